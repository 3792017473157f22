/- Texts of the proof of GatherNamesSaid, joined: GbC GbD GbE GatherNames GatherNamesP. -/
import Derived.Test.YtoojpagpkbcfjaaJGatherNames15
import Derived.Test.YtoojpagpkbcfjaaJGatherNames8
import Derived.Test.YtoojpagpkbcfjaaJGatherNames9
/- Layer 20: the contracts to use. -/
namespace Go.Proofs.Ytoojpagpkbcfjaa
open Go.RowKit
/-- Blocks that change, blocks that never do: they grow by new ones. -/
structure Gro (w w' : World) (K K' Z Z' : Nat → Prop) : Prop where
  k : ∀ b, K b → K' b
  z : ∀ b, Z b → Z' b
  kn : ∀ b, K' b → K b ∨ w.heap.size ≤ b
  zn : ∀ b, Z' b → Z b ∨ w.heap.size ≤ b
  fr : FrK w w' K
theorem Gro.refl {w w' : World} {K Z : Nat → Prop} (h : FrK w w' K) : Gro w w' K K Z Z := ⟨fun _ e => e, fun _ e => e, fun _ e => .inl e, fun _ e => .inl e, h⟩
theorem Gro.trans {w w' w'' : World} {K K' K'' Z Z' Z'' : Nat → Prop} (h : Gro w w' K K' Z Z') (k : Gro w' w'' K' K'' Z' Z'') : Gro w w'' K K'' Z Z'' :=
  ⟨fun b e => k.k b (h.k b e), fun b e => k.z b (h.z b e), fun b e => (k.kn b e).elim (h.kn b) fun e => .inr (Nat.le_trans h.fr.size e), fun b e => (k.zn b e).elim (h.zn b) fun e => .inr (Nat.le_trans h.fr.size e), h.fr.trans k.fr fun b hb e => (h.kn b e).elim id fun e => absurd e (by omega)⟩
/-- A gatherer at block F, k calls old: it says G. -/
def GaS (base : Nat) (w : World) (K Z : Nat → Prop) (F : Nat) (G : GSt) (k : Nat) : Prop := ∃ m, Gf base w K Z F G m ∧ m.ex = none ∧ m.dl.length ≤ k ∧ G.Ok k
theorem next_nil {G : GSt} (h : G.cl = []) : G.next = G := by
  obtain ⟨a, b, c, d, e, cl, l⟩ := G
  have : cl = [] := h
  subst this
  rfl
section
variable {base F k : Nat} {w w' : World} {K K' Z Z' : Nat → Prop} {G : GSt}
theorem GaS.ok (h : GaS base w K Z F G k) : G.Ok k := by
  obtain ⟨m, h1, h2, h3, h4⟩ := h
  exact h4
theorem GaS.lo (h : GaS base w K Z F G k) : ∀ b, K b → base ≤ b ∧ b < w.heap.size := by
  obtain ⟨m, h1, h2, h3, h4⟩ := h
  exact h1.lo
theorem GaS.loZ (h : GaS base w K Z F G k) : ∀ b, Z b → b < w.heap.size := by
  obtain ⟨m, h1, h2, h3, h4⟩ := h
  exact h1.loZ
theorem GaS.kz (h : GaS base w K Z F G k) : ∀ b, K b → ¬Z b := by
  obtain ⟨m, h1, h2, h3, h4⟩ := h
  exact h1.kz
theorem GaS.keep (h : GaS base w K Z F G k) (hf : FrK w w' K') (hd : ∀ b, K b → ¬K' b) (hdz : ∀ b, Z b → ¬K' b) : GaS base w' K Z F G k := by
  obtain ⟨m, h1, h2, h3, h4⟩ := h
  exact ⟨m, h1.keep hf hd hdz, h2, h3, h4⟩
theorem GaS.below (h : GaS base w K Z F G k) (hb : Below w.heap.size w w') : GaS base w' K Z F G k := by
  obtain ⟨m, h1, h2, h3, h4⟩ := h
  exact ⟨m, h1.below hb, h2, h3, h4⟩
theorem GaS.mono {k' : Nat} (h : GaS base w K Z F G k) (hk : k ≤ k') : GaS base w K Z F G k' := by
  obtain ⟨m, h1, h2, h3, h4⟩ := h
  exact ⟨m, h1, h2, Nat.le_trans h3 hk, h4.mono hk⟩
theorem seNew (w : World) (win cap : Int) (h : gaChk win cap = 0) : Calls Try.prog 9 #[.agg #[.int .i64 win, .int .i64 cap]] w fun e w' => ∃ F, e = .returned (.tuple #[ptV F, .int .i64 0]) ∧ GaS w.heap.size w' (fun b => w.heap.size ≤ b ∧ b < w'.heap.size) Kno F (GSt.new win cap) 0 ∧ Below w.heap.size w w' := by
  refine (gaNew w win cap h).mono ?_
  rintro e w' ⟨F, rfl, hF, ⟨m, h1, h2, h3⟩, hb⟩
  exact ⟨F, rfl, ⟨m, h3, h1, by rw [h2]; exact Nat.le_refl _, GSt.new_ok h⟩, hb⟩
theorem seAdd {s : Sp} {A : Option Addr} {n c : Nat} (h : GaS base w K Z F G k) (hk : k ≤ 1000) (ha : RbT w w.heap.size A s.tags) (hn : s.tags.length = n) (hnl : n ≤ 9223372036854775807) :
    Calls Try.prog 14 #[ptV F, spV s A n c] w fun e w' => e = .returned (.tuple #[.int .i64 ((G.add s).2.1 : Nat), .int .i64 ((G.add s).2.2 : Nat)]) ∧ ∃ K' Z', Gro w w' K K' Z Z' ∧ GaS base w' K' Z' F (G.add s).1 (k + 1) := by
  obtain ⟨m, h1, h2, h3, h4⟩ := h
  have hl : m.ce.length = G.cl.length := by rw [← h1.clsE]; simp [clsOf]
  have hnum := h4.num
  have hlate := h4.late
  have hcap := h4.cap
  refine (gaAdd h1 h2 h4.ops (by omega) (by omega) (fun x hx => ?_) ⟨hcap.1, by omega⟩ (by omega) ha hn hnl).mono ?_
  · obtain ⟨q1, q2, q3, -⟩ := h4.opn x hx
    exact ⟨by omega, q2, fun s hs => by have := chk_tags (q3 s hs).1; omega⟩
  · rintro e w' ⟨he, K', Z', m', k1, z1, kn, zn, ex, dl, ce, hG, hf⟩
    exact ⟨he, K', Z', ⟨k1, z1, kn, zn, hf⟩, m', hG, ex, by omega, h4.add s⟩
theorem seTick (h : GaS base w K Z F G k) (hk : k ≤ 1000) {n : Int} (hn : -9223372036854775808 ≤ n ∧ n ≤ 9223372036854775807) :
    Calls Try.prog 11 #[ptV F, .int .i64 n] w fun e w' => e = .returned (.int .i64 ((G.tick n).2 : Nat)) ∧ ∃ K' Z', Gro w w' K K' Z Z' ∧ GaS base w' K' Z' F (G.tick n).1 k := by
  obtain ⟨m, h1, h2, h3, h4⟩ := h
  have hnum := h4.num
  have hcap := h4.cap
  have hwin := h4.win
  refine (gaTick (N := k) h1 h2 h3 (by omega) ⟨by omega, by omega⟩ h4.now (fun x hx => ?_) (by omega) hn).mono ?_
  · obtain ⟨q1, q2, q3, q4, q5, -⟩ := h4.opn x hx
    exact ⟨by omega, fun s hs => by have := chk_tags (q3 s hs).1; omega, q4, q5⟩
  · rintro e w' ⟨he, K', Z', m', k1, z1, kn, zn, ex, dl, hG, hf⟩
    exact ⟨he, K', Z', ⟨k1, z1, kn, zn, hf⟩, m', hG, ex, dl, h4.tick n⟩
/-- A gatherer's Next. -/
def SeNextP (base : Nat) (w : World) (K Z : Nat → Prop) (F : Nat) (G : GSt) (k : Nat) (e : Ending) (w' : World) : Prop :=
  FrK w w' K ∧ GaS base w' K Z F G.next k ∧ ((G.cl = [] ∧ e = .returned (.tuple #[.agg #[.int .u64 0, .int .u64 0, .slice none 0 0], .int .i64 6])) ∨ ∃ t l cl c, G.cl = (t, l) :: cl ∧ e = .returned (.tuple #[clV c, .int .i64 0]) ∧ ClZ w' Z c ∧ c.t = t ∧ sps c.l = l)
theorem seNext (h : GaS base w K Z F G k) (hk : k ≤ 1000) : Calls Try.prog 12 #[ptV F] w (SeNextP base w K Z F G k) := by
  obtain ⟨m, h1, h2, h3, h4⟩ := h
  have hl : m.ce.length = G.cl.length := by rw [← h1.clsE]; simp [clsOf]
  have hnum := h4.num
  have hcl := h1.clsE
  refine (gaNext h1 (by omega)).mono ?_
  rintro e w' ⟨he, hf⟩
  refine ⟨hf, ?_⟩
  cases hce : m.ce with
  | nil =>
    rw [hce] at he hcl
    simp only at he
    obtain ⟨he, hG⟩ := he
    have hn : G.next = G := next_nil hcl.symm
    rw [hn]
    exact ⟨⟨m, hG, h2, h3, h4⟩, .inl ⟨hcl.symm, he⟩⟩
  | cons c ce =>
    rw [hce] at he hcl
    simp only at he
    obtain ⟨he, hz, cv', hG⟩ := he
    exact ⟨⟨_, hG, h2, h3, h4.next⟩, .inr ⟨c.t, sps c.l, clsOf ce, c, hcl.symm, he, hz, rfl, rfl⟩⟩
theorem seClosed (h : GaS base w K Z F G k) (hk : k ≤ 1000) : Calls Try.prog 16 #[ptV F] w (TrsP w (G.cl.map (·.1))) := by
  obtain ⟨m, h1, h2, h3, h4⟩ := h
  have := h4.num
  exact gaClosed h1 (by omega)
theorem seOpen (h : GaS base w K Z F G k) (hk : k ≤ 1000) : Calls Try.prog 22 #[ptV F] w (TrsP w (G.op.map (·.t))) := by
  obtain ⟨m, h1, h2, h3, h4⟩ := h
  have := h4.num
  exact gaOpen h1 h4.ops (by omega)
theorem seEver (h : GaS base w K Z F G k) (t : Tr) : Calls Try.prog 24 #[ptV F, trV t] w fun e w' => e = .returned (.bool (decide (t ∈ G.all))) ∧ Below w.heap.size w w' := by
  obtain ⟨m, h1, h2, h3, h4⟩ := h
  exact gaEver h1 t
theorem seLate (h : GaS base w K Z F G k) : Calls Try.prog 19 #[ptV F] w fun e w' => e = .returned (.int .i64 (G.late : Nat)) ∧ Below w.heap.size w w' := by
  obtain ⟨m, h1, h2, h3, h4⟩ := h
  exact gaLate h1
theorem seNow (h : GaS base w K Z F G k) : Calls Try.prog 21 #[ptV F] w fun e w' => e = .returned (.int .i64 G.now) ∧ Below w.heap.size w w' := by
  obtain ⟨m, h1, h2, h3, h4⟩ := h
  exact gaNow h1
theorem seDue (h : GaS base w K Z F G k) (hk : k ≤ 1000) : Calls Try.prog 25 #[ptV F] w fun e w' => e = .returned (.int .i64 G.due) ∧ FrK w w' K ∧ GaS base w' K Z F G k := by
  obtain ⟨m, h1, h2, h3, h4⟩ := h
  have hwin := h4.win
  refine (gaDue (N := k) h1 h2 h3 (by omega) ⟨by omega, by omega⟩ h4.now fun x hx => ?_).mono ?_
  · obtain ⟨q1, q2, q3, q4, q5, -⟩ := h4.opn x hx
    exact ⟨q4, q5⟩
  · rintro e w' ⟨he, ⟨m', ex, dl, hG⟩, hf⟩
    exact ⟨he, hf, m', hG, ex, dl, h4⟩
end
end Go.Proofs.Ytoojpagpkbcfjaa


/- Layer 20: the statements' own: one, example; SameTraces. -/
namespace Go.Proofs.Ytoojpagpkbcfjaa
open Go.RowKit
attribute [local go_sem ↓] loadTr_shut
/-- A span of a trace, an ID. -/
def gOne (t id : Nat) : Sp := ⟨0, t, id, 0, ⟨#[97]⟩, ⟨#[120]⟩, 0, 0, 0, false, []⟩
set_option maxRecDepth 100000 in
set_option maxHeartbeats 1000000 in
theorem gaOne (w : World) (t id : Nat) : Calls Try.prog 18 #[.int .u64 (t : Int), .int .u64 (id : Int)] w fun e w' => e = .returned (spV (gOne t id) none 0 0) ∧ Below w.heap.size w w' := by
  go_enter Try.func18, Try.ntmps18
  go_wp2_with fail
  try simp only [Exit.inBlock, Exit.then]
  refine bodyPost_ret (results_cell_row rfl _ _ w.heap.size 36 (spC (gOne t id) none 0 0) (0, 0) _ rfl ?_ Try.underlying36 rfl ?_) rfl ?_
  · show (w.alloc _).heap[w.heap.size]? = _
    rw [heap_alloc_new]
    rfl
  · rfl
  · exact ⟨rfl, (Below.refl _ w).alloc (Nat.le_refl _) _⟩
/-- The example's states. -/
def exG : GSt := ((((GSt.new 5 2).add (gOne 1 1)).1.tick 4).1.add (gOne 2 2)).1
theorem FrK.belowK {base : Nat} {w w' : World} {K : Nat → Prop} (h : FrK w w' K) (hk : ∀ b, K b → base ≤ b) (hb : base ≤ w.heap.size) : Below base w w' := h.below hb hk
set_option maxRecDepth 100000 in
set_option maxHeartbeats 2000000 in
theorem gaExample (w : World) : Calls Try.prog 17 #[] w fun e w' => ∃ F K Z, e = .returned (ptV F) ∧ GaS w.heap.size w' K Z F exG 2 ∧ Below w.heap.size w w' := by
  go_enter Try.func17, Try.ntmps17
  go_wp2_with fail
  refine (seNew w 5 2 (by decide)).mono ?_
  rintro e w1 ⟨F, rfl, h1, b1⟩
  have H1 := Lib.hid h1
  have B1 := Lib.hid b1
  clear h1 b1
  go_wp2_with fail
  refine (gaOne w1 1 1).mono ?_
  rintro e w2 ⟨rfl, b2⟩
  have h2 := H1.out.below b2
  have HB2 := Lib.hid (B1.out.trans (b2.mono B1.out.size))
  have H2 := Lib.hid h2
  clear h2 b2
  go_wp2_with fail
  refine (seAdd (s := gOne 1 1) (n := 0) H2.out (by omega) Rd.nil rfl (by omega)).mono ?_
  rintro e w3 ⟨rfl, K3, Z3, g3, h3⟩
  have HB3 := Lib.hid (HB2.out.trans (g3.fr.belowK (fun b hb => (H2.out.lo b hb).1) HB2.out.size))
  have H3 := Lib.hid h3
  clear h3 g3
  go_wp2_with fail
  refine (seTick H3.out (by omega) (n := 4) (by omega)).mono ?_
  rintro e w4 ⟨rfl, K4, Z4, g4, h4⟩
  have HB4 := Lib.hid (HB3.out.trans (g4.fr.belowK (fun b hb => (H3.out.lo b hb).1) HB3.out.size))
  have H4 := Lib.hid h4
  clear h4 g4
  go_wp2_with fail
  refine (gaOne w4 2 2).mono ?_
  rintro e w5 ⟨rfl, b5⟩
  have h5 := H4.out.below b5
  have HB5 := Lib.hid (HB4.out.trans (b5.mono HB4.out.size))
  have H5 := Lib.hid h5
  clear h5 b5
  go_wp2_with fail
  refine (seAdd (s := gOne 2 2) (n := 0) H5.out (by omega) Rd.nil rfl (by omega)).mono ?_
  rintro e w6 ⟨rfl, K6, Z6, g6, h6⟩
  have HB6 := Lib.hid (HB5.out.trans (g6.fr.belowK (fun b hb => (H5.out.lo b hb).1) HB5.out.size))
  have H6 := Lib.hid h6
  clear h6 g6
  go_wp2_with fail
  go_ret
  exact ⟨F, K6, Z6, rfl, H6.out, HB6.out⟩
set_option maxRecDepth 100000 in
set_option maxHeartbeats 4000000 in
theorem kitTraces {A1 A2 : Option Addr} {c1 c2 n m B : Nat} {la lb : List Tr} (w : World) (hf : Rd w B A1 (flatR trL la)) (hg : Rd w B A2 (flatR trL lb)) (hn : la.length = n) (hm : lb.length = m) (hB : B ≤ w.heap.size) (hnl : n ≤ 9223372036854775807) (hml : m ≤ 9223372036854775807) :
    Calls Try.prog 15 #[.slice A1 n c1, .slice A2 m c2] w fun e w' => e = .returned (.bool (decide (la = lb))) ∧ Below w.heap.size w w' := by
  obtain ⟨q, hq⟩ : ∃ q, decide (la = lb) = q := ⟨_, rfl⟩
  rw [hq]
  have HQ := Lib.hid hq
  have HN := Lib.hid hn
  have HM := Lib.hid hm
  have hqq := fun W x y => eqTr W x y
  clear hq hn hm
  by_cases hnm : n = m
  case neg =>
    have d1 : ((n : Int) != (m : Int)) = true := by rw [bne_iff_ne]; omega
    have hq0 : q = false := by
      rw [← HQ.out, decide_eq_false_iff_not]
      intro e
      have := congrArg List.length e
      rw [HN.out, HM.out] at this
      exact hnm this
    have HQ0 := Lib.hid hq0
    clear hq0
    go_enter Try.func15, Try.ntmps15
    go_wp2_with fail
    go_ret
    exact ⟨by rw [HQ0.out]; rfl, Below.refl _ _⟩
  subst hnm
  go_enter Try.func15, Try.ntmps15
  go_wp2_with fail
  go_loopw [5] (fun iv_ wr => ∃ j : Nat, j ≤ n ∧ iv_ = .int .i64 j ∧ Hid (la.take j = lb.take j) ∧ Hid (Below w.heap.size w wr)) (fun i _ => n - (intOf i).toNat)
  case atStart => exact ⟨0, by omega, rfl, Lib.hid rfl, Lib.hid (Below.refl _ _)⟩
  case round =>
    obtain ⟨j, hj, rfl, HA, HB⟩ := hrel
    by_cases hlt : j < n
    · have hlt' : (j : Int) < (n : Int) := by omega
      obtain ⟨x, hx⟩ : ∃ x, la[j]? = some x := ⟨_, List.getElem?_eq_getElem (by rw [HN.out]; exact hlt)⟩
      obtain ⟨y, hy⟩ : ∃ y, lb[j]? = some y := ⟨_, List.getElem?_eq_getElem (by rw [HM.out]; exact hlt)⟩
      have hbd : Below w.heap.size w wr.drew := below_drewN HB.out 1
      obtain ⟨b1, o1, rfl, hbb1, hc1⟩ := flatR_at trL_length (by omega) (Rd.below hf (hbd.mono hB)) hx
      obtain ⟨b2, o2, rfl, hbb2, hc2⟩ := flatR_at trL_length (by omega) (Rd.below hg (hbd.mono hB)) hy
      have hld1 : (loadK 33 ⟨b1, o1 + j * 2, none⟩).run Try.prog wr.drew = .ok (trV x) wr.drew :=
        run_loadVar_cells wr.drew _ _ ⟨b1, o1 + j * 2, none⟩ (trL x) Try.underlying33 rfl (by rfl) (fun k v hv => by
          rw [Addr.add_lit, Nat.add_assoc, hc1 k (by have := (List.getElem?_eq_some_iff.1 hv).1; simpa using this)]
          exact hv)
      have hld2 : (loadK 33 ⟨b2, o2 + j * 2, none⟩).run Try.prog wr.drew = .ok (trV y) wr.drew :=
        run_loadVar_cells wr.drew _ _ ⟨b2, o2 + j * 2, none⟩ (trL y) Try.underlying33 rfl (by rfl) (fun k v hv => by
          rw [Addr.add_lit, Nat.add_assoc, hc2 k (by have := (List.getElem?_eq_some_iff.1 hv).1; simpa using this)]
          exact hv)
      clear hc1 hc2 hqq
      by_cases hxy : x = y
      · have e1 : ((x.hi : Int) == (y.hi : Int)) = true := by rw [hxy]; simp
        have e2 : ((x.lo : Int) == (y.lo : Int)) = true := by rw [hxy]; simp
        have htk : la.take (j + 1) = lb.take (j + 1) := by
          rw [List.take_add_one, List.take_add_one, hx, hy, HA.out, hxy]
        have HT := Lib.hid htk
        have HBD := Lib.hid hbd
        clear htk hxy hx hy hbd
        go_wp2_with fail
        go_region_held3 (fun w' => (loadK 33 ⟨b1, o1 + j * 2, none⟩).run Try.prog w' = .ok (trV x) w' ∧ (loadK 33 ⟨b2, o2 + j * 2, none⟩).run Try.prog w' = .ok (trV y) w') (exact ⟨hld1, hld2⟩) (fail)
        clear hld1 hld2
        go_wp2_with fail
        exact ⟨⟨j + 1, by omega, by go_num, HT, HBD⟩, by simp only [intOf]; omega⟩
      · have hq0 : q = false := by
          rw [← HQ.out, decide_eq_false_iff_not]
          intro e
          rw [e, hy] at hx
          exact hxy (Option.some.inj hx).symm
        have HQ0 := Lib.hid hq0
        have HBD := Lib.hid hbd
        by_cases hh : x.hi = y.hi
        · have hl : x.lo ≠ y.lo := fun e => hxy (by cases x; cases y; simp at hh e; rw [hh, e])
          have e1 : ((x.hi : Int) == (y.hi : Int)) = true := by rw [hh]; simp
          have e2 : ((x.lo : Int) == (y.lo : Int)) = false := by rw [beq_eq_false_iff_ne]; omega
          clear hh hl hxy
          clear hx hy hbd hq0
          go_wp2_with fail
          go_region_held3 (fun w' => (loadK 33 ⟨b1, o1 + j * 2, none⟩).run Try.prog w' = .ok (trV x) w' ∧ (loadK 33 ⟨b2, o2 + j * 2, none⟩).run Try.prog w' = .ok (trV y) w') (exact ⟨hld1, hld2⟩) (fail)
          clear hld1 hld2
          go_wp2_with fail
          go_ret
          exact ⟨by rw [HQ0.out]; rfl, HBD.out⟩
        · have e1 : ((x.hi : Int) == (y.hi : Int)) = false := by rw [beq_eq_false_iff_ne]; omega
          clear hh hxy
          clear hx hy hbd hq0
          go_wp2_with fail
          go_region_held3 (fun w' => (loadK 33 ⟨b1, o1 + j * 2, none⟩).run Try.prog w' = .ok (trV x) w' ∧ (loadK 33 ⟨b2, o2 + j * 2, none⟩).run Try.prog w' = .ok (trV y) w') (exact ⟨hld1, hld2⟩) (fail)
          clear hld1 hld2
          go_wp2_with fail
          go_ret
          exact ⟨by rw [HQ0.out]; rfl, HBD.out⟩
    · obtain rfl : j = n := by omega
      have hq1 : q = true := by
        rw [← HQ.out, decide_eq_true_iff]
        have h1 := HA.out
        rw [List.take_of_length_le (by rw [HN.out]; exact Nat.le_refl _), List.take_of_length_le (by rw [HM.out]; exact Nat.le_refl _)] at h1
        exact h1
      have HQ1 := Lib.hid hq1
      clear hq1 hqq
      go_wp2_with fail
      go_ret
      exact ⟨by rw [HQ1.out]; rfl, HB.out⟩
end Go.Proofs.Ytoojpagpkbcfjaa


/- Layer 20: lives. -/
namespace Go.Proofs.Ytoojpagpkbcfjaa
open Go.RowKit
attribute [local go_sem ↓] loadTr_shut storeKG_shut
theorem ex_due : exG.due = 1 := by decide +kernel
theorem ex_tick : (exG.tick 1).2 = 0 := by decide +kernel
theorem ex_cl : (exG.tick 1).1.cl = [(⟨0, 1⟩, [gOne 1 1])] := by decide +kernel
set_option maxRecDepth 100000 in
theorem liS {w : World} {r n c : Nat} {A : Option Addr} (h : Bk w r 43 #[.int .u64 0, .int .u64 1, .slice A n c]) : (loadK 33 ⟨r, 0, none⟩).run Try.prog w = .ok (.agg #[.int .u64 0, .int .u64 1]) w ∧ w.cell? ⟨r, 2, none⟩ = some (.slice A n c) := by
  refine ⟨run_loadVar_cells w _ _ ⟨r, 0, none⟩ [.int .u64 0, .int .u64 1] Try.underlying33 rfl (by rfl) (fun j v hv => ?_), (h.cell 2).trans rfl⟩
  rw [Addr.add_lit, Nat.zero_add, h.cell j]
  match j, hv with
  | 0, hv => simpa using hv
  | 1, hv => simpa using hv
  | j + 2, hv => simp at hv
theorem RbS.allocG {w : World} {A : Option Addr} {l : List El} (h : RbS w w.heap.size A l) (o : Obj) : RbS (w.alloc o) (w.alloc o).heap.size A l := h.bS ((Below.refl _ w).alloc (Nat.le_refl _) o)
theorem rbOne {w : World} {g : Nat} {s : Sp} (hb : Bk w g 36 (spC s none 0 0)) (hs : s.tags = []) : RbS w w.heap.size (some ⟨g, 0, none⟩) [⟨s, none, 0, 0⟩] := by
  refine ⟨fun _ => ⟨g, 0, rfl, hb.lt, fun j u hu => ?_⟩, fun e he => ?_⟩
  · rw [Nat.zero_add, hb.cell j]
    simpa [els, elC] using hu
  · rw [List.mem_singleton.1 he]
    refine ⟨?_, ?_, Nat.zero_le _⟩
    · show RbT w w.heap.size none s.tags
      rw [hs]
      exact Rd.nil
    · show s.tags.length = 0
      rw [hs]
      rfl
theorem gaSames1 {A : Option Addr} {cc g : Nat} {l : List El} (w : World) (h : RbS w w.heap.size A l) (hb : Bk w g 36 (spC (gOne 1 1) none 0 0)) (hlen : l.length = 1) (hl : sps l = [gOne 1 1]) :
    Calls Try.prog 13 #[.slice A 1 cc, .slice (some ⟨g, 0, none⟩) 1 1] w fun e w' => e = .returned (.bool true) ∧ Below w.heap.size w w' := by
  have h1 := kitSames (c1 := cc) (c2 := 1) (m := 1) w h (rbOne hb rfl) hlen rfl (Nat.le_refl _) (by omega) (by omega)
  rw [hl, decide_eq_true (show [gOne 1 1] = sps [⟨gOne 1 1, none, 0, 0⟩] from rfl)] at h1
  exact h1
set_option maxRecDepth 100000 in
set_option maxHeartbeats 4000000 in
theorem gaLives (w : World) : Calls Try.prog 7 #[] w fun e w' => e = .returned (.bool true) ∧ Below w.heap.size w w' := by
  go_enter Try.func7, Try.ntmps7
  go_wp2_with fail
  refine (gaExample w).mono ?_
  rintro e w1 ⟨F, K1, Z1, rfl, h1, b1⟩
  have H1 := Lib.hid h1
  have B1 := Lib.hid b1
  clear h1 b1
  go_wp2_with fail
  refine (seDue H1.out (by omega)).mono ?_
  rintro e w2 ⟨rfl, f2, h2⟩
  rw [ex_due]
  have HB2 := Lib.hid (B1.out.trans (f2.belowK (fun b hb => (H1.out.lo b hb).1) B1.out.size))
  have H2 := Lib.hid h2
  clear h2 f2
  go_wp2_with fail
  refine (seTick H2.out (by omega) (n := 1) (by omega)).mono ?_
  rintro e w3 ⟨rfl, K3, Z3, g3, h3⟩
  rw [ex_tick]
  have HB3 := Lib.hid (HB2.out.trans (g3.fr.belowK (fun b hb => (H2.out.lo b hb).1) HB2.out.size))
  have H3 := Lib.hid h3
  clear h3 g3
  go_wp2_with fail
  refine (seNext H3.out (by omega)).mono ?_
  rintro e w4 ⟨f4, h4, h5⟩
  have hcl := ex_cl
  rcases h5 with ⟨h6, -⟩ | ⟨t, l, cl, c, h6, rfl, hz, ht, hl⟩
  · rw [hcl] at h6
    cases h6
  rw [hcl] at h6
  injection h6 with h6 _
  injection h6 with h6 h7
  subst h6 h7
  obtain ⟨ct, cl', A, cc⟩ := c
  simp only at ht hl
  subst ht
  have hb4 := HB3.out.trans (f4.belowK (fun b hb => (H3.out.lo b hb).1) HB3.out.size)
  have hlen : cl'.length = 1 := by rw [← sps_length, hl]; rfl
  have hv : clV ⟨⟨0, 1⟩, cl', A, cc⟩ = .agg #[.int .u64 0, .int .u64 1, .slice A 1 cc] := by simp [hlen]
  rw [hv]
  obtain ⟨w5, s5, k5, f5⟩ := gaBox (⟨⟨0, 1⟩, cl', A, cc⟩ : ClE) (Bk.new w4 43 #[.int .u64 0, .int .u64 0, .slice none 0 0]) rfl
  rw [hv] at s5
  have k5 : Bk w5 w4.heap.size 43 #[.int .u64 0, .int .u64 1, .slice A 1 cc] := by
    have e : (clC (⟨⟨0, 1⟩, cl', A, cc⟩ : ClE)).toArray = #[.int .u64 0, .int .u64 1, .slice A 1 cc] := by simp [clC, hlen]
    rw [← e]
    exact k5
  have F45 := ((FrK.refl w4 Kno).alloc (.cells #[.int .u64 0, .int .u64 0, .slice none 0 0] 43)).trans f5 fun b hb e => absurd (show b = w4.heap.size from e) (by omega)
  have hb5 := hb4.trans ((F45.below (Nat.le_refl _) fun b e => e.elim).mono hb4.size)
  have rd5 : RbS w5 w5.heap.size A cl' := (hz.rd.below (F45.below (Nat.le_refl _) fun b e => e.elim)).more F45.size
  have hbd : Below w.heap.size w w5.drew := below_drewN hb5 1
  have rdd : RbS w5.drew w5.drew.heap.size A cl' := rd5.below (Below.refl _ w5).drew
  have bkd : Bk w5.drew w4.heap.size 43 #[.int .u64 0, .int .u64 1, .slice A 1 cc] := k5
  clear h4 f4 hz k5 f5 F45 hb4 hv H1 B1 HB2 H2 HB3 H3 hcl hb5 rd5
  go_wp2_with fail
  go_region_held3 (fun w' => (loadK 33 ⟨w4.heap.size, 0, none⟩).run Try.prog w' = .ok (.agg #[.int .u64 0, .int .u64 1]) w' ∧ w'.cell? ⟨w4.heap.size, 2, none⟩ = some (.slice A 1 cc))
    (exact liS (by assumption))
    (first
      | (go_at_call 18
         refine (gaOne w5.drew 1 1).mono ?_
         rintro e w6 ⟨rfl, hb6⟩
         have b6 := bkd.below hb6 bkd.lt
         have rd6 := (rdd.below hb6).more hb6.size
         have hbw6 := hbd.trans (hb6.mono hbd.size)
         have b7 := b6.alloc (.cells (spC (gOne 1 1) none 0 0) 36)
         have rd7 := rd6.allocG (.cells (spC (gOne 1 1) none 0 0) 36)
         have hbw7 := hbw6.alloc hbw6.size (.cells (spC (gOne 1 1) none 0 0) 36)
         have lit7 := Bk.new w6 36 (spC (gOne 1 1) none 0 0))
      | (go_at_call 13
         refine (gaSames1 _ rd7 lit7 hlen hl).mono ?_
         rintro e w8 ⟨rfl, hb8⟩
         have b8 := b7.below hb8 b7.lt
         have hbw8 := hbw7.trans (hb8.mono hbw7.size))
      | fail)
  all_goals go_wp2_with fail
  all_goals go_ret
  all_goals exact ⟨rfl, hbw8⟩
end Go.Proofs.Ytoojpagpkbcfjaa


/- Layer 20: the walk of GatherNames. -/
namespace Go.Proofs.Ytoojpagpkbcfjaa
open Go.RowKit
attribute [local go_sem ↓] storeKG_shut
theorem ClZ.fr {base F k : Nat} {w w' : World} {K Z : Nat → Prop} {G : GSt} {e : ClE} (h : ClZ w Z e) (hg : GaS base w K Z F G k) (hf : FrK w w' K) : ClZ w' Z e :=
  h.keep (fun b hb => hf.block b (hg.loZ b hb) fun e => hg.kz b e hb) hf.size fun _ e => e
/-- Next, where a closed trace waits. -/
theorem seNext1 {base F k : Nat} {w : World} {K Z : Nat → Prop} {G : GSt} (h : GaS base w K Z F G k) (hk : k ≤ 1000) {t : Tr} {l : List Sp} {cl : List (Tr × List Sp)} {n : Nat} (hcl : G.cl = (t, l) :: cl) (hn : l.length = n) :
    Calls Try.prog 12 #[ptV F] w fun e w' => FrK w w' K ∧ GaS base w' K Z F G.next k ∧ ∃ A c l', e = .returned (.tuple #[.agg #[.int .u64 (t.hi : Nat), .int .u64 (t.lo : Nat), .slice A n c], .int .i64 0]) ∧ ClZ w' Z ⟨t, l', A, c⟩ ∧ sps l' = l ∧ l'.length = n := by
  refine (seNext h hk).mono ?_
  rintro e w' ⟨hf, hG, ⟨h1, -⟩ | ⟨t', l1, cl1, c, h1, rfl, hz, ht, hl⟩⟩
  · rw [hcl] at h1
    cases h1
  · rw [hcl] at h1
    injection h1 with h1 _
    injection h1 with h1 h2
    subst h1 h2
    obtain ⟨ct, l', A, cc⟩ := c
    simp only at ht hl
    subst ht
    have hlen : l'.length = n := by rw [← sps_length, hl, hn]
    exact ⟨hf, hG, A, cc, l', by subst hlen; rfl, hz, hl, hlen⟩
/-- A box for what Next tells. -/
theorem gaBox2 {W : World} {t : Tr} {l' : List El} {A : Option Addr} {c n : Nat} (hl : l'.length = n) : ∃ W2, (storeKG 43 ⟨W.heap.size, 0, none⟩ (.agg #[.int .u64 (t.hi : Nat), .int .u64 (t.lo : Nat), .slice A n c])).run Try.prog (W.alloc (.cells #[.int .u64 0, .int .u64 0, .slice none 0 0] 43)) = .ok () W2 ∧ Bk W2 W.heap.size 43 #[.int .u64 (t.hi : Nat), .int .u64 (t.lo : Nat), .slice A n c] ∧ FrK W W2 Kno := by
  subst hl
  obtain ⟨W2, s2, k2, f2⟩ := gaBox (⟨t, l', A, c⟩ : ClE) (Bk.new W 43 #[.int .u64 0, .int .u64 0, .slice none 0 0]) rfl
  exact ⟨W2, s2, k2, ((FrK.refl W Kno).alloc _).trans f2 fun b hb e => absurd (show b = W.heap.size from e) (by omega)⟩
abbrev e1G : GSt := (exG.tick 1).1
abbrev e2G : GSt := (e1G.add (gOne 1 3)).1
abbrev e3G : GSt := (e2G.add (gOne 2 4)).1
theorem e2_ans : (e1G.add (gOne 1 3)).2 = (2, 0) := by decide +kernel
theorem e2_late : e2G.late = 1 := by decide +kernel
theorem e3_ans : (e2G.add (gOne 2 4)).2 = (3, 0) := by decide +kernel
theorem e3_cl : e3G.cl = [(⟨0, 1⟩, [gOne 1 1]), (⟨0, 2⟩, [gOne 2 2, gOne 2 4])] := by decide +kernel
theorem e4_cl : e3G.next.cl = [(⟨0, 2⟩, [gOne 2 2, gOne 2 4])] := by decide +kernel
theorem e5_cl : e3G.next.next.cl = [] := by decide +kernel
theorem rbTwo {w : World} {g : Nat} {s t : Sp} (hb : Bk w g 36 (spC s none 0 0 ++ spC t none 0 0)) (hs : s.tags = []) (ht : t.tags = []) : RbS w w.heap.size (some ⟨g, 0, none⟩) [⟨s, none, 0, 0⟩, ⟨t, none, 0, 0⟩] := by
  refine ⟨fun _ => ⟨g, 0, rfl, hb.lt, fun j u hu => ?_⟩, fun e he => ?_⟩
  · rw [Nat.zero_add, hb.cell j]
    simpa [els, elC] using hu
  · have hq : ∀ r : Sp, r.tags = [] → ElOk w w.heap.size ⟨r, none, 0, 0⟩ := fun r hr => ⟨by
      show RbT w w.heap.size none r.tags
      rw [hr]
      exact Rd.nil, by
      show r.tags.length = 0
      rw [hr]
      rfl, Nat.zero_le _⟩
    rcases List.mem_cons.1 he with rfl | he
    · exact hq s hs
    · rw [List.mem_singleton.1 he]
      exact hq t ht
theorem gaSames2 {A : Option Addr} {cc g : Nat} {l : List El} (w : World) (h : RbS w w.heap.size A l) (hb : Bk w g 36 (spC (gOne 2 2) none 0 0 ++ spC (gOne 2 4) none 0 0)) (hlen : l.length = 2) (hl : sps l = [gOne 2 2, gOne 2 4]) :
    Calls Try.prog 13 #[.slice A 2 cc, .slice (some ⟨g, 0, none⟩) 2 2] w fun e w' => e = .returned (.bool true) ∧ Below w.heap.size w w' := by
  have h1 := kitSames (c1 := cc) (c2 := 2) (m := 2) w h (rbTwo hb rfl rfl) hlen rfl (Nat.le_refl _) (by omega) (by omega)
  rw [hl, decide_eq_true (show [gOne 2 2, gOne 2 4] = sps [⟨gOne 2 2, none, 0, 0⟩, ⟨gOne 2 4, none, 0, 0⟩] from rfl)] at h1
  exact h1
theorem gaTraces2 {A : Option Addr} {cc g : Nat} (w : World) (h : Rd w w.heap.size A (flatR trL [⟨0, 1⟩, ⟨0, 2⟩])) (hb : Bk w g 33 #[.int .u64 0, .int .u64 1, .int .u64 0, .int .u64 2]) :
    Calls Try.prog 15 #[.slice A 2 cc, .slice (some ⟨g, 0, none⟩) 2 2] w fun e w' => e = .returned (.bool true) ∧ Below w.heap.size w w' := by
  have h2 : Rd w w.heap.size (some ⟨g, 0, none⟩) (flatR trL [⟨0, 1⟩, ⟨0, 2⟩]) := fun _ => ⟨g, 0, rfl, hb.lt, fun j u hu => by
    rw [Nat.zero_add, hb.cell j]
    simpa [flatR, trL] using hu⟩
  have h1 := kitTraces (c1 := cc) (c2 := 2) (n := 2) (m := 2) w h h2 rfl rfl (Nat.le_refl _) (by omega) (by omega)
  rw [decide_eq_true rfl] at h1
  exact h1
set_option maxRecDepth 100000 in
set_option maxHeartbeats 8000000 in
theorem gatherNames_walk (w : World) : Calls Try.prog 4 #[] w fun e w' => e = .returned (.bool true) ∧ Below w.heap.size w w' := by
  go_enter Try.func4, Try.ntmps4
  go_wp2_with fail
  refine (gaExample w).mono ?_
  rintro e w1 ⟨F, K1, Z1, rfl, h1, b1⟩
  have H1 := Lib.hid h1
  have B1 := Lib.hid b1
  clear h1 b1
  go_wp2_with fail
  refine (gaLives w1).mono ?_
  rintro e w2 ⟨rfl, b2⟩
  have H2 := Lib.hid (H1.out.below b2)
  have B2 := Lib.hid (B1.out.trans (b2.mono B1.out.size))
  clear b2
  go_wp2_with fail
  refine (seTick H2.out (by omega) (n := 1) (by omega)).mono ?_
  rintro e w3 ⟨rfl, K3, Z3, g3, h3⟩
  have B3 := Lib.hid (B2.out.trans (g3.fr.belowK (fun b hb => (H2.out.lo b hb).1) B2.out.size))
  have H3 := Lib.hid h3
  clear h3 g3
  go_wp2_with fail
  refine (gaOne w3 1 3).mono ?_
  rintro e w4 ⟨rfl, b4⟩
  have H4 := Lib.hid (H3.out.below b4)
  have B4 := Lib.hid (B3.out.trans (b4.mono B3.out.size))
  clear b4
  go_wp2_with fail
  refine (seAdd (s := gOne 1 3) (n := 0) H4.out (by omega) Rd.nil rfl (by omega)).mono ?_
  rintro e w5 ⟨he, K5, Z5, g5, h5⟩
  rw [show (GSt.add (exG.tick 1).1 (gOne 1 3)).2 = _ from e2_ans] at he
  obtain rfl := he
  have B5 := Lib.hid (B4.out.trans (g5.fr.belowK (fun b hb => (H4.out.lo b hb).1) B4.out.size))
  have H5 := Lib.hid h5
  clear h5 g5
  go_wp2_with fail
  refine (seLate H5.out).mono ?_
  rintro e w6 ⟨he, b6⟩
  rw [show (GSt.add (exG.tick 1).1 (gOne 1 3)).1.late = _ from e2_late] at he
  obtain rfl := he
  have H6 := Lib.hid (H5.out.below b6)
  have B6 := Lib.hid (B5.out.trans (b6.mono B5.out.size))
  clear b6
  go_wp2_with fail
  refine (gaOne w6 2 4).mono ?_
  rintro e w7 ⟨rfl, b7⟩
  have H7 := Lib.hid (H6.out.below b7)
  have B7 := Lib.hid (B6.out.trans (b7.mono B6.out.size))
  clear b7
  go_wp2_with fail
  refine (seAdd (s := gOne 2 4) (n := 0) H7.out (by omega) Rd.nil rfl (by omega)).mono ?_
  rintro e w8 ⟨he, K8, Z8, g8, h8⟩
  rw [show (GSt.add (GSt.add (exG.tick 1).1 (gOne 1 3)).1 (gOne 2 4)).2 = _ from e3_ans] at he
  obtain rfl := he
  have B8 := Lib.hid (B7.out.trans (g8.fr.belowK (fun b hb => (H7.out.lo b hb).1) B7.out.size))
  have H8 := Lib.hid h8
  clear h8 g8
  go_wp2_with fail
  refine (seClosed H8.out (by omega)).mono ?_
  rintro e w9 ⟨A9, c9, he, own9, b9⟩
  rw [show (GSt.add (GSt.add (exG.tick 1).1 (gOne 1 3)).1 (gOne 2 4)).1.cl = _ from e3_cl] at he own9
  change _ = Ending.returned (.slice A9 2 c9) at he
  obtain rfl := he
  have own9 : w9.ownsRow w8.heap.size 33 2 (.slice A9 2 c9) 2 (flatR trL [⟨0, 1⟩, ⟨0, 2⟩]) := own9
  have H9 := Lib.hid (H8.out.below b9)
  have B9 := Lib.hid (B8.out.trans (b9.mono B8.out.size))
  have hnk : ∀ b, w8.heap.size ≤ b → ¬K8 b := fun b hb e => by
    have := (H8.out.lo b e).2
    omega
  have HNK := Lib.hid hnk
  have OW9 := Lib.hid own9
  have S9 := Lib.hid b9.size
  clear b9 own9 hnk
  go_wp2_with fail
  refine (seNext1 H9.out (by omega) e3_cl (n := 1) rfl).mono ?_
  rintro e w10 ⟨f10, h10, A10, c10, l10, rfl, -, -, hl10⟩
  obtain ⟨w11, s11, k11, f11⟩ := gaBox2 (W := w10) (t := ⟨0, 1⟩) (A := A10) (c := c10) hl10
  have s11' : (storeKG 43 ⟨w10.heap.size, 0, none⟩ (.agg #[.int .u64 0, .int .u64 1, .slice A10 1 c10])).run Try.prog (w10.alloc (.cells #[.int .u64 0, .int .u64 0, .slice none 0 0] 43)) = .ok () w11 := s11
  have k11 : Bk w11 w10.heap.size 43 #[.int .u64 0, .int .u64 1, .slice A10 1 c10] := k11
  obtain ⟨r1, hr1⟩ : ∃ r1, w10.heap.size = r1 := ⟨_, rfl⟩
  have H11 := Lib.hid (h10.below (f11.below (Nat.le_refl _) fun _ e => e.elim))
  have F11 := Lib.hid (f10.trans f11 fun _ _ e => e.elim)
  have K11 := Lib.hid k11
  have HR1 := Lib.hid hr1
  have SZ1 := Lib.hid f10.size
  clear f10 h10 f11 k11 s11 hr1
  go_wp2_with fail
  refine (seNext1 H11.out (by omega) e4_cl (n := 2) rfl).mono ?_
  rintro e w12 ⟨f12, h12, A12, c12, l12, rfl, hz12, hq12, hl12⟩
  obtain ⟨w13, s13, k13, f13⟩ := gaBox2 (W := w12) (t := ⟨0, 2⟩) (A := A12) (c := c12) hl12
  have s13' : (storeKG 43 ⟨w12.heap.size, 0, none⟩ (.agg #[.int .u64 0, .int .u64 2, .slice A12 2 c12])).run Try.prog (w12.alloc (.cells #[.int .u64 0, .int .u64 0, .slice none 0 0] 43)) = .ok () w13 := s13
  have k13 : Bk w13 w12.heap.size 43 #[.int .u64 0, .int .u64 2, .slice A12 2 c12] := k13
  have H13 := Lib.hid (h12.below (f13.below (Nat.le_refl _) fun _ e => e.elim))
  have F13 := Lib.hid (f12.trans f13 fun _ _ e => e.elim)
  have K13 := Lib.hid k13
  have SZ2 := Lib.hid f12.size
  have HZ13 := Lib.hid (hz12.fr h12 (f13.mono fun _ _ e => e.elim))
  have HQ := Lib.hid hq12
  clear f12 h12 f13 k13 s13 hz12 hq12 s11'
  go_wp2_with fail
  refine (seNext H13.out (by omega)).mono ?_
  rintro e w14 ⟨f14, h14, h15⟩
  rcases h15 with ⟨-, rfl⟩ | ⟨t, l, cl, c, h15, -⟩
  rotate_left
  · rw [e5_cl] at h15
    cases h15
  obtain ⟨w15, s15, k15, f15⟩ := gaBox2 (W := w14) (t := ⟨0, 0⟩) (l' := []) (A := none) (c := 0) (n := 0) rfl
  have s15' : (storeKG 43 ⟨w14.heap.size, 0, none⟩ (.agg #[.int .u64 0, .int .u64 0, .slice none 0 0])).run Try.prog (w14.alloc (.cells #[.int .u64 0, .int .u64 0, .slice none 0 0] 43)) = .ok () w15 := s15
  -- all that the last row reads
  have hz15 := (HZ13.out.fr H13.out f14).fr h14 (f15.mono fun _ _ e => e.elim)
  have F15 := f14.trans f15 fun _ _ e => e.elim
  have kx : Bk w15 w10.heap.size 43 #[.int .u64 0, .int .u64 1, .slice A10 1 c10] := F15.bk (F13.out.bk K11.out (HNK.out _ (by have := S9.out; have := SZ1.out; omega))) (HNK.out _ (by have := S9.out; have := SZ1.out; omega))
  have ky : Bk w15 w12.heap.size 43 #[.int .u64 0, .int .u64 2, .slice A12 2 c12] := F15.bk K13.out (HNK.out _ (by have := S9.out; have := SZ1.out; have := SZ2.out; have := F11.out.size; omega))
  have F9 := ((F11.out.trans F13.out fun _ _ e => e).trans F15 fun _ _ e => e)
  have own15 : w15.ownsRow w8.heap.size 33 2 (.slice A9 2 c9) 2 (flatR trL [⟨0, 1⟩, ⟨0, 2⟩]) := own_of OW9.out fun g e => F9.block g (OW9.out.lt g e).2 (HNK.out g (OW9.out.lt g e).1)
  have rdl := Rd.of_own own15
  have rdy := hz15.rd
  have hb15 := B9.out.trans (F9.belowK (fun b hb => (H9.out.lo b hb).1) B9.out.size)
  have hbd : Below w.heap.size w w15.drew := below_drewN hb15 1
  have kxd : Bk w15.drew w10.heap.size 43 #[.int .u64 0, .int .u64 1, .slice A10 1 c10] := kx
  have kyd : Bk w15.drew w12.heap.size 43 #[.int .u64 0, .int .u64 2, .slice A12 2 c12] := ky
  have rdld : Rd w15.drew w15.drew.heap.size A9 (flatR trL [⟨0, 1⟩, ⟨0, 2⟩]) := rdl.drew
  have rdyd : RbS w15.drew w15.drew.heap.size A12 l12 := rdy.below (Below.refl _ w15).drew
  -- the literal of traces
  have kx1 := kxd.alloc (.cells #[.int .u64 0, .int .u64 1, .int .u64 0, .int .u64 2] 33)
  have ky1 := kyd.alloc (.cells #[.int .u64 0, .int .u64 1, .int .u64 0, .int .u64 2] 33)
  have rdl1 : Rd (w15.drew.alloc (.cells #[.int .u64 0, .int .u64 1, .int .u64 0, .int .u64 2] 33)) (w15.drew.alloc (.cells #[.int .u64 0, .int .u64 1, .int .u64 0, .int .u64 2] 33)).heap.size A9 (flatR trL [⟨0, 1⟩, ⟨0, 2⟩]) := Rd.more (Rd.alloc rdld (Nat.le_refl _) _) (by simp)
  have lit1 := Bk.new w15.drew 33 #[.int .u64 0, .int .u64 1, .int .u64 0, .int .u64 2]
  have rdy1 := rdyd.allocG (.cells #[.int .u64 0, .int .u64 1, .int .u64 0, .int .u64 2] 33)
  have hb1 := hbd.alloc hbd.size (.cells #[.int .u64 0, .int .u64 1, .int .u64 0, .int .u64 2] 33)
  clear f14 h14 s15 k15 f15 hz15 F15 kx ky F9 own15 rdl rdy hb15 rdld rdyd s13' 
  clear H1 B1 H2 B2 H3 B3 H4 B4 H5 B5 H6 B6 H7 B7 H8 B8 H9 B9 HNK OW9 S9 H11 F11 K11 HR1 SZ1 H13 F13 K13 SZ2 HZ13
  go_wp2_with fail
  go_region_held3 (fun w' => w'.cell? ⟨w10.heap.size, 1, none⟩ = some (.int .u64 1) ∧ w'.cell? ⟨w12.heap.size, 2, none⟩ = some (.slice A12 2 c12))
    (exact ⟨((by assumption : Bk _ w10.heap.size 43 _).cell 1).trans rfl, ((by assumption : Bk _ w12.heap.size 43 _).cell 2).trans rfl⟩)
    (first
      | (go_at_call 15
         refine (gaTraces2 _ rdl1 lit1).mono ?_
         rintro e w16 ⟨rfl, b16⟩
         have kx2 := kx1.below b16 kx1.lt
         have ky2 := ky1.below b16 ky1.lt
         have rdy2 := rdy1.bS b16
         have hb2 := hb1.trans (b16.mono hb1.size))
      | (go_at_call 18
         refine (gaOne w16 2 2).mono ?_
         rintro e w17 ⟨rfl, b17⟩
         have kx3 := kx2.below b17 kx2.lt
         have ky3 := ky2.below b17 ky2.lt
         have rdy3 := rdy2.bS b17
         have hb3 := hb2.trans (b17.mono hb2.size))
      | (go_at_call 18
         refine (gaOne w17 2 4).mono ?_
         rintro e w18 ⟨rfl, b18⟩
         have kx4 := kx3.below b18 kx3.lt
         have ky4 := ky3.below b18 ky3.lt
         have kx5 := kx4.alloc (.cells (spC (gOne 2 2) none 0 0 ++ spC (gOne 2 4) none 0 0) 36)
         have ky5 := ky4.alloc (.cells (spC (gOne 2 2) none 0 0 ++ spC (gOne 2 4) none 0 0) 36)
         have rdy5 := (rdy3.bS b18).allocG (.cells (spC (gOne 2 2) none 0 0 ++ spC (gOne 2 4) none 0 0) 36)
         have hb4 := hb3.trans (b18.mono hb3.size)
         have hb5 := hb4.alloc hb4.size (.cells (spC (gOne 2 2) none 0 0 ++ spC (gOne 2 4) none 0 0) 36)
         have lit5 := Bk.new w18 36 (spC (gOne 2 2) none 0 0 ++ spC (gOne 2 4) none 0 0))
      | (go_at_call 13
         refine (gaSames2 _ rdy5 lit5 hl12 HQ.out).mono ?_
         rintro e w19 ⟨rfl, b19⟩
         have kx6 := kx5.below b19 kx5.lt
         have ky6 := ky5.below b19 ky5.lt
         have hb6 := hb5.trans (b19.mono hb5.size))
      | fail)
  all_goals go_wp2_with fail
  all_goals go_ret
  all_goals exact ⟨rfl, hb6⟩
end Go.Proofs.Ytoojpagpkbcfjaa


/- The statement GatherNames, out of its walk. -/
namespace Go.Proofs.Ytoojpagpkbcfjaa
open Go.ChangeShapes Go.WideShapes Go.ChangeAt Go.RowKit
open Go.ChangeMaps (open_string shut_string)

set_option maxRecDepth 100000 in
theorem gatherNames_lifted (os : Os) (started : os.Started) (H : Type) (enc : TypeId × Value → H) :
    ReturnsInHanded {} Try.checked os 4 .any (Rows.gatherNamesSpec.pre6 enc Try.prog Try.f4 Rows.gatherNamesRow.domain false) (Rows.gatherNamesSpec.post enc Try.prog Try.f4 false true false false) := by
  refine returnsInHanded_of_change (C := Try.checked) ownKnob_none started (by kernel_rfl) Try.func4
    (ChangeSpec.witness6 (enc := enc) (C := Try.checked) false ⟨#[], #[], []⟩ 8 (by kernel_rfl) (by kernel_rfl) (by kernel_rfl) (by kernel_rfl)) ?_
  intro W base args ds gs before hval0 hW _ _
  have hval : ∀ (j : Nat) t v, Try.f4.params[j]? = some t → args[j]? = some v → Value.okWide Try.prog W .any base t v := hval0
  have hW' := hW
  obtain ⟨p, q, hA0, hV, rfl, hfz, hnd⟩ := hW
  have hA : DataW.TrodAll enc Try.prog W 0 (fun _ => true) true Try.f4.params.toList args.toList ds p := hA0
  rw [Try.params4] at hA hval
  obtain ⟨hargs, rfl, rfl⟩ := trodAll_nil hA
  obtain rfl : args = #[] := by cases args; simp_all
  obtain ⟨rfl, rfl⟩ := trodVars_none hV
  clear hA0 hval0
  refine (gatherNames_walk  W ).mono fun e W' ⟨he, bel⟩ => ?_
  subst he
  exact ⟨_, rfl, _, _, _, [], _, [], hW', trodAll_mk1 (shut_bool Try.underlying4 _), trodAll_mk0, rfl, bel.frame _, fun h => by cases h⟩

/-- GatherNames: for every input the law returns true, and what came in reads as it did. -/
theorem gatherNames_holds : Rows.GatherNamesSaid :=
  OpenClaim.holds_of_wide 4 Try.f4 rfl rfl rfl rfl rfl rfl rfl ⟨rfl, rfl, rfl, rfl, rfl⟩ rfl rfl rfl rfl rfl (by kernel_rfl) Try.func4 (by kernel_rfl)
    (of_decide_eq_true (by kernel_rfl)) (by unfold Func.isWrapper; first | (rw [if_pos (by decide +kernel)]; kernel_rfl) | (rw [if_neg (by decide +kernel)]; exact ⟨rfl, rfl⟩))
    (fun os started H enc _ => gatherNames_lifted os started H enc)
#print axioms gatherNames_holds
end Go.Proofs.Ytoojpagpkbcfjaa

