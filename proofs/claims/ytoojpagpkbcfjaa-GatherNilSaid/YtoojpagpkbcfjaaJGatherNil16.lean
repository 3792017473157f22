/- Texts of the proof of GatherNilSaid, joined: GbC GbD GbE GbF GbI GatherNil GatherNilP. -/
import Derived.Test.YtoojpagpkbcfjaaJGatherNil15
import Derived.Test.YtoojpagpkbcfjaaJGatherNil8
import Derived.Test.YtoojpagpkbcfjaaJGatherNil9
import Derived.Deep.Slices
/- Layer 20: the contracts to use. -/
namespace Go.Proofs.Ytoojpagpkbcfjaa
open Go.RowKit
/-- Blocks that change, blocks that never do: they grow by new ones. -/
structure Gro (w w' : World) (K K' Z Z' : Nat → Prop) : Prop where
  k : ∀ b, K b → K' b
  z : ∀ b, Z b → Z' b
  kn : ∀ b, K' b → K b ∨ w.heap.size ≤ b
  zn : ∀ b, Z' b → Z b ∨ w.heap.size ≤ b
  fr : FrK w w' K
theorem Gro.refl {w w' : World} {K Z : Nat → Prop} (h : FrK w w' K) : Gro w w' K K Z Z := ⟨fun _ e => e, fun _ e => e, fun _ e => .inl e, fun _ e => .inl e, h⟩
theorem Gro.trans {w w' w'' : World} {K K' K'' Z Z' Z'' : Nat → Prop} (h : Gro w w' K K' Z Z') (k : Gro w' w'' K' K'' Z' Z'') : Gro w w'' K K'' Z Z'' :=
  ⟨fun b e => k.k b (h.k b e), fun b e => k.z b (h.z b e), fun b e => (k.kn b e).elim (h.kn b) fun e => .inr (Nat.le_trans h.fr.size e), fun b e => (k.zn b e).elim (h.zn b) fun e => .inr (Nat.le_trans h.fr.size e), h.fr.trans k.fr fun b hb e => (h.kn b e).elim id fun e => absurd e (by omega)⟩
/-- A gatherer at block F, k calls old: it says G. -/
def GaS (base : Nat) (w : World) (K Z : Nat → Prop) (F : Nat) (G : GSt) (k : Nat) : Prop := ∃ m, Gf base w K Z F G m ∧ m.ex = none ∧ m.dl.length ≤ k ∧ G.Ok k
theorem next_nil {G : GSt} (h : G.cl = []) : G.next = G := by
  obtain ⟨a, b, c, d, e, cl, l⟩ := G
  have : cl = [] := h
  subst this
  rfl
section
variable {base F k : Nat} {w w' : World} {K K' Z Z' : Nat → Prop} {G : GSt}
theorem GaS.ok (h : GaS base w K Z F G k) : G.Ok k := by
  obtain ⟨m, h1, h2, h3, h4⟩ := h
  exact h4
theorem GaS.lo (h : GaS base w K Z F G k) : ∀ b, K b → base ≤ b ∧ b < w.heap.size := by
  obtain ⟨m, h1, h2, h3, h4⟩ := h
  exact h1.lo
theorem GaS.loZ (h : GaS base w K Z F G k) : ∀ b, Z b → b < w.heap.size := by
  obtain ⟨m, h1, h2, h3, h4⟩ := h
  exact h1.loZ
theorem GaS.kz (h : GaS base w K Z F G k) : ∀ b, K b → ¬Z b := by
  obtain ⟨m, h1, h2, h3, h4⟩ := h
  exact h1.kz
theorem GaS.keep (h : GaS base w K Z F G k) (hf : FrK w w' K') (hd : ∀ b, K b → ¬K' b) (hdz : ∀ b, Z b → ¬K' b) : GaS base w' K Z F G k := by
  obtain ⟨m, h1, h2, h3, h4⟩ := h
  exact ⟨m, h1.keep hf hd hdz, h2, h3, h4⟩
theorem GaS.below (h : GaS base w K Z F G k) (hb : Below w.heap.size w w') : GaS base w' K Z F G k := by
  obtain ⟨m, h1, h2, h3, h4⟩ := h
  exact ⟨m, h1.below hb, h2, h3, h4⟩
theorem GaS.mono {k' : Nat} (h : GaS base w K Z F G k) (hk : k ≤ k') : GaS base w K Z F G k' := by
  obtain ⟨m, h1, h2, h3, h4⟩ := h
  exact ⟨m, h1, h2, Nat.le_trans h3 hk, h4.mono hk⟩
theorem seNew (w : World) (win cap : Int) (h : gaChk win cap = 0) : Calls Try.prog 9 #[.agg #[.int .i64 win, .int .i64 cap]] w fun e w' => ∃ F, e = .returned (.tuple #[ptV F, .int .i64 0]) ∧ GaS w.heap.size w' (fun b => w.heap.size ≤ b ∧ b < w'.heap.size) Kno F (GSt.new win cap) 0 ∧ Below w.heap.size w w' := by
  refine (gaNew w win cap h).mono ?_
  rintro e w' ⟨F, rfl, hF, ⟨m, h1, h2, h3⟩, hb⟩
  exact ⟨F, rfl, ⟨m, h3, h1, by rw [h2]; exact Nat.le_refl _, GSt.new_ok h⟩, hb⟩
theorem seAdd {s : Sp} {A : Option Addr} {n c : Nat} (h : GaS base w K Z F G k) (hk : k ≤ 1000) (ha : RbT w w.heap.size A s.tags) (hn : s.tags.length = n) (hnl : n ≤ 9223372036854775807) :
    Calls Try.prog 14 #[ptV F, spV s A n c] w fun e w' => e = .returned (.tuple #[.int .i64 ((G.add s).2.1 : Nat), .int .i64 ((G.add s).2.2 : Nat)]) ∧ ∃ K' Z', Gro w w' K K' Z Z' ∧ GaS base w' K' Z' F (G.add s).1 (k + 1) := by
  obtain ⟨m, h1, h2, h3, h4⟩ := h
  have hl : m.ce.length = G.cl.length := by rw [← h1.clsE]; simp [clsOf]
  have hnum := h4.num
  have hlate := h4.late
  have hcap := h4.cap
  refine (gaAdd h1 h2 h4.ops (by omega) (by omega) (fun x hx => ?_) ⟨hcap.1, by omega⟩ (by omega) ha hn hnl).mono ?_
  · obtain ⟨q1, q2, q3, -⟩ := h4.opn x hx
    exact ⟨by omega, q2, fun s hs => by have := chk_tags (q3 s hs).1; omega⟩
  · rintro e w' ⟨he, K', Z', m', k1, z1, kn, zn, ex, dl, ce, hG, hf⟩
    exact ⟨he, K', Z', ⟨k1, z1, kn, zn, hf⟩, m', hG, ex, by omega, h4.add s⟩
theorem seTick (h : GaS base w K Z F G k) (hk : k ≤ 1000) {n : Int} (hn : -9223372036854775808 ≤ n ∧ n ≤ 9223372036854775807) :
    Calls Try.prog 11 #[ptV F, .int .i64 n] w fun e w' => e = .returned (.int .i64 ((G.tick n).2 : Nat)) ∧ ∃ K' Z', Gro w w' K K' Z Z' ∧ GaS base w' K' Z' F (G.tick n).1 k := by
  obtain ⟨m, h1, h2, h3, h4⟩ := h
  have hnum := h4.num
  have hcap := h4.cap
  have hwin := h4.win
  refine (gaTick (N := k) h1 h2 h3 (by omega) ⟨by omega, by omega⟩ h4.now (fun x hx => ?_) (by omega) hn).mono ?_
  · obtain ⟨q1, q2, q3, q4, q5, -⟩ := h4.opn x hx
    exact ⟨by omega, fun s hs => by have := chk_tags (q3 s hs).1; omega, q4, q5⟩
  · rintro e w' ⟨he, K', Z', m', k1, z1, kn, zn, ex, dl, hG, hf⟩
    exact ⟨he, K', Z', ⟨k1, z1, kn, zn, hf⟩, m', hG, ex, dl, h4.tick n⟩
/-- A gatherer's Next. -/
def SeNextP (base : Nat) (w : World) (K Z : Nat → Prop) (F : Nat) (G : GSt) (k : Nat) (e : Ending) (w' : World) : Prop :=
  FrK w w' K ∧ GaS base w' K Z F G.next k ∧ ((G.cl = [] ∧ e = .returned (.tuple #[.agg #[.int .u64 0, .int .u64 0, .slice none 0 0], .int .i64 6])) ∨ ∃ t l cl c, G.cl = (t, l) :: cl ∧ e = .returned (.tuple #[clV c, .int .i64 0]) ∧ ClZ w' Z c ∧ c.t = t ∧ sps c.l = l)
theorem seNext (h : GaS base w K Z F G k) (hk : k ≤ 1000) : Calls Try.prog 12 #[ptV F] w (SeNextP base w K Z F G k) := by
  obtain ⟨m, h1, h2, h3, h4⟩ := h
  have hl : m.ce.length = G.cl.length := by rw [← h1.clsE]; simp [clsOf]
  have hnum := h4.num
  have hcl := h1.clsE
  refine (gaNext h1 (by omega)).mono ?_
  rintro e w' ⟨he, hf⟩
  refine ⟨hf, ?_⟩
  cases hce : m.ce with
  | nil =>
    rw [hce] at he hcl
    simp only at he
    obtain ⟨he, hG⟩ := he
    have hn : G.next = G := next_nil hcl.symm
    rw [hn]
    exact ⟨⟨m, hG, h2, h3, h4⟩, .inl ⟨hcl.symm, he⟩⟩
  | cons c ce =>
    rw [hce] at he hcl
    simp only at he
    obtain ⟨he, hz, cv', hG⟩ := he
    exact ⟨⟨_, hG, h2, h3, h4.next⟩, .inr ⟨c.t, sps c.l, clsOf ce, c, hcl.symm, he, hz, rfl, rfl⟩⟩
theorem seClosed (h : GaS base w K Z F G k) (hk : k ≤ 1000) : Calls Try.prog 16 #[ptV F] w (TrsP w (G.cl.map (·.1))) := by
  obtain ⟨m, h1, h2, h3, h4⟩ := h
  have := h4.num
  exact gaClosed h1 (by omega)
theorem seOpen (h : GaS base w K Z F G k) (hk : k ≤ 1000) : Calls Try.prog 22 #[ptV F] w (TrsP w (G.op.map (·.t))) := by
  obtain ⟨m, h1, h2, h3, h4⟩ := h
  have := h4.num
  exact gaOpen h1 h4.ops (by omega)
theorem seEver (h : GaS base w K Z F G k) (t : Tr) : Calls Try.prog 24 #[ptV F, trV t] w fun e w' => e = .returned (.bool (decide (t ∈ G.all))) ∧ Below w.heap.size w w' := by
  obtain ⟨m, h1, h2, h3, h4⟩ := h
  exact gaEver h1 t
theorem seLate (h : GaS base w K Z F G k) : Calls Try.prog 19 #[ptV F] w fun e w' => e = .returned (.int .i64 (G.late : Nat)) ∧ Below w.heap.size w w' := by
  obtain ⟨m, h1, h2, h3, h4⟩ := h
  exact gaLate h1
theorem seNow (h : GaS base w K Z F G k) : Calls Try.prog 21 #[ptV F] w fun e w' => e = .returned (.int .i64 G.now) ∧ Below w.heap.size w w' := by
  obtain ⟨m, h1, h2, h3, h4⟩ := h
  exact gaNow h1
theorem seDue (h : GaS base w K Z F G k) (hk : k ≤ 1000) : Calls Try.prog 25 #[ptV F] w fun e w' => e = .returned (.int .i64 G.due) ∧ FrK w w' K ∧ GaS base w' K Z F G k := by
  obtain ⟨m, h1, h2, h3, h4⟩ := h
  have hwin := h4.win
  refine (gaDue (N := k) h1 h2 h3 (by omega) ⟨by omega, by omega⟩ h4.now fun x hx => ?_).mono ?_
  · obtain ⟨q1, q2, q3, q4, q5, -⟩ := h4.opn x hx
    exact ⟨q4, q5⟩
  · rintro e w' ⟨he, ⟨m', ex, dl, hG⟩, hf⟩
    exact ⟨he, hf, m', hG, ex, dl, h4⟩
end
end Go.Proofs.Ytoojpagpkbcfjaa


/- Layer 20: the statements' own: one, example; SameTraces. -/
namespace Go.Proofs.Ytoojpagpkbcfjaa
open Go.RowKit
attribute [local go_sem ↓] loadTr_shut
/-- A span of a trace, an ID. -/
def gOne (t id : Nat) : Sp := ⟨0, t, id, 0, ⟨#[97]⟩, ⟨#[120]⟩, 0, 0, 0, false, []⟩
set_option maxRecDepth 100000 in
set_option maxHeartbeats 1000000 in
theorem gaOne (w : World) (t id : Nat) : Calls Try.prog 18 #[.int .u64 (t : Int), .int .u64 (id : Int)] w fun e w' => e = .returned (spV (gOne t id) none 0 0) ∧ Below w.heap.size w w' := by
  go_enter Try.func18, Try.ntmps18
  go_wp2_with fail
  try simp only [Exit.inBlock, Exit.then]
  refine bodyPost_ret (results_cell_row rfl _ _ w.heap.size 36 (spC (gOne t id) none 0 0) (0, 0) _ rfl ?_ Try.underlying36 rfl ?_) rfl ?_
  · show (w.alloc _).heap[w.heap.size]? = _
    rw [heap_alloc_new]
    rfl
  · rfl
  · exact ⟨rfl, (Below.refl _ w).alloc (Nat.le_refl _) _⟩
/-- The example's states. -/
def exG : GSt := ((((GSt.new 5 2).add (gOne 1 1)).1.tick 4).1.add (gOne 2 2)).1
theorem FrK.belowK {base : Nat} {w w' : World} {K : Nat → Prop} (h : FrK w w' K) (hk : ∀ b, K b → base ≤ b) (hb : base ≤ w.heap.size) : Below base w w' := h.below hb hk
set_option maxRecDepth 100000 in
set_option maxHeartbeats 2000000 in
theorem gaExample (w : World) : Calls Try.prog 17 #[] w fun e w' => ∃ F K Z, e = .returned (ptV F) ∧ GaS w.heap.size w' K Z F exG 2 ∧ Below w.heap.size w w' := by
  go_enter Try.func17, Try.ntmps17
  go_wp2_with fail
  refine (seNew w 5 2 (by decide)).mono ?_
  rintro e w1 ⟨F, rfl, h1, b1⟩
  have H1 := Lib.hid h1
  have B1 := Lib.hid b1
  clear h1 b1
  go_wp2_with fail
  refine (gaOne w1 1 1).mono ?_
  rintro e w2 ⟨rfl, b2⟩
  have h2 := H1.out.below b2
  have HB2 := Lib.hid (B1.out.trans (b2.mono B1.out.size))
  have H2 := Lib.hid h2
  clear h2 b2
  go_wp2_with fail
  refine (seAdd (s := gOne 1 1) (n := 0) H2.out (by omega) Rd.nil rfl (by omega)).mono ?_
  rintro e w3 ⟨rfl, K3, Z3, g3, h3⟩
  have HB3 := Lib.hid (HB2.out.trans (g3.fr.belowK (fun b hb => (H2.out.lo b hb).1) HB2.out.size))
  have H3 := Lib.hid h3
  clear h3 g3
  go_wp2_with fail
  refine (seTick H3.out (by omega) (n := 4) (by omega)).mono ?_
  rintro e w4 ⟨rfl, K4, Z4, g4, h4⟩
  have HB4 := Lib.hid (HB3.out.trans (g4.fr.belowK (fun b hb => (H3.out.lo b hb).1) HB3.out.size))
  have H4 := Lib.hid h4
  clear h4 g4
  go_wp2_with fail
  refine (gaOne w4 2 2).mono ?_
  rintro e w5 ⟨rfl, b5⟩
  have h5 := H4.out.below b5
  have HB5 := Lib.hid (HB4.out.trans (b5.mono HB4.out.size))
  have H5 := Lib.hid h5
  clear h5 b5
  go_wp2_with fail
  refine (seAdd (s := gOne 2 2) (n := 0) H5.out (by omega) Rd.nil rfl (by omega)).mono ?_
  rintro e w6 ⟨rfl, K6, Z6, g6, h6⟩
  have HB6 := Lib.hid (HB5.out.trans (g6.fr.belowK (fun b hb => (H5.out.lo b hb).1) HB5.out.size))
  have H6 := Lib.hid h6
  clear h6 g6
  go_wp2_with fail
  go_ret
  exact ⟨F, K6, Z6, rfl, H6.out, HB6.out⟩
set_option maxRecDepth 100000 in
set_option maxHeartbeats 4000000 in
theorem kitTraces {A1 A2 : Option Addr} {c1 c2 n m B : Nat} {la lb : List Tr} (w : World) (hf : Rd w B A1 (flatR trL la)) (hg : Rd w B A2 (flatR trL lb)) (hn : la.length = n) (hm : lb.length = m) (hB : B ≤ w.heap.size) (hnl : n ≤ 9223372036854775807) (hml : m ≤ 9223372036854775807) :
    Calls Try.prog 15 #[.slice A1 n c1, .slice A2 m c2] w fun e w' => e = .returned (.bool (decide (la = lb))) ∧ Below w.heap.size w w' := by
  obtain ⟨q, hq⟩ : ∃ q, decide (la = lb) = q := ⟨_, rfl⟩
  rw [hq]
  have HQ := Lib.hid hq
  have HN := Lib.hid hn
  have HM := Lib.hid hm
  have hqq := fun W x y => eqTr W x y
  clear hq hn hm
  by_cases hnm : n = m
  case neg =>
    have d1 : ((n : Int) != (m : Int)) = true := by rw [bne_iff_ne]; omega
    have hq0 : q = false := by
      rw [← HQ.out, decide_eq_false_iff_not]
      intro e
      have := congrArg List.length e
      rw [HN.out, HM.out] at this
      exact hnm this
    have HQ0 := Lib.hid hq0
    clear hq0
    go_enter Try.func15, Try.ntmps15
    go_wp2_with fail
    go_ret
    exact ⟨by rw [HQ0.out]; rfl, Below.refl _ _⟩
  subst hnm
  go_enter Try.func15, Try.ntmps15
  go_wp2_with fail
  go_loopw [5] (fun iv_ wr => ∃ j : Nat, j ≤ n ∧ iv_ = .int .i64 j ∧ Hid (la.take j = lb.take j) ∧ Hid (Below w.heap.size w wr)) (fun i _ => n - (intOf i).toNat)
  case atStart => exact ⟨0, by omega, rfl, Lib.hid rfl, Lib.hid (Below.refl _ _)⟩
  case round =>
    obtain ⟨j, hj, rfl, HA, HB⟩ := hrel
    by_cases hlt : j < n
    · have hlt' : (j : Int) < (n : Int) := by omega
      obtain ⟨x, hx⟩ : ∃ x, la[j]? = some x := ⟨_, List.getElem?_eq_getElem (by rw [HN.out]; exact hlt)⟩
      obtain ⟨y, hy⟩ : ∃ y, lb[j]? = some y := ⟨_, List.getElem?_eq_getElem (by rw [HM.out]; exact hlt)⟩
      have hbd : Below w.heap.size w wr.drew := below_drewN HB.out 1
      obtain ⟨b1, o1, rfl, hbb1, hc1⟩ := flatR_at trL_length (by omega) (Rd.below hf (hbd.mono hB)) hx
      obtain ⟨b2, o2, rfl, hbb2, hc2⟩ := flatR_at trL_length (by omega) (Rd.below hg (hbd.mono hB)) hy
      have hld1 : (loadK 33 ⟨b1, o1 + j * 2, none⟩).run Try.prog wr.drew = .ok (trV x) wr.drew :=
        run_loadVar_cells wr.drew _ _ ⟨b1, o1 + j * 2, none⟩ (trL x) Try.underlying33 rfl (by rfl) (fun k v hv => by
          rw [Addr.add_lit, Nat.add_assoc, hc1 k (by have := (List.getElem?_eq_some_iff.1 hv).1; simpa using this)]
          exact hv)
      have hld2 : (loadK 33 ⟨b2, o2 + j * 2, none⟩).run Try.prog wr.drew = .ok (trV y) wr.drew :=
        run_loadVar_cells wr.drew _ _ ⟨b2, o2 + j * 2, none⟩ (trL y) Try.underlying33 rfl (by rfl) (fun k v hv => by
          rw [Addr.add_lit, Nat.add_assoc, hc2 k (by have := (List.getElem?_eq_some_iff.1 hv).1; simpa using this)]
          exact hv)
      clear hc1 hc2 hqq
      by_cases hxy : x = y
      · have e1 : ((x.hi : Int) == (y.hi : Int)) = true := by rw [hxy]; simp
        have e2 : ((x.lo : Int) == (y.lo : Int)) = true := by rw [hxy]; simp
        have htk : la.take (j + 1) = lb.take (j + 1) := by
          rw [List.take_add_one, List.take_add_one, hx, hy, HA.out, hxy]
        have HT := Lib.hid htk
        have HBD := Lib.hid hbd
        clear htk hxy hx hy hbd
        go_wp2_with fail
        go_region_held3 (fun w' => (loadK 33 ⟨b1, o1 + j * 2, none⟩).run Try.prog w' = .ok (trV x) w' ∧ (loadK 33 ⟨b2, o2 + j * 2, none⟩).run Try.prog w' = .ok (trV y) w') (exact ⟨hld1, hld2⟩) (fail)
        clear hld1 hld2
        go_wp2_with fail
        exact ⟨⟨j + 1, by omega, by go_num, HT, HBD⟩, by simp only [intOf]; omega⟩
      · have hq0 : q = false := by
          rw [← HQ.out, decide_eq_false_iff_not]
          intro e
          rw [e, hy] at hx
          exact hxy (Option.some.inj hx).symm
        have HQ0 := Lib.hid hq0
        have HBD := Lib.hid hbd
        by_cases hh : x.hi = y.hi
        · have hl : x.lo ≠ y.lo := fun e => hxy (by cases x; cases y; simp at hh e; rw [hh, e])
          have e1 : ((x.hi : Int) == (y.hi : Int)) = true := by rw [hh]; simp
          have e2 : ((x.lo : Int) == (y.lo : Int)) = false := by rw [beq_eq_false_iff_ne]; omega
          clear hh hl hxy
          clear hx hy hbd hq0
          go_wp2_with fail
          go_region_held3 (fun w' => (loadK 33 ⟨b1, o1 + j * 2, none⟩).run Try.prog w' = .ok (trV x) w' ∧ (loadK 33 ⟨b2, o2 + j * 2, none⟩).run Try.prog w' = .ok (trV y) w') (exact ⟨hld1, hld2⟩) (fail)
          clear hld1 hld2
          go_wp2_with fail
          go_ret
          exact ⟨by rw [HQ0.out]; rfl, HBD.out⟩
        · have e1 : ((x.hi : Int) == (y.hi : Int)) = false := by rw [beq_eq_false_iff_ne]; omega
          clear hh hxy
          clear hx hy hbd hq0
          go_wp2_with fail
          go_region_held3 (fun w' => (loadK 33 ⟨b1, o1 + j * 2, none⟩).run Try.prog w' = .ok (trV x) w' ∧ (loadK 33 ⟨b2, o2 + j * 2, none⟩).run Try.prog w' = .ok (trV y) w') (exact ⟨hld1, hld2⟩) (fail)
          clear hld1 hld2
          go_wp2_with fail
          go_ret
          exact ⟨by rw [HQ0.out]; rfl, HBD.out⟩
    · obtain rfl : j = n := by omega
      have hq1 : q = true := by
        rw [← HQ.out, decide_eq_true_iff]
        have h1 := HA.out
        rw [List.take_of_length_le (by rw [HN.out]; exact Nat.le_refl _), List.take_of_length_le (by rw [HM.out]; exact Nat.le_refl _)] at h1
        exact h1
      have HQ1 := Lib.hid hq1
      clear hq1 hqq
      go_wp2_with fail
      go_ret
      exact ⟨by rw [HQ1.out]; rfl, HB.out⟩
end Go.Proofs.Ytoojpagpkbcfjaa


/- Layer 20: lives. -/
namespace Go.Proofs.Ytoojpagpkbcfjaa
open Go.RowKit
attribute [local go_sem ↓] loadTr_shut storeKG_shut
theorem ex_due : exG.due = 1 := by decide +kernel
theorem ex_tick : (exG.tick 1).2 = 0 := by decide +kernel
theorem ex_cl : (exG.tick 1).1.cl = [(⟨0, 1⟩, [gOne 1 1])] := by decide +kernel
set_option maxRecDepth 100000 in
theorem liS {w : World} {r n c : Nat} {A : Option Addr} (h : Bk w r 43 #[.int .u64 0, .int .u64 1, .slice A n c]) : (loadK 33 ⟨r, 0, none⟩).run Try.prog w = .ok (.agg #[.int .u64 0, .int .u64 1]) w ∧ w.cell? ⟨r, 2, none⟩ = some (.slice A n c) := by
  refine ⟨run_loadVar_cells w _ _ ⟨r, 0, none⟩ [.int .u64 0, .int .u64 1] Try.underlying33 rfl (by rfl) (fun j v hv => ?_), (h.cell 2).trans rfl⟩
  rw [Addr.add_lit, Nat.zero_add, h.cell j]
  match j, hv with
  | 0, hv => simpa using hv
  | 1, hv => simpa using hv
  | j + 2, hv => simp at hv
theorem RbS.allocG {w : World} {A : Option Addr} {l : List El} (h : RbS w w.heap.size A l) (o : Obj) : RbS (w.alloc o) (w.alloc o).heap.size A l := h.bS ((Below.refl _ w).alloc (Nat.le_refl _) o)
theorem rbOne {w : World} {g : Nat} {s : Sp} (hb : Bk w g 36 (spC s none 0 0)) (hs : s.tags = []) : RbS w w.heap.size (some ⟨g, 0, none⟩) [⟨s, none, 0, 0⟩] := by
  refine ⟨fun _ => ⟨g, 0, rfl, hb.lt, fun j u hu => ?_⟩, fun e he => ?_⟩
  · rw [Nat.zero_add, hb.cell j]
    simpa [els, elC] using hu
  · rw [List.mem_singleton.1 he]
    refine ⟨?_, ?_, Nat.zero_le _⟩
    · show RbT w w.heap.size none s.tags
      rw [hs]
      exact Rd.nil
    · show s.tags.length = 0
      rw [hs]
      rfl
theorem gaSames1 {A : Option Addr} {cc g : Nat} {l : List El} (w : World) (h : RbS w w.heap.size A l) (hb : Bk w g 36 (spC (gOne 1 1) none 0 0)) (hlen : l.length = 1) (hl : sps l = [gOne 1 1]) :
    Calls Try.prog 13 #[.slice A 1 cc, .slice (some ⟨g, 0, none⟩) 1 1] w fun e w' => e = .returned (.bool true) ∧ Below w.heap.size w w' := by
  have h1 := kitSames (c1 := cc) (c2 := 1) (m := 1) w h (rbOne hb rfl) hlen rfl (Nat.le_refl _) (by omega) (by omega)
  rw [hl, decide_eq_true (show [gOne 1 1] = sps [⟨gOne 1 1, none, 0, 0⟩] from rfl)] at h1
  exact h1
set_option maxRecDepth 100000 in
set_option maxHeartbeats 4000000 in
theorem gaLives (w : World) : Calls Try.prog 7 #[] w fun e w' => e = .returned (.bool true) ∧ Below w.heap.size w w' := by
  go_enter Try.func7, Try.ntmps7
  go_wp2_with fail
  refine (gaExample w).mono ?_
  rintro e w1 ⟨F, K1, Z1, rfl, h1, b1⟩
  have H1 := Lib.hid h1
  have B1 := Lib.hid b1
  clear h1 b1
  go_wp2_with fail
  refine (seDue H1.out (by omega)).mono ?_
  rintro e w2 ⟨rfl, f2, h2⟩
  rw [ex_due]
  have HB2 := Lib.hid (B1.out.trans (f2.belowK (fun b hb => (H1.out.lo b hb).1) B1.out.size))
  have H2 := Lib.hid h2
  clear h2 f2
  go_wp2_with fail
  refine (seTick H2.out (by omega) (n := 1) (by omega)).mono ?_
  rintro e w3 ⟨rfl, K3, Z3, g3, h3⟩
  rw [ex_tick]
  have HB3 := Lib.hid (HB2.out.trans (g3.fr.belowK (fun b hb => (H2.out.lo b hb).1) HB2.out.size))
  have H3 := Lib.hid h3
  clear h3 g3
  go_wp2_with fail
  refine (seNext H3.out (by omega)).mono ?_
  rintro e w4 ⟨f4, h4, h5⟩
  have hcl := ex_cl
  rcases h5 with ⟨h6, -⟩ | ⟨t, l, cl, c, h6, rfl, hz, ht, hl⟩
  · rw [hcl] at h6
    cases h6
  rw [hcl] at h6
  injection h6 with h6 _
  injection h6 with h6 h7
  subst h6 h7
  obtain ⟨ct, cl', A, cc⟩ := c
  simp only at ht hl
  subst ht
  have hb4 := HB3.out.trans (f4.belowK (fun b hb => (H3.out.lo b hb).1) HB3.out.size)
  have hlen : cl'.length = 1 := by rw [← sps_length, hl]; rfl
  have hv : clV ⟨⟨0, 1⟩, cl', A, cc⟩ = .agg #[.int .u64 0, .int .u64 1, .slice A 1 cc] := by simp [hlen]
  rw [hv]
  obtain ⟨w5, s5, k5, f5⟩ := gaBox (⟨⟨0, 1⟩, cl', A, cc⟩ : ClE) (Bk.new w4 43 #[.int .u64 0, .int .u64 0, .slice none 0 0]) rfl
  rw [hv] at s5
  have k5 : Bk w5 w4.heap.size 43 #[.int .u64 0, .int .u64 1, .slice A 1 cc] := by
    have e : (clC (⟨⟨0, 1⟩, cl', A, cc⟩ : ClE)).toArray = #[.int .u64 0, .int .u64 1, .slice A 1 cc] := by simp [clC, hlen]
    rw [← e]
    exact k5
  have F45 := ((FrK.refl w4 Kno).alloc (.cells #[.int .u64 0, .int .u64 0, .slice none 0 0] 43)).trans f5 fun b hb e => absurd (show b = w4.heap.size from e) (by omega)
  have hb5 := hb4.trans ((F45.below (Nat.le_refl _) fun b e => e.elim).mono hb4.size)
  have rd5 : RbS w5 w5.heap.size A cl' := (hz.rd.below (F45.below (Nat.le_refl _) fun b e => e.elim)).more F45.size
  have hbd : Below w.heap.size w w5.drew := below_drewN hb5 1
  have rdd : RbS w5.drew w5.drew.heap.size A cl' := rd5.below (Below.refl _ w5).drew
  have bkd : Bk w5.drew w4.heap.size 43 #[.int .u64 0, .int .u64 1, .slice A 1 cc] := k5
  clear h4 f4 hz k5 f5 F45 hb4 hv H1 B1 HB2 H2 HB3 H3 hcl hb5 rd5
  go_wp2_with fail
  go_region_held3 (fun w' => (loadK 33 ⟨w4.heap.size, 0, none⟩).run Try.prog w' = .ok (.agg #[.int .u64 0, .int .u64 1]) w' ∧ w'.cell? ⟨w4.heap.size, 2, none⟩ = some (.slice A 1 cc))
    (exact liS (by assumption))
    (first
      | (go_at_call 18
         refine (gaOne w5.drew 1 1).mono ?_
         rintro e w6 ⟨rfl, hb6⟩
         have b6 := bkd.below hb6 bkd.lt
         have rd6 := (rdd.below hb6).more hb6.size
         have hbw6 := hbd.trans (hb6.mono hbd.size)
         have b7 := b6.alloc (.cells (spC (gOne 1 1) none 0 0) 36)
         have rd7 := rd6.allocG (.cells (spC (gOne 1 1) none 0 0) 36)
         have hbw7 := hbw6.alloc hbw6.size (.cells (spC (gOne 1 1) none 0 0) 36)
         have lit7 := Bk.new w6 36 (spC (gOne 1 1) none 0 0))
      | (go_at_call 13
         refine (gaSames1 _ rd7 lit7 hlen hl).mono ?_
         rintro e w8 ⟨rfl, hb8⟩
         have b8 := b7.below hb8 b7.lt
         have hbw8 := hbw7.trans (hb8.mono hbw7.size))
      | fail)
  all_goals go_wp2_with fail
  all_goals go_ret
  all_goals exact ⟨rfl, hbw8⟩
end Go.Proofs.Ytoojpagpkbcfjaa


/- Layer 20: Next, where a closed trace waits; a box for what it tells. -/
namespace Go.Proofs.Ytoojpagpkbcfjaa
open Go.RowKit
attribute [local go_sem ↓] storeKG_shut
theorem ClZ.fr {base F k : Nat} {w w' : World} {K Z : Nat → Prop} {G : GSt} {e : ClE} (h : ClZ w Z e) (hg : GaS base w K Z F G k) (hf : FrK w w' K) : ClZ w' Z e :=
  h.keep (fun b hb => hf.block b (hg.loZ b hb) fun e => hg.kz b e hb) hf.size fun _ e => e
/-- Next, where a closed trace waits. -/
theorem seNext1 {base F k : Nat} {w : World} {K Z : Nat → Prop} {G : GSt} (h : GaS base w K Z F G k) (hk : k ≤ 1000) {t : Tr} {l : List Sp} {cl : List (Tr × List Sp)} {n : Nat} (hcl : G.cl = (t, l) :: cl) (hn : l.length = n) :
    Calls Try.prog 12 #[ptV F] w fun e w' => FrK w w' K ∧ GaS base w' K Z F G.next k ∧ ∃ A c l', e = .returned (.tuple #[.agg #[.int .u64 (t.hi : Nat), .int .u64 (t.lo : Nat), .slice A n c], .int .i64 0]) ∧ ClZ w' Z ⟨t, l', A, c⟩ ∧ sps l' = l ∧ l'.length = n := by
  refine (seNext h hk).mono ?_
  rintro e w' ⟨hf, hG, ⟨h1, -⟩ | ⟨t', l1, cl1, c, h1, rfl, hz, ht, hl⟩⟩
  · rw [hcl] at h1
    cases h1
  · rw [hcl] at h1
    injection h1 with h1 _
    injection h1 with h1 h2
    subst h1 h2
    obtain ⟨ct, l', A, cc⟩ := c
    simp only at ht hl
    subst ht
    have hlen : l'.length = n := by rw [← sps_length, hl, hn]
    exact ⟨hf, hG, A, cc, l', by subst hlen; rfl, hz, hl, hlen⟩
/-- A box for what Next tells. -/
theorem gaBox2 {W : World} {t : Tr} {l' : List El} {A : Option Addr} {c n : Nat} (hl : l'.length = n) : ∃ W2, (storeKG 43 ⟨W.heap.size, 0, none⟩ (.agg #[.int .u64 (t.hi : Nat), .int .u64 (t.lo : Nat), .slice A n c])).run Try.prog (W.alloc (.cells #[.int .u64 0, .int .u64 0, .slice none 0 0] 43)) = .ok () W2 ∧ Bk W2 W.heap.size 43 #[.int .u64 (t.hi : Nat), .int .u64 (t.lo : Nat), .slice A n c] ∧ FrK W W2 Kno := by
  subst hl
  obtain ⟨W2, s2, k2, f2⟩ := gaBox (⟨t, l', A, c⟩ : ClE) (Bk.new W 43 #[.int .u64 0, .int .u64 0, .slice none 0 0]) rfl
  exact ⟨W2, s2, k2, ((FrK.refl W Kno).alloc _).trans f2 fun b hb e => absurd (show b = W.heap.size from e) (by omega)⟩
end Go.Proofs.Ytoojpagpkbcfjaa

/- Layer 20: what comes in: a call (the law's Act), a list of them, a setup. -/
namespace Go.Proofs.Ytoojpagpkbcfjaa
open Go.ChangeShapes Go.WideShapes Go.ChangeAt Go.RowKit
def I64g (x : Int) : Prop := -9223372036854775808 ≤ x ∧ x ≤ 9223372036854775807
theorem i64_wfg {x : Int} (h : (Lit.int .i64 x).wf = true) : I64g x := by
  unfold I64g
  simp [Lit.wf, IntKind.min, IntKind.max, IntKind.signed, IntKind.bits] at h
  omega
/-- A call: its kind, its span (and where its tags lie), its ticks. -/
structure GAc where
  kind : Int
  e : El
  n : Int
def gacC (z : GAc) : List Value := (Value.int .i64 z.kind :: elC z.e) ++ [.int .i64 z.n]
theorem gacC_length (z : GAc) : (gacC z).length = 13 := rfl
structure GAcOk (w : World) (B : Nat) (z : GAc) : Prop where
  kind : I64g z.kind
  n : I64g z.n
  el : ElOk w B z.e
theorem thirteen {v : Array Value} (h : v.size = 13) : ∃ v0 v1 v2 v3 v4 v5 v6 v7 v8 v9 v10 v11 v12, v = #[v0, v1, v2, v3, v4, v5, v6, v7, v8, v9, v10, v11, v12] := by
  obtain ⟨l⟩ := v
  simp at h
  match l, h with
  | [v0, v1, v2, v3, v4, v5, v6, v7, v8, v9, v10, v11, v12], _ => exact ⟨v0, v1, v2, v3, v4, v5, v6, v7, v8, v9, v10, v11, v12, rfl⟩
set_option maxRecDepth 100000 in
theorem open_gacCells {H : Type} {enc : TypeId × Value → H} {W : World} {base : Nat} {held : Bool} {v0 v1 v2 v3 v4 v5 v6 v7 v8 v9 v10 v11 v12 : Value} {fuel : Nat} {x : DataW H × List MemPlace}
    (h : DataW.trod enc Try.prog W base (fun _ => true) held fuel 38 [v0, v1, v2, v3, v4, v5, v6, v7, v8, v9, v10, v11, v12] = some x) :
    ∃ z : GAc, [v0, v1, v2, v3, v4, v5, v6, v7, v8, v9, v10, v11, v12] = gacC z ∧ GAcOk W W.heap.size z := by
  obtain ⟨xs, n, _, hx, hlen, hyl, hf⟩ := DataW.trod_struct Try.underlying38 h
  match xs, hyl with
  | [y0, y1, y2], _ =>
    have cI : Try.prog.cellsOf 3 = 1 := by kernel_rfl
    have cS : Try.prog.cellsOf 36 = 11 := by kernel_rfl
    have cJ : Try.prog.cellsOf 2 = 1 := by kernel_rfl
    have h0 : DataW.trod enc Try.prog W base (fun _ => true) held n 3 (([v0, v1, v2, v3, v4, v5, v6, v7, v8, v9, v10, v11, v12].drop 0).take (Try.prog.cellsOf 3)) = some y0 := hf 0 _ rfl
    have h1 : DataW.trod enc Try.prog W base (fun _ => true) held n 36 (([v0, v1, v2, v3, v4, v5, v6, v7, v8, v9, v10, v11, v12].drop 1).take (Try.prog.cellsOf 36)) = some y1 := hf 1 _ rfl
    have h2 : DataW.trod enc Try.prog W base (fun _ => true) held n 2 (([v0, v1, v2, v3, v4, v5, v6, v7, v8, v9, v10, v11, v12].drop 12).take (Try.prog.cellsOf 2)) = some y2 := hf 2 _ rfl
    rw [cI] at h0
    rw [cS] at h1
    rw [cJ] at h2
    simp only [List.drop_zero, List.drop_succ_cons, List.take_succ_cons, List.take_zero] at h0 h1 h2
    obtain ⟨k0, e0, -, w0⟩ := DataW.trod_int Try.underlying3 h0
    obtain ⟨s, A, m, c, e1, i1⟩ := open_spCells h1
    obtain ⟨k2, e2, -, w2⟩ := DataW.trod_int Try.underlying2 h2
    simp at e0 e2
    subst e0 e2
    refine ⟨⟨k0, ⟨s, A, m, c⟩, k2⟩, ?_, ⟨i64_wfg w0, i64_wfg w2, i1.el⟩⟩
    show _ = (Value.int .i64 k0 :: (spC s A m c).toList) ++ [.int .i64 k2]
    rw [← e1]
    rfl
def gacV (z : GAc) : Value := .agg (gacC z).toArray
set_option maxRecDepth 100000 in
theorem open_inGAct {H : Type} {enc : TypeId × Value → H} {W : World} {base b0 : Nat} {r : Reach} {held : Bool} {v : Value} {d : DataW H} {p : List MemPlace} (hv : Value.okWide Try.prog W r b0 38 v)
    (h : DataW.Trod enc Try.prog W base (fun _ => true) held 38 v d p) : ∃ z : GAc, v = gacV z ∧ GAcOk W W.heap.size z := by
  obtain ⟨cs, rfl, hsz⟩ := okWide_struct Try.underlying38 hv
  obtain ⟨v0, v1, v2, v3, v4, v5, v6, v7, v8, v9, v10, v11, v12, rfl⟩ := thirteen (hsz.trans (by kernel_rfl))
  obtain ⟨fuel, hf⟩ := h
  have h8 : DataW.trod enc Try.prog W base (fun _ => true) held fuel 38 [v0, v1, v2, v3, v4, v5, v6, v7, v8, v9, v10, v11, v12] = some (d, p) := hf
  obtain ⟨z, hz, hok⟩ := open_gacCells h8
  exact ⟨z, by rw [gacV, ← hz], hok⟩
/-- Calls that came in. -/
structure InGActs (w : World) (A : Option Addr) (n c : Nat) (l : List GAc) : Prop where
  rd : Rd w w.heap.size A (flatR gacC l)
  len : l.length = n
  cap : n ≤ c
  max : c ≤ maxLen
  ok : ∀ z ∈ l, GAcOk w w.heap.size z
theorem listOfG {α : Type} (P : Nat → α → Prop) : ∀ (n : Nat), (∀ i, i < n → ∃ x, P i x) → ∃ l : List α, l.length = n ∧ ∀ i x, l[i]? = some x → P i x
  | 0, _ => ⟨[], rfl, fun i x h => by simp at h⟩
  | n + 1, h => by
    obtain ⟨l, hl, hp⟩ := listOfG P n fun i hi => h i (by omega)
    obtain ⟨x, hx⟩ := h n (by omega)
    refine ⟨l ++ [x], by simp [hl], fun i y hy => ?_⟩
    by_cases hi : i < l.length
    · rw [List.getElem?_append_left hi] at hy
      exact hp i y hy
    · have hin : i = n := by
        have := (List.getElem?_eq_some_iff.1 hy).1
        simp at this
        omega
      subst hin
      rw [List.getElem?_append_right (by omega), hl, Nat.sub_self] at hy
      simp at hy
      subst hy
      exact hx
set_option maxRecDepth 100000 in
theorem open_inGActs {H : Type} {enc : TypeId × Value → H} {W : World} {base b0 : Nat} {r : Reach} {held : Bool} {v : Value} {d : DataW H} {p : List MemPlace} (_hv : Value.okWide Try.prog W r b0 24 v)
    (h : DataW.Trod enc Try.prog W base (fun _ => true) held 24 v d p) :
    ∃ (A : Option Addr) (n c : Nat) (l : List GAc), v = .slice A n c ∧ InGActs W A n c l := by
  obtain ⟨aa, len, cap, rfl⟩ := okWide_slice Try.underlying24 _hv
  obtain ⟨fuel, hf⟩ := h
  rcases Deep.open_slice Try.underlying24 hf with ⟨hcs, _⟩ | ⟨a, len, cap, m, n, D, Pl, hcs, hb, hl, hm, hmm, hx, hi⟩
  · simp [Value.cells] at hcs
    obtain ⟨rfl, rfl, rfl⟩ := hcs
    exact ⟨none, 0, 0, [], rfl, ⟨fun hn => absurd rfl hn, rfl, Nat.le_refl _, by simp [maxLen], fun e he => by cases he⟩⟩
  · simp [Value.cells] at hcs
    obtain ⟨rfl, rfl, rfl⟩ := hcs
    rw [if_pos rfl] at hmm
    subst hmm
    have hC : Try.prog.cellsOf 38 = 13 := by kernel_rfl
    rw [hC] at hi
    obtain ⟨l, hll, hl2⟩ := listOfG (fun i (e : GAc) => (∀ j, j < 13 → W.cell? ((a.add (i * 13)).add j) = (gacC e)[j]?) ∧ GAcOk W W.heap.size e) len fun i hil => by
      obtain ⟨cs', hc, ht⟩ := hi i (by omega)
      obtain ⟨_, hcl, hat⟩ := World.cells?_some hc
      match cs', hcl with
      | [c0, c1, c2, c3, c4, c5, c6, c7, c8, c9, c10, c11, c12], _ =>
        obtain ⟨e, he, hok⟩ := open_gacCells ht
        refine ⟨e, fun j hj => ?_, hok⟩
        have h1 := hat j hj
        rw [he] at h1
        exact h1
    refine ⟨some a, _, _, l, rfl, ⟨?_, hll, hl, hm, ?_⟩⟩
    · intro hne
      have hpos : 0 < l.length := by
        rcases Nat.eq_zero_or_pos l.length with h0 | h0
        · rw [List.eq_nil_of_length_eq_zero h0] at hne
          exact absurd rfl hne
        · exact h0
      obtain ⟨x0, hx0⟩ : ∃ x0, l[0]? = some x0 := ⟨_, List.getElem?_eq_getElem hpos⟩
      obtain ⟨b, off, spot⟩ := a
      have h0 := (hl2 0 x0 hx0).1 0 (by omega)
      simp only [Nat.zero_mul, Addr.add] at h0
      have h1 : (gacC x0)[0]? = some (.int .i64 x0.kind) := rfl
      rw [h1] at h0
      have hspot : spot = none := by simpa using World.cell?_spot h0
      subst hspot
      refine ⟨b, off, rfl, World.block_lt_of_cell? W ⟨b, off, none⟩ (by simpa using h0), fun j u hu => ?_⟩
      have hj : j < l.length * 13 := by
        have := (List.getElem?_eq_some_iff.1 hu).1
        rwa [flatR_length gacC_length] at this
      obtain ⟨x1, hx1⟩ : ∃ x1, l[j / 13]? = some x1 := ⟨_, List.getElem?_eq_getElem (by omega)⟩
      have h2 := (hl2 (j / 13) x1 hx1).1 (j % 13) (Nat.mod_lt _ (by omega))
      have h3 := flatR_get gacC_length hx1 (j % 13) (Nat.mod_lt _ (by omega))
      rw [Addr.add_lit, Addr.add_lit, Nat.add_assoc, show j / 13 * 13 + j % 13 = j from by omega] at h2
      rw [show j / 13 * 13 + j % 13 = j from by omega] at h3
      rw [h2, ← h3, hu]
    · intro e he
      obtain ⟨i, hi, hxi⟩ := List.getElem_of_mem he
      exact (hl2 i e (by rw [List.getElem?_eq_getElem hi, hxi])).2
theorem two {v : Array Value} (h : v.size = 2) : ∃ v0 v1, v = #[v0, v1] := by
  obtain ⟨l⟩ := v
  simp at h
  match l, h with
  | [v0, v1], _ => exact ⟨v0, v1, rfl⟩
set_option maxRecDepth 100000 in
theorem open_inSetup {H : Type} {enc : TypeId × Value → H} {W : World} {base b0 : Nat} {r : Reach} {held : Bool} {v : Value} {d : DataW H} {p : List MemPlace} (hv : Value.okWide Try.prog W r b0 23 v)
    (h : DataW.Trod enc Try.prog W base (fun _ => true) held 23 v d p) : ∃ win cap : Int, v = .agg #[.int .i64 win, .int .i64 cap] ∧ I64g win ∧ I64g cap := by
  obtain ⟨cs, rfl, hsz⟩ := okWide_struct Try.underlying23 hv
  obtain ⟨v0, v1, rfl⟩ := two (hsz.trans (by kernel_rfl))
  obtain ⟨fuel, hf⟩ := h
  have h8 : DataW.trod enc Try.prog W base (fun _ => true) held fuel 23 [v0, v1] = some (d, p) := hf
  obtain ⟨xs, n, _, hx, hlen, hyl, hf⟩ := DataW.trod_struct Try.underlying23 h8
  match xs, hyl with
  | [y0, y1], _ =>
    have cI : Try.prog.cellsOf 3 = 1 := by kernel_rfl
    have cJ : Try.prog.cellsOf 2 = 1 := by kernel_rfl
    have h0 : DataW.trod enc Try.prog W base (fun _ => true) held n 2 (([v0, v1].drop 0).take (Try.prog.cellsOf 2)) = some y0 := hf 0 _ rfl
    have h1 : DataW.trod enc Try.prog W base (fun _ => true) held n 3 (([v0, v1].drop 1).take (Try.prog.cellsOf 3)) = some y1 := hf 1 _ rfl
    rw [cJ] at h0
    rw [cI] at h1
    simp only [List.drop_zero, List.drop_succ_cons, List.take_succ_cons, List.take_zero] at h0 h1
    obtain ⟨k0, e0, -, w0⟩ := DataW.trod_int Try.underlying2 h0
    obtain ⟨k1, e1, -, w1⟩ := DataW.trod_int Try.underlying3 h1
    simp at e0 e1
    subst e0 e1
    exact ⟨k0, k1, rfl, i64_wfg w0, i64_wfg w1⟩
end Go.Proofs.Ytoojpagpkbcfjaa

/- Layer 20: the walk of GatherNil: a gatherer that is not there, or that nobody made, refuses every call. -/
namespace Go.Proofs.Ytoojpagpkbcfjaa
open Go.RowKit
attribute [local go_sem ↓] storeKG_shut loadTr_shut loadSp_shut
set_option maxRecDepth 100000 in
theorem ldTr {w : World} {g o : Nat} {t : TypeId} {cs : Array Value} {a b : Nat} (h : Bk w g t cs) (h0 : cs[o]? = some (.int .u64 (a : Nat))) (h1 : cs[o + 1]? = some (.int .u64 (b : Nat))) : (loadK 33 ⟨g, o, none⟩).run Try.prog w = .ok (trV ⟨a, b⟩) w :=
  run_loadVar_cells w _ _ ⟨g, o, none⟩ [.int .u64 (a : Nat), .int .u64 (b : Nat)] Try.underlying33 rfl (by rfl) (fun j v hv => by
    rw [Addr.add_lit, h.cell]
    match j, hv with
    | 0, hv => rw [Nat.add_zero, h0]; exact hv
    | 1, hv => rw [h1]; exact hv
    | j + 2, hv => simp at hv)
set_option maxRecDepth 100000 in
theorem ldSpA {w : World} {g : Nat} {z : GAc} (h : Bk w g 38 (gacC z).toArray) : (loadK 36 ⟨g, 1, none⟩).run Try.prog w = .ok (spV z.e.s z.e.A z.e.n z.e.c) w :=
  run_loadVar_cells w _ _ ⟨g, 1, none⟩ (elC z.e) Try.underlying36 rfl (by rfl) (fun j v hv => by
    have hj : j < 11 := (List.getElem?_eq_some_iff.1 hv).1
    rw [Addr.add_lit, h.cell, ← hv]
    show (gacC z).toArray[1 + j]? = _
    rw [Nat.add_comm]
    simp only [gacC, List.getElem?_toArray, List.cons_append, List.getElem?_cons_succ]
    rw [List.getElem?_append_left (by rw [elC_length]; exact hj)])
/-- A gatherer that nobody made. -/
def gaZ : Array Value := #[.int .i64 0, .int .i64 0, .int .i64 0, .map none, .slice none 0 0, .map none, .slice none 0 0, .int .i64 0]
set_option maxRecDepth 100000 in
set_option maxHeartbeats 8000000 in
theorem gatherNil_walk (z : GAc) (w : World) (_hz : GAcOk w w.heap.size z) : Calls Try.prog 6 #[gacV z] w fun e w' => e = .returned (.bool true) ∧ Below w.heap.size w w' := by
  have b1 := Bk.new w 38 (gacC z).toArray
  have hw1 := (Below.refl w.heap.size w).alloc (Nat.le_refl _) (.cells (gacC z).toArray 38)
  obtain ⟨w1, e1⟩ : ∃ w1, w.alloc (.cells (gacC z).toArray 38) = w1 := ⟨_, rfl⟩
  rw [e1] at b1 hw1
  have s1 : w1.heap.size = w.heap.size + 1 := by rw [← e1]; simp
  have b2 := Bk.new w1 67 gaZ
  have b12 := b1.alloc (.cells gaZ 67)
  have hw2 := hw1.alloc (by omega) (.cells gaZ 67)
  obtain ⟨w2, e2⟩ : ∃ w2, w1.alloc (.cells gaZ 67) = w2 := ⟨_, rfl⟩
  rw [e2] at b2 b12 hw2
  have s2 : w2.heap.size = w1.heap.size + 1 := by rw [← e2]; simp
  have b3 := Bk.new w2 27 #[.pointer none, ptV w1.heap.size]
  have b13 := b12.alloc (.cells #[.pointer none, ptV w1.heap.size] 27)
  have b23 := b2.alloc (.cells #[.pointer none, ptV w1.heap.size] 27)
  have hw3 := hw2.alloc (by omega) (.cells #[.pointer none, ptV w1.heap.size] 27)
  obtain ⟨w3, e3⟩ : ∃ w3, w2.alloc (.cells #[.pointer none, ptV w1.heap.size] 27) = w3 := ⟨_, rfl⟩
  rw [e3] at b3 b13 b23 hw3
  have s3 : w3.heap.size = w2.heap.size + 1 := by rw [← e3]; simp
  obtain ⟨g1, hg1⟩ : ∃ g1, w.heap.size = g1 := ⟨_, rfl⟩
  have hz2 : w1.heap.size = g1 + 1 := by omega
  have hz3 : w2.heap.size = g1 + 1 + 1 := by omega
  rw [hg1] at b1 b12 b13 hw1 hw2 hw3
  rw [hz2] at b2 b23 b3 e3
  rw [hz3] at b3
  have cell : ∀ x : World, Below w3.heap.size w3 x → Bk x g1 38 (gacC z).toArray := fun x hb => b13.below hb b13.lt
  have nob : ∀ (x : World) (j : Nat), Below w3.heap.size w3 x → j < 2 → ∃ p, x.cell? ⟨g1 + 1 + 1, j, none⟩ = some (.pointer p) ∧ ∀ y, Below w3.heap.size w3 y → Nog y (.pointer p) := fun x j hb hj => by
    have h3 := b3.below hb b3.lt
    match j, hj with
    | 0, _ => exact ⟨none, by rw [h3.cell]; rfl, fun y _ => .inl rfl⟩
    | 1, _ =>
      refine ⟨some ⟨g1 + 1, 0, none⟩, by rw [h3.cell]; rfl, fun y hy => ?_⟩
      have h2 := b23.below hy b23.lt
      exact .inr ⟨g1 + 1, rfl, by rw [h2.cell]; rfl⟩
  have CELL := Lib.hid cell
  have NOB := Lib.hid nob
  have E1 := Lib.hid e1
  have E2 := Lib.hid e2
  have E3 := Lib.hid e3
  have HW3 := Lib.hid hw3
  have HG := Lib.hid hg1
  have HZ2 := Lib.hid hz2
  have HZ3 := Lib.hid hz3
  have SZ := Lib.hid (And.intro s1 (And.intro s2 s3))
  clear b1 b12 b13 b2 b23 b3 e1 e2 e3 hw1 hw2 hw3 cell nob hg1 s1 s2 s3 hz2 hz3
  unfold gacV
  go_enter Try.func6, Try.ntmps6
  go_wp2_with fail
  rw [HG.out, E1.out, show w1.alloc (.cells #[.int .i64 0, .int .i64 0, .int .i64 0, .map none, .slice none 0 0, .map none, .slice none 0 0, .int .i64 0] 67) = w2 from E2.out, E3.out]
  go_loopw [4] (fun i_ wr => ∃ j : Nat, j ≤ 2 ∧ i_ = .int .i64 j ∧ Hid (Below w3.heap.size w3 wr)) (fun i_ _ => 2 - (intOf i_).toNat)
  case atStart => exact ⟨0, by omega, rfl, Lib.hid (Below.refl _ _)⟩
  case round =>
    obtain ⟨j, hj, rfl, HB⟩ := hrel
    by_cases hlt : j < 2
    · have hlt' : decide ((j : Int) < 2) = true := by simp; omega
      obtain ⟨p, hp, hnob⟩ := NOB.out wr j HB.out hlt
      have HN := Lib.hid hnob
      have a1 := ldSpA (CELL.out wr HB.out)
      clear hnob
      go_wp2_with fail
      refine (gnAdd _ _ (HN.out _ HB.out) z.e.s z.e.A z.e.n z.e.c).mono ?_
      rintro e x1 ⟨rfl, hf⟩
      have HB1 := Lib.hid (HB.out.trans (hf.mono HB.out.size))
      clear hf a1 hp
      go_wp2_with fail
      refine (gnNext _ _ (HN.out _ HB1.out)).mono ?_
      rintro e x2 ⟨rfl, hf⟩
      have HB2 := Lib.hid (HB1.out.trans (hf.mono HB1.out.size))
      clear hf
      obtain ⟨x3, s3, k3, f3⟩ := gaBox2 (W := x2) (t := ⟨0, 0⟩) (l' := []) (A := none) (c := 0) (n := 0) rfl
      have s3' : (storeKG 43 ⟨x2.heap.size, 0, none⟩ (.agg #[.int .u64 0, .int .u64 0, .slice none 0 0])).run Try.prog (x2.alloc (.cells #[.int .u64 0, .int .u64 0, .slice none 0 0] 43)) = .ok () x3 := s3
      have HB3 := Lib.hid (HB2.out.trans ((f3.below (Nat.le_refl _) fun _ e => e.elim).mono HB2.out.size))
      have c3 : x3.cell? ⟨x2.heap.size, 2, none⟩ = some (.slice none 0 0) := (k3.cell 2).trans rfl
      have t3 : (loadK 33 ⟨x2.heap.size, 0, none⟩).run Try.prog x3 = .ok (.agg #[.int .u64 0, .int .u64 0]) x3 := ldTr (a := 0) (b := 0) k3 rfl rfl
      have n3 : x3.cell? ⟨g1, 12, none⟩ = some (.int .i64 z.n) := ((CELL.out x3 HB3.out).cell 12).trans rfl
      clear s3 k3 f3
      go_wp2_with fail
      refine (gnTick _ _ (HN.out _ HB3.out) z.n).mono ?_
      rintro e x4 ⟨rfl, hf⟩
      have HB4 := Lib.hid (HB3.out.trans (hf.mono HB3.out.size))
      clear hf c3 t3 n3 s3'
      go_wp2_with fail
      refine (gnClosed _ _ (HN.out _ HB4.out)).mono ?_
      rintro e x5 ⟨rfl, hf⟩
      have HB5 := Lib.hid (HB4.out.trans (hf.mono HB4.out.size))
      clear hf
      go_wp2_with fail
      refine (gnOpen _ _ (HN.out _ HB5.out)).mono ?_
      rintro e x6 ⟨rfl, hf⟩
      have HB6 := Lib.hid (HB5.out.trans (hf.mono HB5.out.size))
      clear hf
      go_wp2_with fail
      refine (gnLate _ _ (HN.out _ HB6.out)).mono ?_
      rintro e x7 ⟨rfl, hf⟩
      have HB7 := Lib.hid (HB6.out.trans (hf.mono HB6.out.size))
      clear hf
      have t7 : (loadK 33 ⟨g1, 1, none⟩).run Try.prog x7 = .ok (trV z.e.s.tr) x7 := ldTr (CELL.out x7 HB7.out) rfl rfl
      go_wp2_with fail
      refine (gnEver _ _ (HN.out _ HB7.out) z.e.s.tr).mono ?_
      rintro e x8 ⟨rfl, hf⟩
      have HB8 := Lib.hid (HB7.out.trans (hf.mono HB7.out.size))
      clear hf t7
      go_wp2_with fail
      refine (gnNow _ _ (HN.out _ HB8.out)).mono ?_
      rintro e x9 ⟨rfl, hf⟩
      have HB9 := Lib.hid (HB8.out.trans (hf.mono HB8.out.size))
      clear hf
      go_wp2_with fail
      refine (gnDue _ _ (HN.out _ HB9.out)).mono ?_
      rintro e x10 ⟨rfl, hf⟩
      have HB10 := Lib.hid (HB9.out.trans (hf.mono HB9.out.size))
      clear hf
      go_wp2_with fail
      exact ⟨⟨j + 1, by omega, by go_num, HB10⟩, by simp only [intOf]; omega⟩
    · have hlt' : decide ((j : Int) < 2) = false := by simp; omega
      go_wp2_with fail
      refine (gaLives _).mono ?_
      rintro e x1 ⟨rfl, hb⟩
      have hfin : Below w.heap.size w x1 := by
        have h1 := HW3.out
        have h2 := HB.out
        rw [← HG.out] at h1
        exact h1.trans ((h2.mono h1.size).trans (hb.mono (Nat.le_trans h1.size h2.size)))
      go_wp2_with fail
      go_ret
      exact ⟨rfl, hfin⟩
end Go.Proofs.Ytoojpagpkbcfjaa

/- The statement GatherNil, out of its walk. -/
namespace Go.Proofs.Ytoojpagpkbcfjaa
open Go.ChangeShapes Go.WideShapes Go.ChangeAt Go.RowKit
open Go.ChangeMaps (open_string shut_string)

set_option maxRecDepth 100000 in
theorem gatherNil_lifted (os : Os) (started : os.Started) (H : Type) (enc : TypeId × Value → H) :
    ReturnsInHanded {} Try.checked os 6 .any (Rows.gatherNilSpec.pre6 enc Try.prog Try.f6 Rows.gatherNilRow.domain false) (Rows.gatherNilSpec.post enc Try.prog Try.f6 false true false false) := by
  refine returnsInHanded_of_change (C := Try.checked) ownKnob_none started (by kernel_rfl) Try.func6
    (ChangeSpec.witness6 (enc := enc) (C := Try.checked) false ⟨#[], #[.agg #[.int .i64 0, .int .u64 0, .int .u64 0, .int .u64 0, .int .u64 0, .string ByteArray.empty, .string ByteArray.empty, .int .i64 0, .int .i64 0, .int .i64 0, .bool false, .slice none 0 0, .int .i64 0]], []⟩ 8 (by kernel_rfl) (by kernel_rfl) (by kernel_rfl) (by kernel_rfl)) ?_
  intro W base args ds gs before hval0 hW _ _
  have hval : ∀ (j : Nat) t v, Try.f6.params[j]? = some t → args[j]? = some v → Value.okWide Try.prog W .any base t v := hval0
  have hW' := hW
  obtain ⟨p, q, hA0, hV, rfl, hfz, hnd⟩ := hW
  have hA : DataW.TrodAll enc Try.prog W 0 (fun _ => true) true Try.f6.params.toList args.toList ds p := hA0
  rw [Try.params6] at hA hval
  obtain ⟨v0, vs0, d0, ds0, p0, q0, hargs, rfl, rfl, h0, r0⟩ := trodAll_cons hA
  obtain ⟨rfl, rfl, rfl⟩ := trodAll_nil r0
  obtain rfl : args = #[v0] := by cases args; simp_all
  obtain ⟨rfl, rfl⟩ := trodVars_none hV
  obtain ⟨u0_0, he0, w0⟩ := open_inGAct (hval 0 38 v0 rfl rfl) h0
  subst he0
  have k0 := h0
  have lt0 : ∀ x ∈ p0, x.block < W.heap.size := by obtain ⟨m, hm⟩ := k0; exact DataW.trod_lt m _ _ _ hm
  clear hA0 hval0
  refine (gatherNil_walk u0_0 W w0).mono fun e W' ⟨he, bel⟩ => ?_
  subst he
  exact ⟨_, rfl, _, _, _, [], _, [], hW', trodAll_mk1 (shut_bool Try.underlying4 _), (trodAll_cons_mk (Below.trod laidOut (by kernel_rfl) (of_decide_eq_true (by kernel_rfl)) k0 bel lt0) trodAll_mk0), rfl, bel.frame _, fun h => by cases h⟩

/-- GatherNil: for every input the law returns true, and what came in reads as it did. -/
theorem gatherNil_holds : Rows.GatherNilSaid :=
  OpenClaim.holds_of_wide 6 Try.f6 rfl rfl rfl rfl rfl rfl rfl ⟨rfl, rfl, rfl, rfl, rfl⟩ rfl rfl rfl rfl rfl (by kernel_rfl) Try.func6 (by kernel_rfl)
    (of_decide_eq_true (by kernel_rfl)) (by unfold Func.isWrapper; first | (rw [if_pos (by decide +kernel)]; kernel_rfl) | (rw [if_neg (by decide +kernel)]; exact ⟨rfl, rfl⟩))
    (fun os started H enc _ => gatherNil_lifted os started H enc)
#print axioms gatherNil_holds
end Go.Proofs.Ytoojpagpkbcfjaa
