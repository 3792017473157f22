/- Texts of the proof of SchemaApartSaid, joined: RaP RaC SpN RTr SrC SrD SoG RaQ. -/
import Derived.Deep.QuietTactic
import Derived.BigQuiet
import Derived.Test.YtlamebbolioljaaJSchemaApart9
import Derived.Test.YtlamebbolioljaaJSchemaApart2
import Derived.Deep.Cut
import Derived.Deep.RegionHeld3
import Derived.Laws.ResultCell
import Derived.Test.YtlamebbolioljaaJSchemaApart8
import Derived.Test.YtlamebbolioljaaJSchemaApart6
import Derived.BigRegion
/- The document's layer 21: place, cycle, shift. -/
namespace Go.Proofs.Ytlamebbolioljaa
open Go.RowKit
theorem loadSp_shutP (a : Addr) : loadVar 43 a = loadK 43 a := rfl
attribute [local go_sem ↓] loadSp_shutP

theorem plcG_rng (id : Nat) : ∀ (l : List Sp) (i : Nat), -1 ≤ plcG id l i ∧ plcG id l i < ((i + l.length : Nat) : Int) ∧ (0 ≤ plcG id l i → (i : Int) ≤ plcG id l i)
  | [], i => by rw [plcG]; exact ⟨by omega, by simp only [List.length_nil]; omega, by omega⟩
  | x :: l, i => by
    rw [plcG]
    split
    · exact ⟨by omega, by simp only [List.length_cons]; omega, by omega⟩
    · have h := plcG_rng id l (i + 1)
      refine ⟨h.1, by have := h.2.1; simp only [List.length_cons]; omega, fun h0 => by have := h.2.2 h0; omega⟩
theorem plc_rng (l : List Sp) (id : Nat) : -1 ≤ plc l id ∧ plc l id < (l.length : Int) := by
  have h := plcG_rng id l 0
  exact ⟨h.1, by have := h.2.1; simp only [Nat.zero_add] at this; exact this⟩
theorem plcG_step {l : List Sp} {k id : Nat} {x : Sp} (h : l[k]? = some x) : plcG id (l.drop k) k = if x.id = id then (k : Int) else plcG id (l.drop (k + 1)) (k + 1) := by
  obtain ⟨hk, rfl⟩ := List.getElem?_eq_some_iff.1 h
  rw [List.drop_eq_getElem_cons hk, plcG]
set_option maxRecDepth 100000 in
set_option maxHeartbeats 2000000 in
theorem raPlace {A : Option Addr} {n c B : Nat} (l : List El) (id : Nat) (w : World) (h : RbS w B A l) (hn : l.length = n) (hnl : n ≤ 9223372036854775807) :
    Calls Try.prog 71 #[.slice A n c, .int .u64 id] w fun e w' => e = .returned (.int .i64 (plc (sps l) id)) ∧ w' = w := by
  obtain ⟨q, hq⟩ : ∃ q, plc (sps l) id = q := ⟨_, rfl⟩
  rw [hq]
  have HQ := Lib.hid hq
  have HN := Lib.hid hn
  clear hq hn
  go_enter Try.func71, Try.ntmps71
  go_wp2_with fail
  go_loop [5] (fun i_ => ∃ k : Nat, k ≤ n ∧ i_ = .int .i64 k ∧ plcG id ((sps l).drop k) k = q) (fun i_ => n - (intOf i_).toNat)
  case atStart => exact ⟨0, by omega, rfl, HQ.out⟩
  case round =>
    obtain ⟨k, hk, rfl, hr⟩ := hrel
    by_cases hlt : k < n
    · have hlt' : (k : Int) < (n : Int) := by omega
      obtain ⟨e, he⟩ : ∃ e, l[k]? = some e := ⟨_, List.getElem?_eq_getElem (by rw [HN.out]; exact hlt)⟩
      obtain ⟨b, o, e1, hb, hc, -⟩ := h.get he
      subst e1
      have c2 : w.cell? ⟨b, o + k * 11 + 2, none⟩ = some (.int .u64 e.s.id) := hc 2 (by omega)
      have hst := plcG_step (id := id) (sps_get he)
      rw [hr] at hst
      have HST := Lib.hid hst
      obtain ⟨y, hy⟩ : ∃ y, e.s.id = y := ⟨_, rfl⟩
      rw [hy] at c2 HST
      clear hst hr hc he hy
      by_cases hid : y = id
      · subst hid
        have hst := HST.out
        rw [if_pos rfl] at hst
        subst hst
        go_wp2_with fail
        go_ret
        exact ⟨rfl, rfl⟩
      · have hst := HST.out
        rw [if_neg hid] at hst
        have hne : ((y : Int) == (id : Int)) = false := by simp; omega
        have HS := Lib.hid hst
        clear hst HST
        go_wp2_with fail
        exact ⟨⟨k + 1, by omega, by go_num, HS.out.symm⟩, by simp only [intOf]; omega⟩
    · have hlt' : decide ((k : Int) < (n : Int)) = false := by simp; omega
      rw [List.drop_eq_nil_of_le (by rw [sps_length, HN.out]; omega), plcG] at hr
      subst hr
      go_wp2_with fail
      go_ret
      exact ⟨rfl, rfl⟩
end Go.Proofs.Ytlamebbolioljaa

/- The document's layer 21: cycle. -/
namespace Go.Proofs.Ytlamebbolioljaa
open Go.RowKit
theorem loadSp_shutC (a : Addr) : loadVar 43 a = loadK 43 a := rfl
attribute [local go_sem ↓] loadSp_shutC

theorem RbS.at {w : World} {B : Nat} {b o : Nat} {l : List El} (h : RbS w B (some ⟨b, o, none⟩) l) {k : Nat} {e : El} (hk : l[k]? = some e) : w.cell? ⟨b, o + k * 11 + 2, none⟩ = some (.int .u64 e.s.id) ∧ w.cell? ⟨b, o + k * 11 + 3, none⟩ = some (.int .u64 e.s.parent) := by
  obtain ⟨b', o', e1, -, hc, -⟩ := h.get hk
  cases e1
  exact ⟨hc 2 (by omega), hc 3 (by omega)⟩
set_option maxRecDepth 100000 in
set_option maxHeartbeats 4000000 in
theorem raCycle {A : Option Addr} {n c B i : Nat} (l : List El) (x : El) (w : World) (h : RbS w B A l) (hn : l.length = n) (hnl : n ≤ 1000000) (hx : l[i]? = some x) :
    Calls Try.prog 72 #[.slice A n c, .int .i64 i] w fun e w' => e = .returned (.bool (cyc (sps l) i x.s)) ∧ ∃ d, w' = w.drewN d := by
  have hin : i < n := by rw [← hn]; exact (List.getElem?_eq_some_iff.1 hx).1
  have hin' : (i : Int) < (n : Int) := by omega
  obtain ⟨b, o, e1, -, -, -⟩ := h.get hx
  subst e1
  obtain ⟨q, hq⟩ : ∃ q, cyc (sps l) i x.s = q := ⟨_, rfl⟩
  rw [hq]
  unfold cyc at hq
  rw [sps_length, hn] at hq
  have HQ := Lib.hid hq
  have HN := Lib.hid hn
  have HX := Lib.hid hx
  have HR : Hid (∀ (d k : Nat) (e : El), l[k]? = some e → (w.drewN d).cell? ⟨b, o + k * 11 + 2, none⟩ = some (.int .u64 e.s.id) ∧ (w.drewN d).cell? ⟨b, o + k * 11 + 3, none⟩ = some (.int .u64 e.s.parent)) := Lib.hid fun d k e he => (h.drewN d).at he
  have CP : Hid (∀ (d id : Nat), Calls Try.prog 71 #[.slice (some ⟨b, o, none⟩) n c, .int .u64 id] (w.drewN d) fun e w' => e = .returned (.int .i64 (plc (sps l) id)) ∧ w' = w.drewN d) := Lib.hid fun d id => raPlace l id _ (h.drewN d) hn (by omega)
  have hpr : ∀ id, -1 ≤ plc (sps l) id ∧ plc (sps l) id < (n : Int) := fun id => by
    have := plc_rng (sps l) id
    rwa [sps_length, hn] at this
  have HPR := Lib.hid hpr
  have hx0 := HR.out 0 i x hx
  have hx1 : w.cell? ⟨b, o + i * 11 + 3, none⟩ = some (.int .u64 x.s.parent) := hx0.2
  obtain ⟨xp, hxp⟩ : ∃ xp, x.s.parent = xp := ⟨_, rfl⟩
  obtain ⟨xi, hxi⟩ : ∃ xi, x.s.id = xi := ⟨_, rfl⟩
  rw [hxp] at hx1 hq
  have HXP := Lib.hid hxp
  have HXI := Lib.hid hxi
  have cp0 : Calls Try.prog 71 #[.slice (some ⟨b, o, none⟩) n c, .int .u64 xp] w fun e w' => e = .returned (.int .i64 (plc (sps l) xp)) ∧ w' = w := CP.out 0 xp
  clear hpr hn hx hx0 h hxp hxi hq
  go_enter Try.func72, Try.ntmps72
  go_wp2_with fail
  refine cp0.mono ?_
  rintro e w1 ⟨rfl, rfl⟩
  go_wp2_with fail
  go_loopw [5, 6] (fun at_ n_ wr => ∃ (p : Int) (k d : Nat), k ≤ n + 1 ∧ -1 ≤ p ∧ p < n ∧ at_ = .int .i64 p ∧ n_ = .int .i64 k ∧ Hid (cycGo (sps l) i x.s (n + 1 - k) p = q) ∧ wr = w1.drewN d) (fun _ n_ _ => n + 1 - (intOf n_).toNat)
  case atStart => exact ⟨plc (sps l) xp, 0, 0, by omega, (HPR.out xp).1, (HPR.out xp).2, rfl, rfl, Lib.hid (by rw [← HXP.out]; exact HQ.out), rfl⟩
  case round =>
    obtain ⟨p, k, d, hk, hp1, hp2, rfl, rfl, HG, rfl⟩ := hrel
    by_cases hkn : k ≤ n
    · have hkn' : (k : Int) ≤ (n : Int) := by omega
      by_cases hp0 : 0 ≤ p
      · obtain ⟨j, hj⟩ : ∃ j : Nat, p = (j : Int) := ⟨p.toNat, by omega⟩
        subst hj
        have hjn : j < n := by omega
        have hjn' : (j : Int) < (n : Int) := by omega
        obtain ⟨y, hy⟩ : ∃ y, l[j]? = some y := ⟨_, List.getElem?_eq_getElem (by rw [HN.out]; exact hjn)⟩
        have hg := HG.out
        rw [show n + 1 - k = (n - k) + 1 from by omega, cycGo, if_neg (by omega), Int.toNat_natCast, sps_get hy] at hg
        simp only [] at hg
        rw [HXP.out, HXI.out] at hg
        obtain ⟨yp, hyp⟩ : ∃ yp, y.s.parent = yp := ⟨_, rfl⟩
        obtain ⟨yi, hyi⟩ : ∃ yi, y.s.id = yi := ⟨_, rfl⟩
        rw [hyp, hyi] at hg
        have HCX : Hid (∀ d, (w1.drewN d).cell? ⟨b, o + i * 11 + 2, none⟩ = some (.int .u64 xi) ∧ (w1.drewN d).cell? ⟨b, o + i * 11 + 3, none⟩ = some (.int .u64 xp)) := Lib.hid fun d => by
          have := HR.out d i x HX.out
          rwa [HXP.out, HXI.out] at this
        have HCY : Hid (∀ d, (w1.drewN d).cell? ⟨b, o + j * 11 + 2, none⟩ = some (.int .u64 yi) ∧ (w1.drewN d).cell? ⟨b, o + j * 11 + 3, none⟩ = some (.int .u64 yp)) := Lib.hid fun d => by
          have := HR.out d j y hy
          rwa [hyp, hyi] at this
        have HG1 := Lib.hid hg
        clear hg hy hyp hyi HG
        have cx2 : w1.cell? ⟨b, o + i * 11 + 2, none⟩ = some (.int .u64 xi) := (HCX.out 0).1
        have cx3 : w1.cell? ⟨b, o + i * 11 + 3, none⟩ = some (.int .u64 xp) := (HCX.out 0).2
        have cy2 : w1.cell? ⟨b, o + j * 11 + 2, none⟩ = some (.int .u64 yi) := (HCY.out 0).1
        have cy3 : w1.cell? ⟨b, o + j * 11 + 3, none⟩ = some (.int .u64 yp) := (HCY.out 0).2
        by_cases hx0 : xp = 0
        · subst hx0
          have hg := HG1.out
          rw [if_pos (.inl rfl)] at hg
          subst hg
          go_wp2_with fail
          go_quiet (fail)
          go_wp2_with fail
          go_ret
          exact ⟨rfl, _, by first | rfl | exact World.drewN_drewN _ _ _⟩
        have hx0' : ((xp : Int) == 0) = false := by simp; omega
        by_cases hlt : yi < xi
        · have hlt' : decide ((yi : Int) < (xi : Int)) = true := by simp; omega
          have hlt'' : (yi : Int) < (xi : Int) := by omega
          have hg := HG1.out
          rw [if_pos (.inr hlt)] at hg
          subst hg
          go_wp2_with fail
          go_quiet (fail)
          go_wp2_with fail
          go_ret
          exact ⟨rfl, _, by first | rfl | exact World.drewN_drewN _ _ _⟩
        have hlt' : decide ((yi : Int) < (xi : Int)) = false := by simp; omega
        have hlt'' : ¬ (yi : Int) < (xi : Int) := by omega
        have hg := HG1.out
        rw [if_neg (by rw [not_or]; exact ⟨hx0, hlt⟩)] at hg
        have HG2 := Lib.hid hg
        clear hg HG1
        go_wp2_with fail
        go_quiet (fail)
        by_cases hji : j = i
        · subst hji
          have hg := HG2.out
          rw [if_pos rfl] at hg
          subst hg
          go_wp2_with fail
          go_ret
          exact ⟨rfl, _, by first | rfl | exact World.drewN_drewN _ _ _⟩
        have hji' : ((j : Int) == (i : Int)) = false := by simp; omega
        have hg := HG2.out
        rw [if_neg (by omega)] at hg
        have HG3 := Lib.hid hg
        clear hg HG2
        obtain ⟨d2, hd2⟩ : ∃ d2, (w1.drewN d).drewN nq = w1.drewN d2 := ⟨_, World.drewN_drewN _ _ _⟩
        rw [hd2]
        clear hd2
        by_cases hy0 : yp = 0
        · subst hy0
          have hg := HG3.out
          rw [if_pos rfl] at hg
          subst hg
          go_wp2_with fail
          go_ret
          exact ⟨rfl, _, rfl⟩
        have hy0' : ((yp : Int) == 0) = false := by simp; omega
        have hg := HG3.out
        rw [if_neg hy0] at hg
        have HG4 := Lib.hid hg
        clear hg HG3
        go_wp2_with fail
        refine (CP.out d2 yp).mono ?_
        rintro e w3 ⟨rfl, rfl⟩
        go_wp2_with fail
        exact ⟨⟨plc (sps l) yp, k + 1, d2, by omega, (HPR.out yp).1, (HPR.out yp).2, rfl, by go_num, Lib.hid (by rw [show n + 1 - (k + 1) = n - k from by omega]; exact HG4.out), rfl⟩, by simp only [intOf]; omega⟩
      · have hp0' : decide ((0 : Int) ≤ p) = false := by simp; omega
        have hg := HG.out
        rw [show n + 1 - k = (n - k) + 1 from by omega, cycGo, if_pos (by omega)] at hg
        subst hg
        go_wp2_with fail
        go_ret
        exact ⟨rfl, _, rfl⟩
    · have hkn' : decide ((k : Int) ≤ (n : Int)) = false := by simp; omega
      have hg := HG.out
      rw [show n + 1 - k = 0 from by omega, cycGo] at hg
      subst hg
      go_wp2_with fail
      go_ret
      exact ⟨rfl, _, rfl⟩
end Go.Proofs.Ytlamebbolioljaa

/- Spans: the order of spans is one: plain laws. -/
namespace Go.Proofs.Ytlamebbolioljaa
open Go.RowKit

/-- A comparison that tells apart, and is in order. -/
structure Cmp {α : Type} (f : α → α → Int) : Prop where
  rng : ∀ a b, f a b = -1 ∨ f a b = 0 ∨ f a b = 1
  eq : ∀ a b, f a b = 0 ↔ a = b
  neg : ∀ a b, f b a = - f a b
  tr : ∀ a b c, f a b = -1 → f b c = -1 → f a c = -1
theorem Cmp.lex {α β : Type} {f : α → α → Int} {g : β → β → Int} (F : Cmp f) (G : Cmp g) : Cmp (fun (a b : α × β) => if f a.1 b.1 ≠ 0 then f a.1 b.1 else g a.2 b.2) := by
  refine ⟨fun a b => ?_, fun a b => ?_, fun a b => ?_, fun a b c => ?_⟩
  · by_cases h : f a.1 b.1 = 0
    · simp only [h]; simpa using G.rng a.2 b.2
    · rw [if_pos h]; exact F.rng a.1 b.1
  · by_cases h : f a.1 b.1 = 0
    · have h1 := (F.eq a.1 b.1).1 h
      simp only [h, ne_eq, not_true_eq_false, if_false]
      rw [G.eq]
      exact ⟨fun h2 => Prod.ext h1 h2, fun h2 => by rw [h2]⟩
    · simp only [h, ne_eq, not_false_eq_true, if_true, false_iff]
      rintro rfl
      exact h ((F.eq _ _).2 rfl)
  · by_cases h : f a.1 b.1 = 0
    · have h1 : f b.1 a.1 = 0 := by rw [F.neg, h]; rfl
      simp only [h, h1, ne_eq, not_true_eq_false, if_false]
      exact G.neg _ _
    · have h1 : f b.1 a.1 ≠ 0 := by rw [F.neg]; omega
      simp only [h, h1, ne_eq, not_false_eq_true, if_true]
      exact F.neg _ _
  · intro h1 h2
    by_cases e1 : f a.1 b.1 = 0
    · have q1 := (F.eq _ _).1 e1
      rw [if_neg (by simp [e1])] at h1
      by_cases e2 : f b.1 c.1 = 0
      · rw [if_neg (by simp [e2])] at h2
        rw [if_neg (by rw [q1, e2]; simp)]
        exact G.tr _ _ _ h1 h2
      · rw [if_pos e2] at h2
        rw [if_pos (by rw [q1]; exact e2), q1]
        exact h2
    · rw [if_pos e1] at h1
      by_cases e2 : f b.1 c.1 = 0
      · have q2 := (F.eq _ _).1 e2
        rw [if_pos (by rw [← q2]; exact e1), ← q2]
        exact h1
      · rw [if_pos e2] at h2
        have := F.tr _ _ _ h1 h2
        rw [if_pos (by omega)]
        exact this
theorem Cmp.pull {α γ : Type} {f : α → α → Int} (F : Cmp f) (h : γ → α) (hi : ∀ x y, h x = h y → x = y) : Cmp (fun x y => f (h x) (h y)) :=
  ⟨fun _ _ => F.rng _ _, fun x y => (F.eq _ _).trans ⟨hi x y, fun e => by rw [e]⟩, fun _ _ => F.neg _ _, fun _ _ _ => F.tr _ _ _⟩
theorem cmpI_cmp : Cmp cmpI := by
  have key : ∀ a b : Int, (cmpI a b = -1 ∧ a < b) ∨ (cmpI a b = 0 ∧ a = b) ∨ (cmpI a b = 1 ∧ b < a) := fun a b => by
    unfold cmpI
    by_cases h1 : a < b
    · rw [if_pos h1]; omega
    · rw [if_neg h1]
      by_cases h2 : b < a
      · rw [if_pos h2]; omega
      · rw [if_neg h2]; omega
  refine ⟨fun a b => ?_, fun a b => ?_, fun a b => ?_, fun a b c h1 h2 => ?_⟩
  · have := key a b; omega
  · have := key a b
    constructor <;> intro h <;> omega
  · have := key a b
    have := key b a
    omega
  · have := key a b
    have := key b c
    have := key a c
    omega
theorem strLt_ltb (s t : ByteArray) : strLt s t = ltb (nums s) (nums t) := by
  have := ltb_str (nums_byt s) (nums_byt t)
  rw [strOf_nums, strOf_nums] at this
  exact this
theorem ltb_irr : ∀ (a : List Int), ltb a a = false
  | [] => rfl
  | x :: a => by rw [ltb, ltb_irr a]; simp
theorem ltb_tr : ∀ (a b c : List Int), ltb a b = true → ltb b c = true → ltb a c = true
  | a, [], _, h, _ => by simp [ltb] at h
  | _, y :: b, [], _, h => by simp [ltb] at h
  | [], _ :: _, _ :: _, _, _ => rfl
  | x :: a, y :: b, z :: c, h1, h2 => by
    simp only [ltb, Bool.or_eq_true, Bool.and_eq_true, decide_eq_true_eq] at h1 h2 ⊢
    rcases h1 with h1 | ⟨h1, h1'⟩
    · rcases h2 with h2 | ⟨h2, _⟩ <;> exact .inl (by omega)
    · rcases h2 with h2 | ⟨h2, h2'⟩
      · exact .inl (by omega)
      · exact .inr ⟨by omega, ltb_tr a b c h1' h2'⟩
theorem ltb_tri : ∀ (a b : List Int), ltb a b = false → ltb b a = false → a = b
  | [], [], _, _ => rfl
  | [], _ :: _, h, _ => by cases h
  | _ :: _, [], _, h => by cases h
  | x :: a, y :: b, h1, h2 => by
    simp only [ltb, Bool.or_eq_false_iff, Bool.and_eq_false_iff, decide_eq_false_iff_not] at h1 h2
    have hxy : x = y := by omega
    subst hxy
    rw [ltb_tri a b (by rcases h1.2 with h | h; · exact absurd rfl h
                        · exact h) (by rcases h2.2 with h | h; · exact absurd rfl h
                                       · exact h)]
theorem cmpS_cmp : Cmp cmpS := by
  have asym : ∀ s t, strLt s t = true → strLt t s = false := fun s t h => by
    cases h2 : strLt t s with
    | false => rfl
    | true =>
      rw [strLt_ltb] at h h2
      have := ltb_tr _ _ _ h h2
      rw [ltb_irr] at this
      cases this
  have irr : ∀ s, strLt s s = false := fun s => by rw [strLt_ltb, ltb_irr]
  have tri : ∀ s t, strLt s t = false → s ≠ t → strLt t s = true := fun s t h hne => by
    cases h2 : strLt t s with
    | true => rfl
    | false =>
      rw [strLt_ltb] at h h2
      exact absurd (nums_inj (ltb_tri _ _ h h2)) hne
  refine ⟨fun a b => ?_, fun a b => ?_, fun a b => ?_, fun a b c => ?_⟩
  · unfold cmpS; split
    · simp
    · split <;> simp
  · unfold cmpS
    cases h : strLt a b with
    | true =>
      simp
      rintro rfl
      rw [irr] at h
      cases h
    | false => simp
  · by_cases he : a = b
    · subst he
      unfold cmpS
      rw [irr]; simp
    · cases h : strLt a b with
      | true =>
        have h2 := asym _ _ h
        unfold cmpS
        rw [h, h2, if_neg (by simp), if_neg (fun e => he e.symm), if_pos rfl]
        rfl
      | false =>
        have h2 := tri _ _ h he
        unfold cmpS
        rw [h, h2, if_pos rfl, if_neg (by simp), if_neg he]
  · unfold cmpS
    intro h1 h2
    have k1 : strLt a b = true := by
      cases h : strLt a b with
      | true => rfl
      | false => rw [h] at h1; simp at h1; split at h1 <;> cases h1
    have k2 : strLt b c = true := by
      cases h : strLt b c with
      | true => rfl
      | false => rw [h] at h2; simp at h2; split at h2 <;> cases h2
    have k3 : strLt a c = true := by
      rw [strLt_ltb] at k1 k2 ⊢
      exact ltb_tr _ _ _ k1 k2
    rw [k3]; rfl
theorem orL2 (x y : Int) : orL [x, y] = if x ≠ 0 then x else y := by
  simp only [orL]
  by_cases h : x = 0
  · by_cases h2 : y = 0
    · simp [h, h2]
    · simp [h, h2]
  · simp [h]
theorem cmpTg_cmp : Cmp cmpTg := by
  have := (cmpS_cmp.lex cmpS_cmp).pull (fun t : Tg => (t.key, t.val)) (fun x y h => by cases x; cases y; simp at h; simp [h])
  have e : cmpTg = fun x y : Tg => if cmpS x.key y.key ≠ 0 then cmpS x.key y.key else cmpS x.val y.val := by
    funext x y
    rw [cmpTg, orL2]
  rw [e]
  exact this
theorem cmpTL_cmp : Cmp cmpTL := by
  have F := cmpTg_cmp
  refine ⟨fun a => ?_, fun a => ?_, fun a => ?_, fun a => ?_⟩
  · induction a with
    | nil => intro b; cases b <;> simp [cmpTL]
    | cons x a ih =>
      intro b
      cases b with
      | nil => simp [cmpTL]
      | cons y b =>
        rw [cmpTL]
        by_cases h : cmpTg x y = 0
        · rw [if_neg (by simp [h])]; exact ih b
        · rw [if_pos h]; exact F.rng x y
  · induction a with
    | nil => intro b; cases b <;> simp [cmpTL]
    | cons x a ih =>
      intro b
      cases b with
      | nil => simp [cmpTL]
      | cons y b =>
        rw [cmpTL]
        by_cases h : cmpTg x y = 0
        · rw [if_neg (by simp [h]), ih b, (F.eq _ _).1 h]; simp
        · rw [if_pos h]
          refine ⟨fun e => absurd e h, fun e => ?_⟩
          injection e with e1 e2
          exact (F.eq _ _).2 e1
  · induction a with
    | nil => intro b; cases b <;> simp [cmpTL]
    | cons x a ih =>
      intro b
      cases b with
      | nil => simp [cmpTL]
      | cons y b =>
        rw [cmpTL, cmpTL]
        have hn := F.neg x y
        by_cases h : cmpTg x y = 0
        · rw [if_neg (by omega), if_neg (by simp [h])]; exact ih b
        · rw [if_pos (by omega), if_pos h]; exact hn
  · induction a with
    | nil =>
      intro b c h1 h2
      cases b with
      | nil => simp [cmpTL] at h1
      | cons y b =>
        cases c with
        | nil => simp [cmpTL] at h2
        | cons z c => rfl
    | cons x a ih =>
      intro b c h1 h2
      cases b with
      | nil => simp [cmpTL] at h1
      | cons y b =>
        cases c with
        | nil => simp [cmpTL] at h2
        | cons z c =>
          rw [cmpTL] at h1 h2 ⊢
          by_cases e1 : cmpTg x y = 0
          · have q1 := (F.eq _ _).1 e1
            rw [if_neg (by simp [e1])] at h1
            by_cases e2 : cmpTg y z = 0
            · rw [if_neg (by simp [e2])] at h2
              rw [if_neg (by rw [q1, e2]; simp)]
              exact ih b c h1 h2
            · rw [if_pos e2] at h2
              rw [if_pos (by rw [q1]; exact e2), q1]
              exact h2
          · rw [if_pos e1] at h1
            by_cases e2 : cmpTg y z = 0
            · have q2 := (F.eq _ _).1 e2
              rw [if_pos (by rw [← q2]; exact e1), ← q2]
              exact h1
            · rw [if_pos e2] at h2
              have := F.tr _ _ _ h1 h2
              rw [if_pos (by omega)]
              exact this
theorem Cmp.of_eq {α : Type} {f g : α → α → Int} (F : Cmp f) (h : ∀ a b, g a b = f a b) : Cmp g := by
  have e : g = f := by funext a b; exact h a b
  rw [e]; exact F
theorem cmpNat_cmp : Cmp (fun x y : Nat => cmpI (x : Int) (y : Int)) := cmpI_cmp.pull (fun x : Nat => (x : Int)) (fun x y h => by omega)
theorem cmpBool_cmp : Cmp (fun x y : Bool => cmpI (if x = true then 1 else 0) (if y = true then 1 else 0)) := cmpI_cmp.pull (fun x : Bool => if x = true then (1 : Int) else 0) (fun x y h => by cases x <;> cases y <;> simp at h <;> rfl)
def spTup (s : Sp) : (Nat × Nat) × Nat × Nat × Int × Int × ByteArray × ByteArray × Int × Bool × List Tg := ((s.hi, s.lo), s.id, s.parent, s.start, s.length, s.service, s.name, s.kind, s.fails, s.tags)
theorem orL1 (x : Int) : orL [x] = x := by
  simp only [orL]
  by_cases h : x = 0
  · simp [h]
  · simp [h]
theorem orL_cons (x y : Int) (l : List Int) : orL (x :: y :: l) = if x ≠ 0 then x else orL (y :: l) := rfl
/-- The order of spans is one: it tells spans apart, the other way round it is the opposite, and it goes on over a third. -/
theorem spCmp_cmp : Cmp spCmp := by
  have C := ((cmpNat_cmp.lex cmpNat_cmp).lex (cmpNat_cmp.lex (cmpNat_cmp.lex (cmpI_cmp.lex (cmpI_cmp.lex (cmpS_cmp.lex (cmpS_cmp.lex (cmpI_cmp.lex (cmpBool_cmp.lex cmpTL_cmp))))))))).pull spTup (fun x y h => by
    cases x; cases y
    simp only [spTup, Prod.mk.injEq] at h
    obtain ⟨⟨h1, h2⟩, h3, h4, h5, h6, h7, h8, h9, h10, h11⟩ := h
    subst h1 h2 h3 h4 h5 h6 h7 h8 h9 h10 h11
    rfl)
  refine C.of_eq fun a b => ?_
  rw [spCmp, orL_cons, orL_cons, orL_cons, orL_cons, orL_cons, orL_cons, orL_cons, orL_cons, orL_cons, orL1, cmpTr, orL2]
  rfl
end Go.Proofs.Ytlamebbolioljaa

/- The document's truth: bootprintref17.truth. -/
namespace Go.Proofs.Ytlamebbolioljaa
open Go.RowKit
theorem rTruth (w : World) (b : Bool) : Calls Try.prog 86 #[.bool b] w fun e w' => e = .returned (.int .i64 (if b = true then 1 else 0)) ∧ w' = w := by
  cases b
  · go_enter Try.func86, Try.ntmps86
    go_wp2
    go_ret
    exact ⟨rfl, rfl⟩
  · go_enter Try.func86, Try.ntmps86
    go_wp2
    go_ret
    exact ⟨rfl, rfl⟩

end Go.Proofs.Ytlamebbolioljaa

/- Spans, the document's answer: the order of two numbers, texts, lists of tags. -/
namespace Go.Proofs.Ytlamebbolioljaa
open Go.RowKit

theorem rNumber (x y : Int) (w : World) : Calls Try.prog 99 #[.int .u64 x, .int .u64 y] w fun e w' => e = .returned (.int .i64 (cmpI x y)) ∧ w' = w := by
  by_cases h1 : x < y
  · rw [show cmpI x y = -1 from by rw [cmpI, if_pos h1]]
    go_enter Try.func99, Try.ntmps99
    go_wp2
    go_ret
    exact ⟨rfl, rfl⟩
  · by_cases h2 : y < x
    · rw [show cmpI x y = 1 from by rw [cmpI, if_neg h1, if_pos h2]]
      go_enter Try.func99, Try.ntmps99
      go_wp2
      go_ret
      exact ⟨rfl, rfl⟩
    · rw [show cmpI x y = 0 from by rw [cmpI, if_neg h1, if_neg h2]]
      go_enter Try.func99, Try.ntmps99
      go_wp2
      go_ret
      exact ⟨rfl, rfl⟩
theorem rSigned (x y : Int) (w : World) : Calls Try.prog 100 #[.int .i64 x, .int .i64 y] w fun e w' => e = .returned (.int .i64 (cmpI x y)) ∧ w' = w := by
  by_cases h1 : x < y
  · rw [show cmpI x y = -1 from by rw [cmpI, if_pos h1]]
    go_enter Try.func100, Try.ntmps100
    go_wp2
    go_ret
    exact ⟨rfl, rfl⟩
  · by_cases h2 : y < x
    · rw [show cmpI x y = 1 from by rw [cmpI, if_neg h1, if_pos h2]]
      go_enter Try.func100, Try.ntmps100
      go_wp2
      go_ret
      exact ⟨rfl, rfl⟩
    · rw [show cmpI x y = 0 from by rw [cmpI, if_neg h1, if_neg h2]]
      go_enter Try.func100, Try.ntmps100
      go_wp2
      go_ret
      exact ⟨rfl, rfl⟩
theorem rTextC (s t : ByteArray) (w : World) : Calls Try.prog 101 #[.string s, .string t] w fun e w' => e = .returned (.int .i64 (cmpS s t)) ∧ w' = w := by
  rcases strLt_ways s t with ⟨h1, h3⟩ | ⟨h1, h2, h3⟩ | ⟨h1, h2, h3⟩
  · rw [h3]
    unfold strLt at h1
    clear h3
    go_enter Try.func101, Try.ntmps101
    go_wp2
    go_ret
    exact ⟨rfl, rfl⟩
  · rw [h3]
    have e0 : (s.toList == t.toList) = false := by
      rw [strEq_of', decide_eq_false_iff_not]
      rintro rfl
      rw [h1] at h2
      cases h2
    unfold strLt at h1 h2
    clear h3
    go_enter Try.func101, Try.ntmps101
    go_wp2
    go_ret
    exact ⟨rfl, rfl⟩
  · rw [h3]
    have e0 : (s.toList == t.toList) = true := by
      rw [strEq_of', decide_eq_true_iff]
      rw [strLt_ltb] at h1 h2
      exact nums_inj (ltb_tri _ _ h1 h2)
    unfold strLt at h1 h2
    clear h3
    go_enter Try.func101, Try.ntmps101
    go_wp2
    go_ret
    exact ⟨rfl, rfl⟩
set_option maxRecDepth 100000 in
set_option maxHeartbeats 2000000 in
theorem rTags {A1 A2 : Option Addr} {c1 c2 n m B : Nat} {la lb : List Tg} (w : World) (hf : RbT w B A1 la) (hg : RbT w B A2 lb) (hn : la.length = n) (hm : lb.length = m) (hnl : n ≤ 9223372036854775807) (hml : m ≤ 9223372036854775807) :
    Calls Try.prog 102 #[.slice A1 n c1, .slice A2 m c2] w fun e w' => e = .returned (.int .i64 (cmpTL la lb)) ∧ ∃ d, w' = w.drewN d := by
  have HN := Lib.hid hn
  have HM := Lib.hid hm
  obtain ⟨q, hq⟩ : ∃ q, cmpTL la lb = q := ⟨_, rfl⟩
  rw [hq]
  have HQ := Lib.hid hq
  clear hn hm hq
  go_enter Try.func102, Try.ntmps102
  go_wp2
  go_loopw [5, 6] (fun iv_ _ wr => ∃ j : Nat, j ≤ n ∧ j ≤ m ∧ iv_ = .int .i64 j ∧ cmpTL (la.drop j) (lb.drop j) = q ∧ ∃ d, wr = w.drewN d) (fun i _ _ => n - (intOf i).toNat)
  case atStart => exact ⟨0, by omega, by omega, rfl, HQ.out, 0, rfl⟩
  case round =>
    obtain ⟨j, hj, hjm, rfl, hd, d, rfl⟩ := hrel
    have HD := Lib.hid hd
    clear hd
    by_cases hlt : j < n
    · have hlt' : (j : Int) < (n : Int) := by omega
      by_cases hlm : j < m
      · have hlm2 : (j : Int) < (m : Int) := by omega
        obtain ⟨x, hx⟩ : ∃ x, la[j]? = some x := ⟨_, List.getElem?_eq_getElem (by rw [HN.out]; exact hlt)⟩
        obtain ⟨b1, o1, rfl, hbb1, c11, c12⟩ := RbT.get hf hx
        obtain ⟨y, hy⟩ : ∃ y, lb[j]? = some y := ⟨_, List.getElem?_eq_getElem (by rw [HM.out]; exact hlm)⟩
        obtain ⟨b2, o2, rfl, hbb2, c21, c22⟩ := RbT.get hg hy
        have hst := cmpTL_step hx hy
        rw [HD.out, cmpTg, orL2] at hst
        obtain ⟨u, hu⟩ : ∃ u, cmpS x.key y.key = u := ⟨_, rfl⟩
        obtain ⟨v, hv⟩ : ∃ v, cmpS x.val y.val = v := ⟨_, rfl⟩
        have hc1 := fun W => rTextC x.key y.key W
        have hc2 := fun W => rTextC x.val y.val W
        rw [hu] at hst hc1
        rw [hv] at hst hc2
        have HST := Lib.hid hst
        have HC1 := Lib.hid hc1
        have HC2 := Lib.hid hc2
        clear hst hc1 hc2 hu hv hx hy hbb1 hbb2
        go_wp2_with fail
        by_cases h0 : u = 0
        · subst h0
          by_cases h1 : v = 0
          · subst h1
            have hd := HST.out
            simp only [ne_eq, not_true, if_false] at hd
            have HD2 := Lib.hid hd
            clear hd
            go_quiet ((go_at_call 101; go_loud (exact (HC1.out _).mono (fun _ _ h => ⟨h.1, _, h.2⟩))))
            go_wp2_with fail
            go_quiet ((go_at_call 101; go_loud (exact (HC2.out _).mono (fun _ _ h => ⟨h.1, _, h.2⟩))))
            go_wp2_with fail
            go_roundw
            case rel => exact ⟨j + 1, by omega, by omega, by go_num, HD2.out.symm, _, rfl⟩
            case measure => simp [intOf]; omega
          · have hxb : (v != 0) = true := by simp [h1]
            have hd := HST.out
            simp only [ne_eq, not_true, if_false, h1, not_false_eq_true, if_true] at hd
            have HD2 := Lib.hid hd
            clear hd
            go_quiet ((go_at_call 101; go_loud (exact (HC1.out _).mono (fun _ _ h => ⟨h.1, _, h.2⟩))))
            go_wp2_with fail
            go_quiet ((go_at_call 101; go_loud (exact (HC2.out _).mono (fun _ _ h => ⟨h.1, _, h.2⟩))))
            go_wp2_with fail
            go_ret
            exact ⟨by rw [HD2.out]; rfl, _, rfl⟩
        · have hxb : (u != 0) = true := by simp [h0]
          have hxc : (u == 0) = false := by simp [h0]
          have hd := HST.out
          simp only [ne_eq, h0, not_false_eq_true, if_true] at hd
          have HD2 := Lib.hid hd
          clear hd
          go_quiet ((go_at_call 101; go_loud (exact (HC1.out _).mono (fun _ _ h => ⟨h.1, _, h.2⟩))))
          go_wp2_with fail
          go_ret
          exact ⟨by rw [HD2.out]; rfl, _, rfl⟩
      · have hlm2 : decide ((j : Int) < (m : Int)) = false := by simp; omega
        have hq1 : q = cmpI (n : Int) (m : Int) := by
          rw [← HD.out, show lb.drop j = [] from List.drop_eq_nil_of_le (by rw [HM.out]; omega), List.drop_eq_getElem_cons (by rw [HN.out]; exact hlt), cmpTL, cmpI, if_neg (by omega), if_pos (by omega)]
        have HQ1 := Lib.hid hq1
        clear hq1
        go_wp2_with (go_at_call 100; refine (rSigned _ _ _).mono ?_; rintro e w' ⟨rfl, hw⟩; rw [hw]; clear hw w')
        go_ret
        exact ⟨by rw [HQ1.out]; rfl, d, rfl⟩
    · have hlt' : decide ((j : Int) < (n : Int)) = false := by simp; omega
      obtain rfl : j = n := by omega
      have hq1 : q = cmpI (j : Int) (m : Int) := by
        rw [← HD.out, show la.drop j = [] from List.drop_eq_nil_of_le (by rw [HN.out]; omega)]
        by_cases hlm : j < m
        · rw [List.drop_eq_getElem_cons (by rw [HM.out]; exact hlm), cmpTL, cmpI, if_pos (by omega)]
        · rw [List.drop_eq_nil_of_le (by rw [HM.out]; omega), cmpTL, cmpI, if_neg (by omega), if_neg (by omega)]
      have HQ1 := Lib.hid hq1
      clear hq1
      go_wp2_with (go_at_call 100; refine (rSigned _ _ _).mono ?_; rintro e w' ⟨rfl, hw⟩; rw [hw]; clear hw w')
      go_ret
      exact ⟨by rw [HQ1.out]; rfl, d, rfl⟩
end Go.Proofs.Ytlamebbolioljaa

/- Spans, the document's answer: Compare. -/
namespace Go.Proofs.Ytlamebbolioljaa
open Go.RowKit

theorem orL_nest (x y : Int) (l : List Int) : orL (orL [x, y] :: l) = orL (x :: y :: l) := by
  simp only [orL]
  by_cases h : x = 0
  · subst h
    by_cases h2 : y = 0 <;> simp [h2]
  · simp [h]
theorem orL_none {l : List Int} {j : Nat} (h : l.length ≤ j) : orL (l.drop j) = 0 := by rw [List.drop_eq_nil_of_le h]; rfl

set_option maxRecDepth 100000 in
set_option maxHeartbeats 8000000 in
theorem rCompare {A1 A2 : Option Addr} {c1 c2 n m B : Nat} (a b : Sp) (w : World) (hf : RbT w B A1 a.tags) (hg : RbT w B A2 b.tags) (hn : a.tags.length = n) (hm : b.tags.length = m) (hB : B ≤ w.heap.size) (hnl : n ≤ 9223372036854775807) (hml : m ≤ 9223372036854775807) :
    Calls Try.prog 87 #[spV a A1 n c1, spV b A2 m c2] w fun e w' => e = .returned (.int .i64 (spCmp a b)) ∧ Below w.heap.size w w' := by
  have hb0 : Below w.heap.size w ((w.alloc (.cells (spC a A1 n c1) 43)).alloc (.cells (spC b A2 m c2) 43)) := ((Below.refl _ w).alloc (Nat.le_refl _) _).alloc (by simp) _
  have hff := Rd.below hf (hb0.mono hB)
  have hgg := Rd.below hg (hb0.mono hB)
  have bk1 := (Bk.new w 43 (spC a A1 n c1)).alloc (.cells (spC b A2 m c2) 43)
  have bk2 := Bk.new (w.alloc (.cells (spC a A1 n c1) 43)) 43 (spC b A2 m c2)
  rw [World.size_alloc] at bk2
  have hs1 : ((w.alloc (.cells (spC a A1 n c1) 43)).alloc (.cells (spC b A2 m c2) 43)).heap.size = w.heap.size + 2 := by simp
  obtain ⟨W, hW⟩ : ∃ W, (w.alloc (.cells (spC a A1 n c1) 43)).alloc (.cells (spC b A2 m c2) 43) = W := ⟨_, rfl⟩
  rw [hW] at hb0 hff hgg bk1 bk2 hs1
  have HW := Lib.hid hW
  obtain ⟨g, hgq⟩ : ∃ g, w.heap.size = g := ⟨_, rfl⟩
  rw [hgq] at bk1 bk2
  have HG := Lib.hid hgq
  have bd1 := bk1.drew
  have bd2 := bk2.drew
  have fd := Rd.drew hff
  have gd := Rd.drew hgg
  have hbd : Below w.heap.size w W.drew := below_drewN hb0 1
  have hBW : B ≤ W.drew.heap.size := by show B ≤ W.heap.size; omega
  obtain ⟨fa, hfa⟩ : ∃ fa : Int, (if a.fails = true then 1 else 0) = fa := ⟨_, rfl⟩
  obtain ⟨fb, hfb⟩ : ∃ fb : Int, (if b.fails = true then 1 else 0) = fb := ⟨_, rfl⟩
  have hT1 := fun W => rTruth W a.fails
  rw [hfa] at hT1
  have hT2 := fun W => rTruth W b.fails
  rw [hfb] at hT2
  have hres : spCmp a b = orL [cmpI a.hi b.hi, cmpI a.lo b.lo, cmpI a.id b.id, cmpI a.parent b.parent, cmpI a.start b.start, cmpI a.length b.length, cmpS a.service b.service, cmpS a.name b.name, cmpI a.kind b.kind, cmpI fa fb, cmpTL a.tags b.tags] := by rw [spCmp, hfa, hfb, cmpTr, orL_nest]
  obtain ⟨q, hq⟩ : ∃ q, spCmp a b = q := ⟨_, rfl⟩
  rw [hq]
  rw [hq] at hres
  have HQ := Lib.hid hres
  clear hres hfa hfb hq
  have HN := Lib.hid hn
  have HM := Lib.hid hm
  clear hW hgq hf hg hn hm hb0 hff hgg bk1 bk2 hs1
  go_enter Try.func87, Try.ntmps87
  go_upto_region 1 with fail
  rw [HW.out, HG.out]
  go_region_held3 (fun w' => (w'.cell? ⟨g, 0, none⟩ = some (.int .u64 a.hi) ∧ w'.cell? ⟨g, 1, none⟩ = some (.int .u64 a.lo) ∧ w'.cell? ⟨g, 2, none⟩ = some (.int .u64 a.id) ∧ w'.cell? ⟨g, 3, none⟩ = some (.int .u64 a.parent) ∧ w'.cell? ⟨g, 4, none⟩ = some (.string a.service) ∧ w'.cell? ⟨g, 5, none⟩ = some (.string a.name) ∧ w'.cell? ⟨g, 6, none⟩ = some (.int .i64 a.kind) ∧ w'.cell? ⟨g, 7, none⟩ = some (.int .i64 a.start) ∧ w'.cell? ⟨g, 8, none⟩ = some (.int .i64 a.length) ∧ w'.cell? ⟨g, 9, none⟩ = some (.bool a.fails) ∧ w'.cell? ⟨g, 10, none⟩ = some (.slice A1 n c1)) ∧ (w'.cell? ⟨g + 1, 0, none⟩ = some (.int .u64 b.hi) ∧ w'.cell? ⟨g + 1, 1, none⟩ = some (.int .u64 b.lo) ∧ w'.cell? ⟨g + 1, 2, none⟩ = some (.int .u64 b.id) ∧ w'.cell? ⟨g + 1, 3, none⟩ = some (.int .u64 b.parent) ∧ w'.cell? ⟨g + 1, 4, none⟩ = some (.string b.service) ∧ w'.cell? ⟨g + 1, 5, none⟩ = some (.string b.name) ∧ w'.cell? ⟨g + 1, 6, none⟩ = some (.int .i64 b.kind) ∧ w'.cell? ⟨g + 1, 7, none⟩ = some (.int .i64 b.start) ∧ w'.cell? ⟨g + 1, 8, none⟩ = some (.int .i64 b.length) ∧ w'.cell? ⟨g + 1, 9, none⟩ = some (.bool b.fails) ∧ w'.cell? ⟨g + 1, 10, none⟩ = some (.slice A2 m c2)))
    (exact ⟨cells11 (by assumption), cells11 (by assumption)⟩)
    (first
      | (go_at_call 99
         refine (rNumber _ _ _).mono ?_
         rintro e w' ⟨rfl, hw⟩
         rw [hw]
         clear hw w')
      | (go_at_call 100
         refine (rSigned _ _ _).mono ?_
         rintro e w' ⟨rfl, hw⟩
         rw [hw]
         clear hw w')
      | (go_at_call 101
         refine (rTextC _ _ _).mono ?_
         rintro e w' ⟨rfl, hw⟩
         rw [hw]
         clear hw w')
      | (go_at_call_of 86 (Value.bool a.fails)
         refine (hT1 _).mono ?_
         rintro e w' ⟨rfl, hw⟩
         rw [hw]
         clear hw w')
      | (go_at_call_of 86 (Value.bool b.fails)
         refine (hT2 _).mono ?_
         rintro e w' ⟨rfl, hw⟩
         rw [hw]
         clear hw w')
      | (go_at_call 102
         refine (rTags W.drew fd gd HN.out HM.out hnl hml).mono ?_
         rintro e w6 ⟨rfl, hw6⟩
         have hb6 := below_all hw6 W.drew.heap.size
         clear hw6
         have bf1 := bd1.below hb6 bd1.lt
         have bf2 := bd2.below hb6 bd2.lt
         have hbf := hbd.trans (hb6.mono hbd.size)
         have bz := Bk.new w6 3 #[.int .i64 (cmpI a.hi b.hi), .int .i64 (cmpI a.lo b.lo), .int .i64 (cmpI a.id b.id), .int .i64 (cmpI a.parent b.parent), .int .i64 (cmpI a.start b.start), .int .i64 (cmpI a.length b.length), .int .i64 (cmpS a.service b.service), .int .i64 (cmpS a.name b.name), .int .i64 (cmpI a.kind b.kind), .int .i64 (cmpI fa fb), .int .i64 (cmpTL a.tags b.tags)]
         have hbz := hbf.alloc hbf.size (.cells #[.int .i64 (cmpI a.hi b.hi), .int .i64 (cmpI a.lo b.lo), .int .i64 (cmpI a.id b.id), .int .i64 (cmpI a.parent b.parent), .int .i64 (cmpI a.start b.start), .int .i64 (cmpI a.length b.length), .int .i64 (cmpS a.service b.service), .int .i64 (cmpS a.name b.name), .int .i64 (cmpI a.kind b.kind), .int .i64 (cmpI fa fb), .int .i64 (cmpTL a.tags b.tags)] 3)
         have bg1 := bf1.alloc (.cells #[.int .i64 (cmpI a.hi b.hi), .int .i64 (cmpI a.lo b.lo), .int .i64 (cmpI a.id b.id), .int .i64 (cmpI a.parent b.parent), .int .i64 (cmpI a.start b.start), .int .i64 (cmpI a.length b.length), .int .i64 (cmpS a.service b.service), .int .i64 (cmpS a.name b.name), .int .i64 (cmpI a.kind b.kind), .int .i64 (cmpI fa fb), .int .i64 (cmpTL a.tags b.tags)] 3)
         have bg2 := bf2.alloc (.cells #[.int .i64 (cmpI a.hi b.hi), .int .i64 (cmpI a.lo b.lo), .int .i64 (cmpI a.id b.id), .int .i64 (cmpI a.parent b.parent), .int .i64 (cmpI a.start b.start), .int .i64 (cmpI a.length b.length), .int .i64 (cmpS a.service b.service), .int .i64 (cmpS a.name b.name), .int .i64 (cmpI a.kind b.kind), .int .i64 (cmpI fa fb), .int .i64 (cmpTL a.tags b.tags)] 3))
      | fail)
  all_goals
    obtain ⟨l, hl⟩ : ∃ l : List Int, [cmpI a.hi b.hi, cmpI a.lo b.lo, cmpI a.id b.id, cmpI a.parent b.parent, cmpI a.start b.start, cmpI a.length b.length, cmpS a.service b.service, cmpS a.name b.name, cmpI a.kind b.kind, cmpI fa fb, cmpTL a.tags b.tags] = l := ⟨_, rfl⟩
    have hlen : l.length = 11 := by rw [← hl]; rfl
    have hbk : Bk (w6.alloc (.cells #[.int .i64 (cmpI a.hi b.hi), .int .i64 (cmpI a.lo b.lo), .int .i64 (cmpI a.id b.id), .int .i64 (cmpI a.parent b.parent), .int .i64 (cmpI a.start b.start), .int .i64 (cmpI a.length b.length), .int .i64 (cmpS a.service b.service), .int .i64 (cmpS a.name b.name), .int .i64 (cmpI a.kind b.kind), .int .i64 (cmpI fa fb), .int .i64 (cmpTL a.tags b.tags)] 3)) w6.heap.size 3 (l.map (Value.int .i64)).toArray := by rw [← hl]; exact bz
    obtain ⟨v, hv⟩ : ∃ v, w6.alloc (.cells #[.int .i64 (cmpI a.hi b.hi), .int .i64 (cmpI a.lo b.lo), .int .i64 (cmpI a.id b.id), .int .i64 (cmpI a.parent b.parent), .int .i64 (cmpI a.start b.start), .int .i64 (cmpI a.length b.length), .int .i64 (cmpS a.service b.service), .int .i64 (cmpS a.name b.name), .int .i64 (cmpI a.kind b.kind), .int .i64 (cmpI fa fb), .int .i64 (cmpTL a.tags b.tags)] 3) = v := ⟨_, rfl⟩
    rw [hv] at hbk hbz ⊢
    obtain ⟨z, hz⟩ : ∃ z, w6.heap.size = z := ⟨_, rfl⟩
    rw [hz] at hbk ⊢
    have hget : ∀ j x, l[j]? = some x → v.cell? ⟨z, j, none⟩ = some (.int .i64 x) := fun j x h => by
      rw [hbk.cell j, List.getElem?_toArray, List.getElem?_map, h]
      rfl
    have HGET := Lib.hid hget
    have HLEN := Lib.hid hlen
    have hqq := HQ.out
    rw [hl] at hqq
    have HQQ := Lib.hid hqq
    clear hl hlen hbk hv hz hget hqq bz bg1 bg2 bf1 bf2 hbf hb6
    go_wp2_with fail
    go_loop [6] (fun i => ∃ j : Nat, j ≤ 11 ∧ i = .int .i64 j ∧ orL (l.drop j) = q) (fun i => 11 - (intOf i).toNat)
    case atStart => exact ⟨0, by omega, rfl, HQQ.out.symm⟩
    case round =>
      obtain ⟨j, hj, rfl, hd⟩ := hrel
      have HD := Lib.hid hd
      clear hd
      by_cases hlt : j < 11
      · have hlt' : (j : Int) < 11 := by omega
        obtain ⟨x, hx⟩ : ∃ x, l[j]? = some x := ⟨_, List.getElem?_eq_getElem (by rw [HLEN.out]; exact hlt)⟩
        have hc := HGET.out j x hx
        have hd := orL_drop hx
        rw [HD.out] at hd
        have HX := Lib.hid hd
        clear hx hd
        by_cases h0 : x = 0
        · subst h0
          have hd := HX.out
          rw [if_neg (by simp)] at hd
          have HX2 := Lib.hid hd
          clear hd
          go_wp2
          go_round
          case rel => exact ⟨j + 1, by omega, by go_num, HX2.out.symm⟩
          case measure => simp [intOf]; omega
        · have hxb : (x != 0) = true := by simp [h0]
          have hd := HX.out
          rw [if_pos h0] at hd
          have HX2 := Lib.hid hd
          clear hd
          go_wp2
          go_ret
          exact ⟨by rw [HX2.out]; rfl, hbz⟩
      · have hlt' : decide ((j : Int) < 11) = false := by simp; omega
        have hq0 : q = 0 := by rw [← HD.out]; exact orL_none (by rw [HLEN.out]; omega)
        have HQ0 := Lib.hid hq0
        clear hq0
        go_wp2
        go_ret
        exact ⟨by rw [HQ0.out]; rfl, hbz⟩
end Go.Proofs.Ytlamebbolioljaa

/- ref.Copy, ref.Order. -/
namespace Go.Proofs.Ytlamebbolioljaa
open Go.RowKit

set_option maxRecDepth 100000 in
set_option maxHeartbeats 2000000 in
theorem rCopy {A : Option Addr} {c n B : Nat} (s : Sp) (w : World) (hf : RbT w B A s.tags) (hn : s.tags.length = n) (hB : B ≤ w.heap.size) (hnl : n ≤ 4398046511104) :
    Calls Try.prog 88 #[spV s A n c] w (CopyPost w s n A) := by
  have hb0 : Below w.heap.size w ((w.alloc (.cells (spC s A n c) 43)).alloc (.cells zspC 43)) := ((Below.refl _ w).alloc (Nat.le_refl _) _).alloc (by simp) _
  have hf1 := Rd.below hf (hb0.mono hB)
  have bk := (Bk.new w 43 (spC s A n c)).alloc (.cells zspC 43)
  have br := Bk.new (w.alloc (.cells (spC s A n c) 43)) 43 zspC
  rw [World.size_alloc] at br
  have hs1 : ((w.alloc (.cells (spC s A n c) 43)).alloc (.cells zspC 43)).heap.size = w.heap.size + 2 := by simp
  obtain ⟨w1, hw1⟩ : ∃ w1, (w.alloc (.cells (spC s A n c) 43)).alloc (.cells zspC 43) = w1 := ⟨_, rfl⟩
  rw [hw1] at hb0 hf1 bk br hs1
  have HW := Lib.hid hw1
  obtain ⟨g, hg⟩ : ∃ g, w.heap.size = g := ⟨_, rfl⟩
  rw [hg] at bk br
  have HG := Lib.hid hg
  have hg1 : g + 2 ≤ w1.heap.size := by omega
  have HN := Lib.hid hn
  have k10 : (w1.alloc (.cells #[] 97)).cell? ⟨g, 10, none⟩ = some (.slice A n c) := (bk.alloc _).cell 10
  have hBw : B ≤ w1.heap.size := by omega
  clear hw1 hg hn hf hs1
  go_enter Try.func88, Try.ntmps88
  go_upto_region 1 with fail
  rw [HW.out, HG.out]
  go_wp2_with (at_builtin; go_loud (refine wpList_appTg _ rfl (.tmp 3) (.tmp 5) rfl w1.heap.size _ 0 [] rfl (World.ownsRow_lit w1 #[] 0 (Nat.le_refl _) (by simp [maxLen]) rfl) B A n c s.tags rfl HN.out (Rd.alloc hf1 hBw _) (by omega) (by simp) ?_))
  intro A' c' w2 happ0 hne0
  have happ := happ0.fresh1
  clear happ0
  have hb2 := happ.below0
  have bk2 := bk.below hb2 bk.lt
  have br2 := br.below hb2 br.lt
  have hlo := happ.lo
  have hrd := Rd.of_own happ.own
  have hcap : n ≤ c' ∧ (A' = none → n = 0 ∧ c' = 0) := by
    rcases happ.own.2 with ⟨h1, h2⟩ | ⟨q, cap, cur, h1, _, _, h3, _⟩
    · injection h1 with _ _ h4
      exact ⟨by omega, fun _ => ⟨h2, h4⟩⟩
    · injection h1 with h4 _ h5
      subst h5
      exact ⟨h3, fun h => by rw [h] at h4; cases h4⟩
  have k10b : w2.cell? ⟨g, 10, none⟩ = some (.slice A n c) := bk2.cell 10
  have f10b : w2.frozen? ⟨g, 10, none⟩ = false := bk2.frozen 10
  have bk3 := bk2.set 10 (.slice A' n c')
  have br3 := br2.far (p := ⟨g, 10, none⟩) (by show g + 1 ≠ g; omega) (.slice A' n c')
  have hb3 := (hb0.trans (hb2.mono hb0.size)).setCell (p := ⟨g, 10, none⟩) (by show w.heap.size ≤ g; rw [HG.out]; exact Nat.le_refl _) (.slice A' n c')
  have hrd3 := hrd.grownS (grown_setCell w2 g 10 (.slice A' n c')) (fun a ha e => by
    have h1 := (hlo a ha).1
    have h2 := Option.some.inj e
    omega)
  have bk3' : Bk (w2.setCell ⟨g, 10, none⟩ (.slice A' n c')) g 43 (spC s A' n c') := bk3
  obtain ⟨w3, hw3⟩ : ∃ w3, w2.setCell ⟨g, 10, none⟩ (.slice A' n c') = w3 := ⟨_, rfl⟩
  rw [hw3] at bk3' br3 hb3 hrd3
  have HW3 := Lib.hid hw3
  clear hw3 bk3 bk2 br2 hb2 hrd happ hf1 bk br
  go_wp2_with (first
    | (refine wpList_load_row rfl 43 (.tmp 1) rfl g rfl 43 (spC s A' n c') (0, 0) _ (by rw [HW3.out]; exact bk3') Try.underlying43 rfl (by rfl) ?_; rw [HW3.out])
    | (refine wpList_store_row rfl 43 (.tmp 2) (.tmp 8) rfl (g + 1) (spC s A' n c') rfl rfl 43 zspC br3 (by rfl) rfl (spC_one s A' n c') ?_))
  try simp only [Exit.inBlock, Exit.then]
  refine bodyPost_ret (results_cell_row rfl _ _ (g + 1) 43 (spC s A' n c') (0, 0) _ rfl (br3.row _) Try.underlying43 rfl (by rfl)) rfl ?_
  refine ⟨A', c', rfl, ?_, ?_, hcap.1, ?_, ?_⟩
  · refine hrd3.grownS (only_row (g + 1) _) (fun a ha e => ?_)
    have h1 := (hlo a ha).1
    have h2 := Option.some.inj e
    omega
  · refine hb3.trans ?_
    exact ⟨rfl, rfl, rfl, by simp [World.setRow], fun i hi => by
      have := HG.out
      have := hb3.size
      simp [World.setRow, Array.getElem?_modify]
      intro e
      omega⟩
  · intro a ha
    have h1 := (hlo a ha).1
    have := hb0.size
    omega
  · intro h
    exact (hne0 h).elim


end Go.Proofs.Ytlamebbolioljaa

/- The document's layer 21: Unique. (Turned out of SoH.) -/
namespace Go.Proofs.Ytlamebbolioljaa
open Go.RowKit
theorem loadSp_shutQ (a : Addr) : loadVar 43 a = loadK 43 a := rfl
attribute [local go_sem ↓] loadSp_shutQ
attribute [local go_sem ↓] appK_shut
attribute [local go_sem ↓] sliced_s
attribute [local go_sem ↓ high] sliced_s0

theorem fstTo_succ (l : List Sp) (x : Sp) (i k : Nat) {y : Sp} (h : l[k]? = some y) : fstTo l x i (k + 1) = (fstTo l x i k && !ahd x y k i) := by
  simp [fstTo, List.range_succ, h]
theorem insK_le (id : Nat) (out : List Sp) : ∀ k, insK id out k ≤ k
  | 0 => Nat.le_refl _
  | k + 1 => by
    rw [insK]
    split
    · split
      · have := insK_le id out k; omega
      · exact Nat.le_refl _
    · exact Nat.le_refl _
theorem insK_step {id k : Nat} {out : List Sp} {y : Sp} (h : out[k]? = some y) : insK id out (k + 1) = if id < y.id then insK id out k else k + 1 := by
  rw [insK, h]
theorem uniqTo_step {l : List Sp} {i : Nat} {x : Sp} (h : l[i]? = some x) : uniqTo l (i + 1) = if fstTo l x i l.length = true then insAt x (uniqTo l i) else uniqTo l i := by
  rw [uniqTo, h]
theorem uniqTo_len (l : List Sp) : ∀ i, (uniqTo l i).length ≤ i
  | 0 => Nat.le_refl _
  | i + 1 => by
    have ih := uniqTo_len l i
    rw [uniqTo]
    split
    · split
      · rw [insAt, List.length_append, List.length_cons, List.length_take, List.length_drop]; omega
      · omega
    · omega
/-- What Unique hands back. -/
def UnqPost (w : World) (ss : List Sp) (e : Ending) (w' : World) : Prop :=
  ∃ A' c' n' l', e = .returned (.slice A' n' c') ∧ sps l' = ss ∧ RowS w' w.heap.size (.slice A' n' c') n' l' ∧ Below w.heap.size w w'
set_option maxRecDepth 100000 in
set_option maxHeartbeats 4000000 in
theorem raUnique {A : Option Addr} {c n B : Nat} {l : List El} (w : World) (hf : RbS w B A l) (hn : l.length = n) (hB : B ≤ w.heap.size) (hnl : n ≤ 100000) (hsm : ∀ e ∈ l, e.n ≤ 1000000) :
    Calls Try.prog 70 #[.slice A n c] w (UnqPost w (uniq (sps l))) := by
  have HN := Lib.hid hn
  have HSM := Lib.hid hsm
  clear hn hsm
  go_enter Try.func70, Try.ntmps70
  go_wp2
  go_loopw [3, 4] (fun v iv_ wr => ∃ (i m : Nat) (A' : Option Addr) (c' : Nat) (l' : List El), i ≤ n ∧ m ≤ i ∧ v = .slice A' m c' ∧ iv_ = .int .i64 i ∧ sps l' = uniqTo (sps l) i ∧ RowS wr w.heap.size (.slice A' m c') m l' ∧ Below w.heap.size w wr) (fun _ i _ => n - (intOf i).toNat)
  case atStart => exact ⟨0, 0, none, 0, [], by omega, by omega, rfl, rfl, rfl, RowS.nil _ _, Below.refl _ _⟩
  case round =>
    obtain ⟨i, j, A', c', l', hi, hji, rfl, rfl, hl', hrow, hb⟩ := hrel
    have HL := Lib.hid hl'
    clear hl'
    by_cases hlt : i < n
    · have hlt' : (i : Int) < (n : Int) := by omega
      obtain ⟨x, hx⟩ : ∃ x, l[i]? = some x := ⟨_, List.getElem?_eq_getElem (by rw [HN.out]; exact hlt)⟩
      have HX := Lib.hid hx
      have hxn := HSM.out x (List.mem_of_getElem? hx)
      obtain ⟨b, o, rfl, hbb, -, -⟩ := hf.get hx
      have HLE : Hid (∀ {W : World} {k : Nat} {e : El}, Below w.heap.size w W → l[k]? = some e → (loadK 43 ⟨b, o + k * 11, none⟩).run Try.prog W = .ok (spV e.s e.A e.n e.c) W ∧ ElOk W B e ∧ W.cell? ⟨b, o + k * 11 + 2, none⟩ = some (.int .u64 e.s.id)) := fun {W k e} hW he => by
        obtain ⟨b', o', e', -, hc', hok'⟩ := (hf.below (hW.mono hB)).get he
        cases e'
        exact ⟨loadK_el hc', hok', hc' 2 (by omega)⟩
      have hcap : l'.length ≤ c' := by rw [hrow.len]; exact hrow.cap
      have hjc := hrow.cap
      have hjn : j ≤ 100000 := by omega
      obtain ⟨xi, hxi⟩ : ∃ xi, x.s.id = xi := ⟨_, rfl⟩
      have HXI := Lib.hid hxi
      clear hx hxi
      go_wp2_with fail
      obtain ⟨wO, hwO⟩ : ∃ wO, wO = wr := ⟨_, rfl⟩
      subst hwO
      go_loopw [5, 6] (fun f_ k_ wr2 => ∃ (f : Bool) (k : Nat), k ≤ n ∧ f_ = .bool f ∧ k_ = .int .i64 k ∧ Hid (fstTo (sps l) x.s i k = f) ∧ Below wO.heap.size wO wr2) (fun _ k_ _ => n - (intOf k_).toNat)
      case atStart => exact ⟨true, 0, by omega, rfl, rfl, Lib.hid rfl, Below.refl _ _⟩
      case round =>
        obtain ⟨f, k, hk, rfl, rfl, HF, hb2⟩ := hrel
        by_cases hkn : k < n
        · have hkn' : (k : Int) < (n : Int) := by omega
          obtain ⟨e, he⟩ : ∃ e, l[k]? = some e := ⟨_, List.getElem?_eq_getElem (by rw [HN.out]; exact hkn)⟩
          have hbd : Below wO.heap.size wO wr.drew := below_drewN hb2 1
          have hbwd : Below w.heap.size w wr.drew := hb.trans (hbd.mono hb.size)
          obtain ⟨hld1, hok1, -⟩ := HLE.out hbwd he
          obtain ⟨hld2, hok2, -⟩ := HLE.out hbwd HX.out
          have hcm := rCompare (c1 := e.c) (c2 := x.c) e.s x.s wr.drew (hok1.more (Nat.le_trans hB hbwd.size)).rd (hok2.more (Nat.le_trans hB hbwd.size)).rd hok1.len hok2.len (Nat.le_refl _) hok1.max hok2.max
          obtain ⟨cv, hcv⟩ : ∃ cv, spCmp e.s x.s = cv := ⟨_, rfl⟩
          rw [hcv] at hcm
          obtain ⟨ei, hei⟩ : ∃ ei, e.s.id = ei := ⟨_, rfl⟩
          have hst := fstTo_succ (sps l) x.s i k (sps_get he)
          rw [HF.out, ahd, hei, HXI.out, hcv] at hst
          have HST := Lib.hid hst
          have HCV := Lib.hid hcv
          have HCM := Lib.hid hcm
          have HE := Lib.hid he
          have HEI := Lib.hid hei
          clear hcm hcv hok1 hok2 he hst hei
          go_wp2_with fail
          go_region_held3 (fun w' => (loadK 43 ⟨b, o + k * 11, none⟩).run Try.prog w' = .ok (spV e.s e.A e.n e.c) w' ∧ (loadK 43 ⟨b, o + i * 11, none⟩).run Try.prog w' = .ok (spV x.s x.A x.n x.c) w')
            (first | exact ⟨hld1, hld2⟩ | exact ⟨hle1, hle2⟩)
            (first
              | (go_at_call 87
                 refine HCM.out.mono ?_
                 rintro en w5 ⟨rfl, hb5⟩
                 have hb05 := hbd.trans (hb5.mono hbd.size)
                 have hle1 := (HLE.out (hb.trans (hb05.mono hb.size)) HE.out).1
                 have hle2 := (HLE.out (hb.trans (hb05.mono hb.size)) HX.out).1)
              | fail)
          have hc1 := (HLE.out (hb.trans (hb05.mono hb.size)) HE.out).2.2
          have hc2 := (HLE.out (hb.trans (hb05.mono hb.size)) HX.out).2.2
          rw [HEI.out] at hc1
          rw [HXI.out] at hc2
          clear hld1 hld2 hle1 hle2 HCM hb5 HE
          have hnew : ∀ W, Below wO.heap.size w5 W → Below wO.heap.size wO W := fun W hW => hb05.trans hW
          by_cases q1 : ei = xi
          · have q1' : ((ei : Int) == (xi : Int)) = true := by simp; omega
            by_cases q2 : cv < 0
            · have q2' : decide (cv < 0) = true := by simp [q2]
              have hs : fstTo (sps l) x.s i (k + 1) = false := by rw [HST.out]; simp [q1, q2]
              have HS := Lib.hid hs
              clear hs HST
              go_wp2_with fail
              go_quiet (fail)
              go_wp2_with fail
              exact ⟨⟨false, k + 1, by omega, rfl, by go_num, Lib.hid HS.out, hb05.trans (below_drewN (Below.refl _ _) _)⟩, by simp only [intOf]; omega⟩
            · have q2' : decide (cv < 0) = false := by simp; omega
              by_cases q3 : cv = 0
              · have q3' : (cv == 0) = true := by simp [q3]
                by_cases q4 : k < i
                · have q4' : decide ((k : Int) < (i : Int)) = true := by simp; omega
                  have hs : fstTo (sps l) x.s i (k + 1) = false := by rw [HST.out]; simp [q1, q3, q4]
                  have HS := Lib.hid hs
                  clear hs HST
                  go_wp2_with fail
                  go_quiet (fail)
                  go_wp2_with fail
                  exact ⟨⟨false, k + 1, by omega, rfl, by go_num, Lib.hid HS.out, hb05.trans (below_drewN (Below.refl _ _) _)⟩, by simp only [intOf]; omega⟩
                · have q4' : decide ((k : Int) < (i : Int)) = false := by simp; omega
                  have hs : fstTo (sps l) x.s i (k + 1) = f := by rw [HST.out]; simp [q2, q4]
                  have HS := Lib.hid hs
                  clear hs HST
                  go_wp2_with fail
                  go_quiet (fail)
                  go_wp2_with fail
                  exact ⟨⟨f, k + 1, by omega, rfl, by go_num, Lib.hid HS.out, hb05.trans (below_drewN (Below.refl _ _) _)⟩, by simp only [intOf]; omega⟩
              · have q3' : (cv == 0) = false := by simp [q3]
                have hs : fstTo (sps l) x.s i (k + 1) = f := by rw [HST.out]; simp [q2, q3]
                have HS := Lib.hid hs
                clear hs HST
                go_wp2_with fail
                go_quiet (fail)
                go_wp2_with fail
                exact ⟨⟨f, k + 1, by omega, rfl, by go_num, Lib.hid HS.out, hb05.trans (below_drewN (Below.refl _ _) _)⟩, by simp only [intOf]; omega⟩
          · have q1' : ((ei : Int) == (xi : Int)) = false := by simp; omega
            have hs : fstTo (sps l) x.s i (k + 1) = f := by rw [HST.out]; simp [q1]
            have HS := Lib.hid hs
            clear hs HST
            go_wp2_with fail
            go_quiet (fail)
            go_wp2_with fail
            exact ⟨⟨f, k + 1, by omega, rfl, by go_num, Lib.hid HS.out, hb05.trans (below_drewN (Below.refl _ _) _)⟩, by simp only [intOf]; omega⟩
        · have hkn' : decide ((k : Int) < (n : Int)) = false := by simp; omega
          obtain rfl : k = n := by omega
          have hbq := hb.trans (hb2.mono hb.size)
          have hstep := uniqTo_step (sps_get HX.out)
          rw [sps_length, HN.out, HF.out, ← HL.out] at hstep
          have HSTP := Lib.hid hstep
          clear hstep
          cases f with
          | false =>
            go_wp2_with fail
            exact ⟨⟨i + 1, j, A', c', l', by omega, by omega, rfl, by go_num, by rw [HSTP.out]; rfl, hrow.bS hb2, hbq⟩, by simp only [intOf]; omega⟩
          | true =>
            go_wp2_with fail
            have hrow2 := hrow.bS hb2
            clear hrow hb2 hb HL HF
            obtain ⟨wP, hwP⟩ : ∃ wP, wP = wr := ⟨_, rfl⟩
            subst hwP
            go_loopw [8] (fun v wr2 => ∃ k : Nat, k ≤ j ∧ v = .int .i64 k ∧ Hid (insK x.s.id (sps l') j = insK x.s.id (sps l') k) ∧ Below wP.heap.size wP wr2) (fun v _ => (intOf v).toNat)
            case atStart => exact ⟨j, Nat.le_refl _, rfl, Lib.hid rfl, Below.refl _ _⟩
            case round =>
              obtain ⟨k, hk, rfl, HK, hb2⟩ := hrel
              by_cases hk0 : k = 0
              · have k0 : decide ((0 : Int) < (k : Int)) = false := by simp; omega
                have k0' : decide (0 < k) = false := by simp; omega
                have HKK : Hid (insK x.s.id (sps l') j = k) := Lib.hid (by rw [HK.out, hk0]; rfl)
                go_wp2_with fail
                go_quiet (fail)
                clear k0 k0' hk0 HK
                have hbW : Below wP.heap.size wP (wr.drewN nq) := below_drewN hb2 nq
                obtain ⟨WX, hWX⟩ : ∃ WX, wr.drewN nq = WX := ⟨_, rfl⟩
                rw [hWX] at hbW ⊢
                clear hWX
                have HBW : Hid (Below wP.heap.size wP WX) := Lib.hid hbW
                clear hbW
                have hrowW := hrow2.bS HBW.out
                have hbase : w.heap.size ≤ WX.heap.size := Nat.le_trans hbq.size HBW.out.size
                have hkj : (k : Int) ≤ (j : Int) := by omega
                have hkc : (k : Int) ≤ (c' : Int) := by omega
                go_wp2_with (at_builtin; go_loud (refine wpList_appS _ rfl (.tmp 77) (.tmp 80) rfl WX.heap.size _ 0 [] rfl (World.ownsRow_lit WX #[] 0 (Nat.le_refl _) (by simp [maxLen]) rfl) WX.heap.size _ (j - k) _ (l'.drop k) rfl (by rw [List.length_drop, hrow2.len]) (Rd.alloc (Rd.dropS (cap := c') hrowW.rbs.rd hcap) (Nat.le_refl _) _) (by omega) (by simp) ?_))
                intro A3 c3 w3 hap _
                have hap1 := hap.fresh1
                have hb3 := hap1.below0
                have hrow3 := hrowW.bS hb3
                have hlt3 := hbq.trans ((HBW.out.trans (hb3.mono HBW.out.size)).mono hbq.size)
                obtain ⟨hld, hokx, -⟩ := HLE.out hlt3 HX.out
                have hldd : (loadK 43 ⟨b, o + i * 11, none⟩).run Try.prog w3.drew = .ok (spV x.s x.A x.n x.c) w3.drew := (HLE.out (below_drewN hlt3 1) HX.out).1
                have hokd := (HLE.out (below_drewN hlt3 1) HX.out).2.1
                have hBd : B ≤ w3.drew.heap.size := Nat.le_trans hB hlt3.size
                have hcp := rCopy (c := x.c) x.s w3.drew hokd.rd hokd.len hBd (by omega)
                have HCP := Lib.hid hcp
                clear hcp
                have hlo := hap1.lo
                have hownW := hrowW.own_lt
                have hne3 : ∀ a, A3 = some a → (Value.slice A' j c').ownBlock ≠ some a.block := fun a ha e1 => by
                  have h1 := (hownW _ e1).1
                  have h2 := (hlo a ha).1
                  omega
                have hown3 := hap1.drew.own
                have hrow3d := hrow3.drewN 1
                have hbase3 : w.heap.size ≤ w3.drew.heap.size := hlt3.size
                go_wp2_with fail
                go_region_with
                  (first
                    | (go_at_call 88
                       refine HCP.out.mono ?_
                       rintro e w4 ⟨A4, c4, rfl, hr4, hb4, hc4, hlo4, -⟩
                       obtain ⟨A5, c5, w5, A6, c6, w6, hrun5, hrun6, hrow6, hb6⟩ := insRow (e := ⟨x.s, A4, x.n, c4⟩) w3.drew w4 hrow3d hk (by omega) hown3 hne3 hbase3 hb4 ⟨hr4, hokd.len, by show x.n ≤ _; omega⟩ hlo4
                       have HR6 := Lib.hid hrow6
                       clear hrow6)
                    | fail)
                have hsps : sps (l'.take k ++ ⟨x.s, A4, x.n, c4⟩ :: l'.drop k) = uniqTo (sps l) (i + 1) := by
                  rw [HSTP.out, if_pos (by trivial), insAt, sps_length, hrow2.len, HKK.out]
                  simp [sps]
                have HSS := Lib.hid hsps
                clear hsps
                go_wp2
                go_roundw
                case rel => exact ⟨i + 1, j + 1, A6, c6, _, by omega, by omega, rfl, by go_num, HSS.out, HR6.out, (below_drewN hlt3 1).trans hb6⟩
                case measure => simp [intOf]; omega
              · obtain ⟨kk, hkk⟩ : ∃ kk, kk + 1 = k := ⟨k - 1, by omega⟩
                have k0 : (0 : Int) < (k : Int) := by omega
                have k0' : 0 < k := by omega
                have hsubw : IntKind.i64.wrap ((k : Int) - 1) = (kk : Int) := by simp [IntKind.wrap, IntKind.bits, IntKind.signed]; omega
                have hkj' : (kk : Int) < (j : Int) := by omega
                have hkjn : kk < j := by omega
                obtain ⟨y, hy⟩ : ∃ y, l'[kk]? = some y := ⟨_, List.getElem?_eq_getElem (by rw [hrow2.len]; omega)⟩
                obtain ⟨b2, o2, hAe, -, hcy, -⟩ := (hrow2.bS hb2).rbs.get hy
                subst hAe
                have cy : wr.cell? ⟨b2, o2 + kk * 11 + 2, none⟩ = some (.int .u64 y.s.id) := hcy 2 (by omega)
                have cx := (HLE.out (hbq.trans (hb2.mono hbq.size)) HX.out).2.2
                have hst := insK_step (id := x.s.id) (sps_get hy)
                rw [hkk] at hst
                rw [← HK.out, HXI.out] at hst
                rw [HXI.out] at cx
                obtain ⟨yi, hyi⟩ : ∃ yi, y.s.id = yi := ⟨_, rfl⟩
                rw [hyi] at hst cy
                have HST := Lib.hid hst
                have HKE := Lib.hid hkk
                clear hst hy hyi hcy HK hkk
                by_cases hless : xi < yi
                · have hl1 : decide ((xi : Int) < (yi : Int)) = true := by simp; omega
                  have hl2 : (xi : Int) < (yi : Int) := by omega
                  have hnk : insK xi (sps l') j = insK xi (sps l') kk := by rw [HST.out, if_pos hless]
                  have HNK := Lib.hid hnk
                  clear hnk HST
                  go_wp2_with fail
                  go_quiet (fail)
                  go_wp2_with fail
                  exact ⟨⟨kk, by omega, by go_num, Lib.hid (HXI.out ▸ HNK.out), below_drewN hb2 _⟩, by have := HKE.out; simp only [intOf]; try omega⟩
                · have hl1 : decide ((xi : Int) < (yi : Int)) = false := by simp; omega
                  have hl2 : ¬ (xi : Int) < (yi : Int) := by omega
                  have HKK : Hid (insK x.s.id (sps l') j = k) := Lib.hid (by rw [HXI.out, HST.out, if_neg hless])
                  clear HST
                  go_wp2_with fail
                  go_quiet (fail)
                  clear k0 k0' hk0 hl1 hl2 hsubw hkj' hkjn
                  have hbW : Below wP.heap.size wP (wr.drewN nq) := below_drewN hb2 nq
                  obtain ⟨WX, hWX⟩ : ∃ WX, wr.drewN nq = WX := ⟨_, rfl⟩
                  rw [hWX] at hbW ⊢
                  clear hWX cx cy
                  have HBW : Hid (Below wP.heap.size wP WX) := Lib.hid hbW
                  clear hbW
                  have hrowW := hrow2.bS HBW.out
                  have hbase : w.heap.size ≤ WX.heap.size := Nat.le_trans hbq.size HBW.out.size
                  have hkj : (k : Int) ≤ (j : Int) := by omega
                  have hkc : (k : Int) ≤ (c' : Int) := by omega
                  go_wp2_with (at_builtin; go_loud (refine wpList_appS _ rfl (.tmp 77) (.tmp 80) rfl WX.heap.size _ 0 [] rfl (World.ownsRow_lit WX #[] 0 (Nat.le_refl _) (by simp [maxLen]) rfl) WX.heap.size _ (j - k) _ (l'.drop k) rfl (by rw [List.length_drop, hrow2.len]) (Rd.alloc (Rd.dropS (cap := c') hrowW.rbs.rd hcap) (Nat.le_refl _) _) (by omega) (by simp) ?_))
                  intro A3 c3 w3 hap _
                  have hap1 := hap.fresh1
                  have hb3 := hap1.below0
                  have hrow3 := hrowW.bS hb3
                  have hlt3 := hbq.trans ((HBW.out.trans (hb3.mono HBW.out.size)).mono hbq.size)
                  obtain ⟨hld, hokx, -⟩ := HLE.out hlt3 HX.out
                  have hldd : (loadK 43 ⟨b, o + i * 11, none⟩).run Try.prog w3.drew = .ok (spV x.s x.A x.n x.c) w3.drew := (HLE.out (below_drewN hlt3 1) HX.out).1
                  have hokd := (HLE.out (below_drewN hlt3 1) HX.out).2.1
                  have hBd : B ≤ w3.drew.heap.size := Nat.le_trans hB hlt3.size
                  have hcp := rCopy (c := x.c) x.s w3.drew hokd.rd hokd.len hBd (by omega)
                  have HCP := Lib.hid hcp
                  clear hcp
                  have hlo := hap1.lo
                  have hownW := hrowW.own_lt
                  have hne3 : ∀ a, A3 = some a → (Value.slice (some ⟨b2, o2, none⟩) j c').ownBlock ≠ some a.block := fun a ha e1 => by
                    have h1 := (hownW _ e1).1
                    have h2 := (hlo a ha).1
                    omega
                  have hown3 := hap1.drew.own
                  have hrow3d := hrow3.drewN 1
                  have hbase3 : w.heap.size ≤ w3.drew.heap.size := hlt3.size
                  go_wp2_with fail
                  go_region_with
                    (first
                      | (go_at_call 88
                         refine HCP.out.mono ?_
                         rintro e w4 ⟨A4, c4, rfl, hr4, hb4, hc4, hlo4, -⟩
                         obtain ⟨A5, c5, w5, A6, c6, w6, hrun5, hrun6, hrow6, hb6⟩ := insRow (e := ⟨x.s, A4, x.n, c4⟩) w3.drew w4 hrow3d hk (by omega) hown3 hne3 hbase3 hb4 ⟨hr4, hokd.len, by show x.n ≤ _; omega⟩ hlo4
                         have HR6 := Lib.hid hrow6
                         clear hrow6)
                      | fail)
                  have hsps : sps (l'.take k ++ ⟨x.s, A4, x.n, c4⟩ :: l'.drop k) = uniqTo (sps l) (i + 1) := by
                    rw [HSTP.out, if_pos (by trivial), insAt, sps_length, hrow2.len, HKK.out]
                    simp [sps]
                  have HSS := Lib.hid hsps
                  clear hsps
                  go_wp2
                  go_roundw
                  case rel => exact ⟨i + 1, j + 1, A6, c6, _, by omega, by omega, rfl, by go_num, HSS.out, HR6.out, (below_drewN hlt3 1).trans hb6⟩
                  case measure => simp [intOf]; omega
    · have hlt' : decide ((i : Int) < (n : Int)) = false := by simp; omega
      obtain rfl : i = n := by omega
      have hfin : sps l' = uniq (sps l) := by rw [HL.out, uniq, sps_length, HN.out]
      have HF := Lib.hid hfin
      clear hfin
      go_wp2
      go_ret
      exact ⟨A', c', j, l', rfl, HF.out, hrow, hb⟩
end Go.Proofs.Ytlamebbolioljaa
