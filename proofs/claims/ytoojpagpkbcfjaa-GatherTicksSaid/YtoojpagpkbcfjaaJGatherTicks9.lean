/- Texts of the proof of GatherTicksSaid, joined: OrK Open0 SpO SsO Pk. -/
import Derived.OrdersHeld
import Derived.Deep.RegionHeld
import Derived.Test.YtoojpagpkbcfjaaJGatherTicks1
import Derived.Test.YtoojpagpkbcfjaaRows
import Derived.ProofKit
import Derived.OpenShut
import Derived.ShutString
import Derived.ChangeOld
import Derived.Deep.Slices
import Derived.Lib.SmallJoins
/- A region that draws its order, what it reads read ahead of the operation that writes it: a condition on the world up to a cut. -/
namespace Go.Proofs.Ytoojpagpkbcfjaa
section
variable {P : Program} {ops : Array Oper} {Q : Exit → Act → World → Prop} {md : Region.Mode} {S : World → Prop} {k : Nat}
/-- Whatever order is picked; S holds behind each operation as long as number k has not come up. -/
def wpAnyK (P : Program) (md : Region.Mode) (ops : Array Oper) (Q : Exit → Act → World → Prop) (S : World → Prop) (k : Nat) : Nat → Array Bool → Act → World → Prop
  | 0, listed, a, w => Region.ready md ops listed = [] ∧ Q .normal a w
  | fuel + 1, listed, a, w =>
    (Region.ready md ops listed = [] → Q .normal a w) ∧
    ∀ i ∈ Region.ready md ops listed, wpOp P ops Q i (fun a' w' => ((listed.setIfInBounds i true).getD k true = false → S w') ∧ wpAnyK P md ops Q S k fuel (listed.setIfInBounds i true) a' w') a w
theorem wpAny_of_K : ∀ (fuel : Nat) (listed : Array Bool) (a : Act) (w : World), wpAnyK P md ops Q S k fuel listed a w → wpAny P md ops Q fuel listed a w
  | 0, _, _, _, h => h
  | fuel + 1, _, _, _, h => ⟨h.1, fun i hi => wpOp_mono (fun a' w' h' => wpAny_of_K fuel _ a' w' h'.2) (h.2 i hi)⟩
/-- Number k waits for number i. -/
def waitsB (md : Region.Mode) (ops : Array Oper) (k i : Nat) : Bool := ((ops[k]?).map fun o => o.after.any fun e => Region.binds md e && e.on == i).getD false
theorem wpAnyK_first {i : Nat} {oi : Oper} {v : Value} (hi : ops[i]? = some oi) (hsel : ∀ (j : Nat) (o : Oper) cs b, ops[j]? = some o → o.op ≠ .select cs b)
    (hQ : ∀ c a w, Q (.panic c) (a.put oi.dst v) w → Q (.panic c) a w) (hk : waitsB md ops k i = true) :
    ∀ (fuel : Nat) (listed : Array Bool) (a : Act) (w : World),
      (∀ j oj, ops[j]? = some oj → j ≠ i → listed.getD j true = false → (∀ e ∈ oj.after, Region.binds md e = true → e.on ≠ i) → oi.apart ops oj = true) →
      i ∈ Region.ready md ops listed → listed.getD k true = false → YieldsIf P ops S oi v a → S w →
      wpAnyK P md ops Q S k fuel (listed.setIfInBounds i true) (a.put oi.dst v) w → wpAnyK P md ops Q S k (fuel + 1) listed a w := by
  have hkj : ∀ (listed : Array Bool) (j : Nat), i ∈ Region.ready md ops listed → j ∈ Region.ready md ops listed → j ≠ k := fun listed j hr hj e => by
    subst e
    obtain ⟨-, oj, hoj, hall⟩ := mem_ready.1 hj
    unfold waitsB at hk
    rw [hoj] at hk
    simp only [Option.map_some, Option.getD_some] at hk
    obtain ⟨e, he, hb⟩ := Array.any_eq_true'.1 hk
    simp only [Bool.and_eq_true, beq_iff_eq] at hb
    have h1 := hall e he hb.1
    have h0 := (mem_ready.1 hr).1
    rw [hb.2] at h1
    rcases Nat.lt_or_ge i listed.size with h' | h'
    · simp [h'] at h0 h1
      rw [h0] at h1
      cases h1
    · simp [Array.getElem?_eq_none h'] at h1
  intro fuel
  induction fuel with
  | zero =>
    intro listed a w _ hr hl hy hS H
    refine ⟨fun h => (by rw [h] at hr; cases hr), fun j hj => ?_⟩
    by_cases hji : j = i
    · subst hji
      exact hy.wpOp hi hS ⟨fun _ => hS, H⟩
    · have := ready_mono hj hji
      rw [H.1] at this
      cases this
  | succ fuel ih =>
    intro listed a w hfree hr hl hy hS H
    refine ⟨fun h => (by rw [h] at hr; cases hr), fun j hj => ?_⟩
    by_cases hji : j = i
    · subst hji
      exact hy.wpOp hi hS ⟨fun _ => hS, H⟩
    · have hjk := hkj listed j hr hj
      have hik := hkj listed i hr hr
      have h1 := H.2 j (ready_mono hj hji)
      obtain ⟨hjun, oj, hoj, hall⟩ := mem_ready.1 hj
      have hnot : ∀ e ∈ oj.after, Region.binds md e = true → e.on ≠ i := fun e he hb heq => by
        have h1 := hall e he hb
        have h0 := (mem_ready.1 hr).1
        rw [heq] at h1
        rcases Nat.lt_or_ge i listed.size with h' | h'
        · simp [h'] at h0 h1
          rw [h0] at h1
          cases h1
        · simp [Array.getElem?_eq_none h'] at h1
      have h2 := wpOp_putIf hoj (hfree j oj hoj hji hjun hnot) (fun cs b => hsel i oi cs b hi) (fun cs b => hsel j oj cs b hoj) hQ hy h1
      have hfree' : ∀ k ok, ops[k]? = some ok → k ≠ i → (listed.setIfInBounds j true).getD k true = false →
          (∀ e ∈ ok.after, Region.binds md e = true → e.on ≠ i) → oi.apart ops ok = true := fun k ok hk hki hun hno => by
        refine hfree k ok hk hki ?_ hno
        by_cases hjk : j = k
        · subst hjk
          exact hjun
        · rw [getD_set_ne true hjk] at hun
          exact hun
      refine wpOp_mono (fun a' w' h3 => ?_) h2
      have hl1 : (listed.setIfInBounds j true).getD k true = false := by rw [getD_set_ne true hjk]; exact hl
      have hS' : S w' := h3.2.1 (by rw [getD_set_ne true hjk, getD_set_ne true hik]; exact hl)
      refine ⟨fun _ => hS', ih (listed.setIfInBounds j true) a' w' hfree' (ready_mono hr (Ne.symm hji)) hl1 h3.1 hS' ?_⟩
      rw [Array.setIfInBounds_comm _ _ hji]
      exact h3.2.2
/-- Take number i first. -/
theorem wpAnyK_take {i : Nat} {oi : Oper} {v : Value} {fuel : Nat} {listed : Array Bool} {a : Act} {w : World} (hi : ops[i]? = some oi)
    (hs : Region.noSelect ops = true) (hf : Region.free md ops listed i = true) (hr : (Region.ready md ops listed).contains i = true) (hk : waitsB md ops k i = true) (hl : listed.getD k true = false)
    (hQ : ∀ c a w, Q (.panic c) (a.put oi.dst v) w → Q (.panic c) a w) (hS : S w) (hw : Region.wanted oi (yielded ops a.tmps) = true) (hy : ∀ w, S w → (execOp a.eval oi).run P w = .ok (.value v) w)
    (h : wpAnyK P md ops Q S k fuel (listed.setIfInBounds i true) (a.put oi.dst v) w) : wpAnyK P md ops Q S k (fuel + 1) listed a w :=
  wpAnyK_first hi (Region.noSelect_spec hs) hQ hk fuel listed a w (Region.free_spec hi hf) (by simpa using hr) hl (.inl ⟨hw, hy⟩) hS h
/-- Number i alone may come up; behind it S is to be shown anew. -/
theorem wpAnyK_step {i : Nat} {oi : Oper} {fuel : Nat} {listed : Array Bool} {a : Act} {w : World} (hr : Region.ready md ops listed = [i]) (hi : ops[i]? = some oi)
    (hw : Region.wanted oi (yielded ops a.tmps) = true)
    (h : ∀ K' : Act → World → Prop, Shut (∀ a w, S w → (S w → wpAnyK P md ops Q S k fuel (listed.setIfInBounds i true) a w) → K' a w) → Oper.wp P oi a w K' Q) : wpAnyK P md ops Q S k (fuel + 1) listed a w := by
  refine ⟨fun h0 => absurd (hr.symm.trans h0) (by simp), fun j hj => ?_⟩
  rw [hr] at hj
  obtain rfl := List.mem_singleton.1 hj
  refine wpOp_step hi fun K' hK => ?_
  rw [if_pos hw]
  exact h K' fun a w hS hW => hK a w ⟨fun _ => hS, hW hS⟩
/-- Number k alone may come up: the cut. -/
theorem wpAnyK_cut {oi : Oper} {fuel : Nat} {listed : Array Bool} {a : Act} {w : World} (hr : Region.ready md ops listed = [k]) (hi : ops[k]? = some oi) (hkl : decide (k < listed.size) = true) (hd : Region.ready md ops (listed.setIfInBounds k true) = [])
    (hw : Region.wanted oi (yielded ops a.tmps) = true)
    (h : Oper.wp P oi a w (fun a' w' => Q .normal a' w') Q) : wpAnyK P md ops Q S k (fuel + 1) listed a w := by
  refine ⟨fun h0 => absurd (hr.symm.trans h0) (by simp), fun j hj => ?_⟩
  rw [hr] at hj
  obtain rfl := List.mem_singleton.1 hj
  refine wpOp_step hi fun K' hK => ?_
  rw [if_pos hw]
  refine Oper.wp_mono (fun a' w' h3 => hK a' w' ⟨fun h0 => ?_, ?_⟩) h
  · have h1 : (listed.setIfInBounds j true).getD j true = true := by simp [of_decide_eq_true hkl]
    rw [h1] at h0
    cases h0
  · cases fuel with
    | zero => exact ⟨hd, h3⟩
    | succ f => exact ⟨fun _ => h3, by rw [hd]; simp⟩
/-- What yields in whatever world is taken first, whatever waits for it. -/
theorem wpAnyK_first0 {i : Nat} {oi : Oper} {v : Value} (hi : ops[i]? = some oi) (hsel : ∀ (j : Nat) (o : Oper) cs b, ops[j]? = some o → o.op ≠ .select cs b)
    (hQ : ∀ c a w, Q (.panic c) (a.put oi.dst v) w → Q (.panic c) a w) (hik : i ≠ k) :
    ∀ (fuel : Nat) (listed : Array Bool) (a : Act) (w : World),
      (∀ j oj, ops[j]? = some oj → j ≠ i → listed.getD j true = false → (∀ e ∈ oj.after, Region.binds md e = true → e.on ≠ i) → oi.apart ops oj = true) →
      i ∈ Region.ready md ops listed → YieldsIf P ops (fun _ => True) oi v a → (listed.getD k true = false → S w) →
      wpAnyK P md ops Q S k fuel (listed.setIfInBounds i true) (a.put oi.dst v) w → wpAnyK P md ops Q S k (fuel + 1) listed a w := by
  have hset : ∀ listed : Array Bool, (listed.setIfInBounds i true).getD k true = listed.getD k true := fun listed => getD_set_ne true hik
  intro fuel
  induction fuel with
  | zero =>
    intro listed a w _ hr hy hS H
    refine ⟨fun h => (by rw [h] at hr; cases hr), fun j hj => ?_⟩
    by_cases hji : j = i
    · subst hji
      exact hy.wpOp hi trivial ⟨fun e => hS (by rw [← hset]; exact e), H⟩
    · have := ready_mono hj hji
      rw [H.1] at this
      cases this
  | succ fuel ih =>
    intro listed a w hfree hr hy hS H
    refine ⟨fun h => (by rw [h] at hr; cases hr), fun j hj => ?_⟩
    by_cases hji : j = i
    · subst hji
      exact hy.wpOp hi trivial ⟨fun e => hS (by rw [← hset]; exact e), H⟩
    · have h1 := H.2 j (ready_mono hj hji)
      obtain ⟨hjun, oj, hoj, hall⟩ := mem_ready.1 hj
      have hnot : ∀ e ∈ oj.after, Region.binds md e = true → e.on ≠ i := fun e he hb heq => by
        have h1 := hall e he hb
        have h0 := (mem_ready.1 hr).1
        rw [heq] at h1
        rcases Nat.lt_or_ge i listed.size with h' | h'
        · simp [h'] at h0 h1
          rw [h0] at h1
          cases h1
        · simp [Array.getElem?_eq_none h'] at h1
      have h2 := wpOp_putIf hoj (hfree j oj hoj hji hjun hnot) (fun cs b => hsel i oi cs b hi) (fun cs b => hsel j oj cs b hoj) hQ hy h1
      have hfree' : ∀ k ok, ops[k]? = some ok → k ≠ i → (listed.setIfInBounds j true).getD k true = false →
          (∀ e ∈ ok.after, Region.binds md e = true → e.on ≠ i) → oi.apart ops ok = true := fun k ok hk hki hun hno => by
        refine hfree k ok hk hki ?_ hno
        by_cases hjk : j = k
        · subst hjk
          exact hjun
        · rw [getD_set_ne true hjk] at hun
          exact hun
      have hcomm : (listed.setIfInBounds i true).setIfInBounds j true = (listed.setIfInBounds j true).setIfInBounds i true := Array.setIfInBounds_comm _ _ (Ne.symm hji)
      refine wpOp_mono (fun a' w' h3 => ?_) h2
      have hS' : (listed.setIfInBounds j true).getD k true = false → S w' := fun e => h3.2.1 (by rw [hcomm, hset]; exact e)
      refine ⟨hS', ih (listed.setIfInBounds j true) a' w' hfree' (ready_mono hr (Ne.symm hji)) h3.1 hS' ?_⟩
      rw [Array.setIfInBounds_comm _ _ hji]
      exact h3.2.2
theorem wpAnyK_take0 {i : Nat} {oi : Oper} {v : Value} {fuel : Nat} {listed : Array Bool} {a : Act} {w : World} (hi : ops[i]? = some oi)
    (hs : Region.noSelect ops = true) (hf : Region.free md ops listed i = true) (hr : (Region.ready md ops listed).contains i = true) (hik : decide (i = k) = false)
    (hQ : ∀ c a w, Q (.panic c) (a.put oi.dst v) w → Q (.panic c) a w) (hS : S w) (hw : Region.wanted oi (yielded ops a.tmps) = true) (hy : ∀ w, (execOp a.eval oi).run P w = .ok (.value v) w)
    (h : wpAnyK P md ops Q S k fuel (listed.setIfInBounds i true) (a.put oi.dst v) w) : wpAnyK P md ops Q S k (fuel + 1) listed a w :=
  wpAnyK_first0 hi (Region.noSelect_spec hs) hQ (by simpa using hik) fuel listed a w (Region.free_spec hi hf) (by simpa using hr) (.inl ⟨hw, fun w _ => hy w⟩) (fun _ => hS) h
/-- Behind the cut nothing is asked. -/
theorem wpAnyK_of_any : ∀ (fuel : Nat) (listed : Array Bool) (a : Act) (w : World), listed.getD k true = true → wpAny P md ops Q fuel listed a w → wpAnyK P md ops Q S k fuel listed a w
  | 0, _, _, _, _, h => h
  | fuel + 1, listed, _, _, hk, h => ⟨h.1, fun i hi => wpOp_mono (fun a' w' h' => by
      have h1 : (listed.setIfInBounds i true).getD k true = true := by
        by_cases e : i = k
        · subst e
          by_cases hl : i < listed.size
          · simp [hl]
          · simp [hl]
        · rw [getD_set_ne true e]
          exact hk
      exact ⟨fun e => (by rw [h1] at e; cases e), wpAnyK_of_any fuel _ a' w' h1 h'⟩) (h.2 i hi)⟩
/-- Number k alone may come up; others may follow. -/
theorem wpAnyK_cut2 {oi : Oper} {fuel : Nat} {listed : Array Bool} {a : Act} {w : World} (hr : Region.ready md ops listed = [k]) (hi : ops[k]? = some oi) (hkl : decide (k < listed.size) = true)
    (hw : Region.wanted oi (yielded ops a.tmps) = true)
    (h : ∀ K' : Act → World → Prop, Shut (∀ a w, wpAny P md ops Q fuel (listed.setIfInBounds k true) a w → K' a w) → Oper.wp P oi a w K' Q) : wpAnyK P md ops Q S k (fuel + 1) listed a w := by
  refine ⟨fun h0 => absurd (hr.symm.trans h0) (by simp), fun j hj => ?_⟩
  rw [hr] at hj
  obtain rfl := List.mem_singleton.1 hj
  refine wpOp_step hi fun K' hK => ?_
  rw [if_pos hw]
  have h1 : (listed.setIfInBounds j true).getD j true = true := by simp [of_decide_eq_true hkl]
  exact h K' fun a' w' h3 => hK a' w' ⟨fun h0 => (by rw [h1] at h0; cases h0), wpAnyK_of_any _ _ _ _ h1 h3⟩
/-- Number i alone is left. -/
theorem wpAny_last {i : Nat} {oi : Oper} {fuel : Nat} {listed : Array Bool} {a : Act} {w : World} (hr : Region.ready md ops listed = [i]) (hi : ops[i]? = some oi) (hd : Region.ready md ops (listed.setIfInBounds i true) = [])
    (hw : Region.wanted oi (yielded ops a.tmps) = true) (h : Oper.wp P oi a w (fun a' w' => Q .normal a' w') Q) : wpAny P md ops Q (fuel + 1) listed a w := by
  refine ⟨fun h0 => absurd (hr.symm.trans h0) (by simp), fun j hj => ?_⟩
  rw [hr] at hj
  obtain rfl := List.mem_singleton.1 hj
  refine wpOp_step hi fun K' hK => ?_
  rw [if_pos hw]
  refine Oper.wp_mono (fun a' w' h3 => hK a' w' ?_) h
  cases fuel with
  | zero => exact ⟨hd, h3⟩
  | succ f => exact ⟨fun _ => h3, by rw [hd]; simp⟩
/-- The beginning. -/
theorem wp_region_K {id : Nat} {a : Act} {w : World} (hm : P.follows .mixedOrders = true) (hS : S w.drew)
    (h : S w.drew → wpAnyK P .any ops Q S k ops.size (Array.replicate ops.size false) a w.drew) : (Code.region id ops true).wp P Q a w :=
  wp_region_any hm (wpAny_of_K _ _ _ _ (h hS))
end
end Go.Proofs.Ytoojpagpkbcfjaa


/- What comes in: what each statement's row asks. -/
namespace Go.Proofs.Ytoojpagpkbcfjaa
open Go.ChangeShapes Go.WideShapes Go.ChangeAt Go.RowKit

theorem ownKnob_none : ownKnob Try.prog.godebug = none := by kernel_rfl
theorem laidOut : laidOutB Try.prog = true := by kernel_rfl

end Go.Proofs.Ytoojpagpkbcfjaa


/- Spans that came in. -/
namespace Go.Proofs.Ytoojpagpkbcfjaa
open Go.ChangeShapes Go.WideShapes Go.ChangeAt Go.RowKit

theorem list_of {α : Type} (P : Nat → α → Prop) : ∀ (n : Nat), (∀ i, i < n → ∃ x, P i x) → ∃ l : List α, l.length = n ∧ ∀ i x, l[i]? = some x → P i x
  | 0, _ => ⟨[], rfl, fun i x h => by simp at h⟩
  | n + 1, h => by
    obtain ⟨l, hl, hp⟩ := list_of P n fun i hi => h i (by omega)
    obtain ⟨x, hx⟩ := h n (by omega)
    refine ⟨l ++ [x], by simp [hl], fun i y hy => ?_⟩
    by_cases hi : i < l.length
    · rw [List.getElem?_append_left hi] at hy
      exact hp i y hy
    · have hin : i = n := by
        have := (List.getElem?_eq_some_iff.1 hy).1
        simp at this
        omega
      subst hin
      rw [List.getElem?_append_right (by omega), hl, Nat.sub_self] at hy
      simp at hy
      subst hy
      exact hx
/-- Tags that came in. -/
structure InT (w : World) (A : Option Addr) (n c : Nat) (l : List Tg) : Prop where
  rd : RbT w w.heap.size A l
  len : l.length = n
  cap : n ≤ c
  max : c ≤ maxLen
set_option maxRecDepth 100000 in
theorem open_tag {H : Type} {enc : TypeId × Value → H} {W : World} {base : Nat} {held : Bool} {cs : List Value} {fuel : Nat} {y : DataW H × List MemPlace} {a : Addr} {b0 : Nat}
    (hc : W.cells? b0 a 2 = some cs) (h : DataW.trod enc Try.prog W base (fun _ => true) held fuel 90 cs = some y) : ∃ x : Tg, W.cell? a = some (.string x.key) ∧ W.cell? (a.add 1) = some (.string x.val) := by
  obtain ⟨xs, n, _, _, hlen, hyl, hf⟩ := DataW.trod_struct Try.underlying90 h
  obtain ⟨_, hcl, hat⟩ := World.cells?_some hc
  match cs, hcl with
  | [v0, v1], _ =>
    match xs, hyl with
    | [y0, y1], _ =>
      have cS : Try.prog.cellsOf 9 = 1 := by kernel_rfl
      have h0 : DataW.trod enc Try.prog W base (fun _ => true) held n 9 (([v0, v1].drop 0).take (Try.prog.cellsOf 9)) = some y0 := hf 0 _ rfl
      have h1 : DataW.trod enc Try.prog W base (fun _ => true) held n 9 (([v0, v1].drop 1).take (Try.prog.cellsOf 9)) = some y1 := hf 1 _ rfl
      rw [cS] at h0 h1
      simp only [List.drop_zero, List.drop_succ_cons, List.take_succ_cons, List.take_zero] at h0 h1
      obtain ⟨k, hk, -, -⟩ := DataW.trod_string Try.underlying9 h0
      obtain ⟨v, hv, -, -⟩ := DataW.trod_string Try.underlying9 h1
      simp at hk hv
      subst hk hv
      refine ⟨⟨k, v⟩, ?_, hat 1 (by omega)⟩
      have := hat 0 (by omega)
      simpa [Addr.add] using this
set_option maxRecDepth 100000 in
theorem open_fT {H : Type} {enc : TypeId × Value → H} {W : World} {base : Nat} {held : Bool} {v : Value} {fuel : Nat} {x : DataW H × List MemPlace}
    (h : DataW.trod enc Try.prog W base (fun _ => true) held fuel 34 [v] = some x) : ∃ A n c l, v = .slice A n c ∧ InT W A n c l := by
  rcases Deep.open_slice Try.underlying34 h with ⟨hcs, _⟩ | ⟨a, len, cap, m, n, D, Pl, hcs, hb, hl, hm, hmm, hx, hi⟩
  · simp at hcs
    subst hcs
    exact ⟨none, 0, 0, [], rfl, ⟨Rd.nil, rfl, Nat.le_refl _, by simp [maxLen]⟩⟩
  · simp at hcs
    subst hcs
    rw [if_pos rfl] at hmm
    subst hmm
    have hC : Try.prog.cellsOf 90 = 2 := by kernel_rfl
    rw [hC] at hi
    obtain ⟨l, hwl, hw⟩ := list_of (fun i (x : Tg) => W.cell? (a.add (i * 2)) = some (.string x.key) ∧ W.cell? ((a.add (i * 2)).add 1) = some (.string x.val)) len fun i hil => by
      obtain ⟨cs', hc, ht⟩ := hi i (by omega)
      exact open_tag hc ht
    refine ⟨some a, len, m, l, rfl, ⟨?_, hwl, hl, hm⟩⟩
    intro hne
    have hpos : 0 < len := by
      rcases Nat.eq_zero_or_pos len with h0 | h0
      · rw [← hwl] at h0
        rw [List.eq_nil_of_length_eq_zero h0] at hne
        exact absurd rfl hne
      · exact h0
    obtain ⟨x0, hx0⟩ : ∃ x0, l[0]? = some x0 := ⟨_, List.getElem?_eq_getElem (by omega)⟩
    obtain ⟨b, off, spot⟩ := a
    have h0 := (hw 0 x0 hx0).1
    simp only [Nat.zero_mul, Addr.add] at h0
    have hspot : spot = none := by simpa using World.cell?_spot h0
    subst hspot
    refine ⟨b, off, rfl, World.block_lt_of_cell? W ⟨b, off, none⟩ (by simpa using h0), fun j u hu => ?_⟩
    have hj : j < l.length * 2 := by
      have := (List.getElem?_eq_some_iff.1 hu).1
      rwa [tgs_length] at this
    obtain ⟨x1, hx1⟩ : ∃ x1, l[j / 2]? = some x1 := ⟨_, List.getElem?_eq_getElem (by omega)⟩
    obtain ⟨g1, g2⟩ := hw (j / 2) x1 hx1
    obtain ⟨t1, t2⟩ := tgs_get hx1
    rcases Nat.mod_two_eq_zero_or_one j with hr | hr
    · have e : j / 2 * 2 = j := by omega
      rw [e] at t1 g1
      rw [hu] at t1
      rw [Option.some.inj t1]
      rw [Addr.add_lit] at g1
      exact g1
    · have e : j / 2 * 2 + 1 = j := by omega
      rw [e] at t2
      rw [hu] at t2
      rw [Option.some.inj t2]
      rw [Addr.add_lit, Addr.add_lit] at g2
      rw [← e, ← Nat.add_assoc]
      exact g2
def Sp.I64 (s : Sp) : Prop := (-9223372036854775808 ≤ s.kind ∧ s.kind ≤ 9223372036854775807) ∧ (-9223372036854775808 ≤ s.start ∧ s.start ≤ 9223372036854775807) ∧ -9223372036854775808 ≤ s.length ∧ s.length ≤ 9223372036854775807
theorem i64_ofS {s : Int} (h : (Lit.int .i64 s).wf = true) : -9223372036854775808 ≤ s ∧ s ≤ 9223372036854775807 := by
  simp [Lit.wf, IntKind.min, IntKind.max, IntKind.signed, IntKind.bits] at h
  omega
/-- A span that came in. -/
structure InSp (w : World) (s : Sp) (A : Option Addr) (n c : Nat) : Prop where
  tags : InT w A n c s.tags
  u64 : s.U64
  service : s.service.size ≤ maxLen
  name : s.name.size ≤ maxLen
  i64 : s.I64
theorem u64_of {s : Int} (h : (Lit.int .u64 s).wf = true) : 0 ≤ s ∧ s < 18446744073709551616 := by
  simp [Lit.wf, IntKind.min, IntKind.max, IntKind.signed, IntKind.bits] at h
  omega
theorem array11 {cs : Array Value} (h : cs.size = 11) : ∃ a b c d e f g i j k l, cs = #[a, b, c, d, e, f, g, i, j, k, l] := by
  obtain ⟨l⟩ := cs
  match l, h with
  | [a, b, c, d, e, f, g, i, j, k, l], _ => exact ⟨a, b, c, d, e, f, g, i, j, k, l, rfl⟩
set_option maxRecDepth 100000 in
theorem open_spCells {H : Type} {enc : TypeId × Value → H} {W : World} {base : Nat} {held : Bool} {c0 c1 c2 c3 c4 c5 c6 c7 c8 c9 c10 : Value} {fuel : Nat} {x : DataW H × List MemPlace}
    (h : DataW.trod enc Try.prog W base (fun _ => true) held fuel 36 [c0, c1, c2, c3, c4, c5, c6, c7, c8, c9, c10] = some x) :
    ∃ (s : Sp) (A : Option Addr) (n c : Nat), [c0, c1, c2, c3, c4, c5, c6, c7, c8, c9, c10] = (spC s A n c).toList ∧ InSp W s A n c := by
  obtain ⟨xs, n, _, _, hlen, hyl, hf⟩ := DataW.trod_struct Try.underlying36 h
  match xs, hyl with
  | [y0, y1, y2, y3, y4, y5, y6, y7, y8, y9], _ =>
    have cT : Try.prog.cellsOf 33 = 2 := by kernel_rfl
    have cU : Try.prog.cellsOf 31 = 1 := by kernel_rfl
    have cS : Try.prog.cellsOf 9 = 1 := by kernel_rfl
    have cI : Try.prog.cellsOf 3 = 1 := by kernel_rfl
    have cJ : Try.prog.cellsOf 2 = 1 := by kernel_rfl
    have cB : Try.prog.cellsOf 4 = 1 := by kernel_rfl
    have cL : Try.prog.cellsOf 34 = 1 := by kernel_rfl
    obtain ⟨cs, hcs⟩ : ∃ cs, [c0, c1, c2, c3, c4, c5, c6, c7, c8, c9, c10] = cs := ⟨_, rfl⟩
    rw [hcs] at hf
    have h0 : DataW.trod enc Try.prog W base (fun _ => true) held n 33 ((cs.drop 0).take (Try.prog.cellsOf 33)) = some y0 := hf 0 _ rfl
    have h1 : DataW.trod enc Try.prog W base (fun _ => true) held n 31 ((cs.drop 2).take (Try.prog.cellsOf 31)) = some y1 := hf 1 _ rfl
    have h2 : DataW.trod enc Try.prog W base (fun _ => true) held n 31 ((cs.drop 3).take (Try.prog.cellsOf 31)) = some y2 := hf 2 _ rfl
    have h3 : DataW.trod enc Try.prog W base (fun _ => true) held n 9 ((cs.drop 4).take (Try.prog.cellsOf 9)) = some y3 := hf 3 _ rfl
    have h4 : DataW.trod enc Try.prog W base (fun _ => true) held n 9 ((cs.drop 5).take (Try.prog.cellsOf 9)) = some y4 := hf 4 _ rfl
    have h5 : DataW.trod enc Try.prog W base (fun _ => true) held n 3 ((cs.drop 6).take (Try.prog.cellsOf 3)) = some y5 := hf 5 _ rfl
    have h6 : DataW.trod enc Try.prog W base (fun _ => true) held n 2 ((cs.drop 7).take (Try.prog.cellsOf 2)) = some y6 := hf 6 _ rfl
    have h7 : DataW.trod enc Try.prog W base (fun _ => true) held n 2 ((cs.drop 8).take (Try.prog.cellsOf 2)) = some y7 := hf 7 _ rfl
    have h8 : DataW.trod enc Try.prog W base (fun _ => true) held n 4 ((cs.drop 9).take (Try.prog.cellsOf 4)) = some y8 := hf 8 _ rfl
    have h9 : DataW.trod enc Try.prog W base (fun _ => true) held n 34 ((cs.drop 10).take (Try.prog.cellsOf 34)) = some y9 := hf 9 _ rfl
    subst hcs
    rw [cT] at h0
    rw [cU] at h1 h2
    rw [cS] at h3 h4
    rw [cI] at h5
    rw [cJ] at h6 h7
    rw [cB] at h8
    rw [cL] at h9
    simp only [List.drop_zero, List.drop_succ_cons, List.take_succ_cons, List.take_zero] at h0 h1 h2 h3 h4 h5 h6 h7 h8 h9
    obtain ⟨zs, m, _, _, _, hzl, hg⟩ := DataW.trod_struct Try.underlying33 h0
    match zs, hzl with
    | [z0, z1], _ =>
      have g0 : DataW.trod enc Try.prog W base (fun _ => true) held m 31 (([c0, c1].drop 0).take (Try.prog.cellsOf 31)) = some z0 := hg 0 _ rfl
      have g1 : DataW.trod enc Try.prog W base (fun _ => true) held m 31 (([c0, c1].drop 1).take (Try.prog.cellsOf 31)) = some z1 := hg 1 _ rfl
      rw [cU] at g0 g1
      simp only [List.drop_zero, List.drop_succ_cons, List.take_succ_cons, List.take_zero] at g0 g1
      obtain ⟨q0, e0, -, w0⟩ := DataW.trod_int Try.underlying31 g0
      obtain ⟨q1, e1, -, w1⟩ := DataW.trod_int Try.underlying31 g1
      obtain ⟨q2, e2, -, w2⟩ := DataW.trod_int Try.underlying31 h1
      obtain ⟨q3, e3, -, w3⟩ := DataW.trod_int Try.underlying31 h2
      obtain ⟨q4, e4, -, w4⟩ := DataW.trod_string Try.underlying9 h3
      obtain ⟨q5, e5, -, w5⟩ := DataW.trod_string Try.underlying9 h4
      obtain ⟨q6, e6, -, w6⟩ := DataW.trod_int (k := .i64) (by kernel_rfl) h5
      obtain ⟨q7, e7, -, w7⟩ := DataW.trod_int Try.underlying2 h6
      obtain ⟨q8, e8, -, w8⟩ := DataW.trod_int Try.underlying2 h7
      obtain ⟨q9, e9, -⟩ := DataW.trod_bool Try.underlying4 h8
      obtain ⟨A, nt, ct, l, e10, hT⟩ := open_fT h9
      simp at e0 e1 e2 e3 e4 e5 e6 e7 e8 e9
      subst e0 e1 e2 e3 e4 e5 e6 e7 e8 e9 e10
      have r0 := u64_of w0
      have r1 := u64_of w1
      have r2 := u64_of w2
      have r3 := u64_of w3
      have u0 : q0.toNat < 18446744073709551616 := by omega
      have u1 : q1.toNat < 18446744073709551616 := by omega
      have u2 : q2.toNat < 18446744073709551616 := by omega
      have u3 : q3.toNat < 18446744073709551616 := by omega
      refine ⟨⟨q0.toNat, q1.toNat, q2.toNat, q3.toNat, q4, q5, q6, q7, q8, q9, l⟩, A, nt, ct, ?_, hT, ⟨u0, u1, u2, u3⟩, w4, w5, i64_ofS w6, i64_ofS w7, i64_ofS w8⟩
      simp only [spC, Int.toNat_of_nonneg r0.1, Int.toNat_of_nonneg r1.1, Int.toNat_of_nonneg r2.1, Int.toNat_of_nonneg r3.1]
set_option maxRecDepth 100000 in
theorem open_inSp {H : Type} {enc : TypeId × Value → H} {W : World} {base b0 : Nat} {r : Reach} {held : Bool} {v : Value} {d : DataW H} {p : List MemPlace} (hv : Value.okWide Try.prog W r b0 36 v)
    (h : DataW.Trod enc Try.prog W base (fun _ => true) held 36 v d p) : ∃ (s : Sp) (A : Option Addr) (n c : Nat), v = spV s A n c ∧ InSp W s A n c := by
  obtain ⟨cs, rfl, hsz⟩ := okWide_struct Try.underlying36 hv
  have hC : Try.prog.cellsOf 36 = 11 := by kernel_rfl
  obtain ⟨c0, c1, c2, c3, c4, c5, c6, c7, c8, c9, c10, rfl⟩ := array11 (hsz.trans hC)
  obtain ⟨fuel, hf⟩ := h
  obtain ⟨s, A, n, c, e, hi⟩ := open_spCells hf
  refine ⟨s, A, n, c, ?_, hi⟩
  rw [spV]
  congr 1
  exact Array.toList_inj.1 e
end Go.Proofs.Ytoojpagpkbcfjaa


/- What comes in: a list of spans. -/
namespace Go.Proofs.Ytoojpagpkbcfjaa
open Go.ChangeShapes Go.WideShapes Go.ChangeAt Go.RowKit

theorem InSp.el {w : World} {s : Sp} {A : Option Addr} {n c : Nat} (h : InSp w s A n c) : ElOk w w.heap.size ⟨s, A, n, c⟩ :=
  ⟨h.tags.rd, h.tags.len, by have h1 := h.tags.cap; have h2 := h.tags.max; simp only [maxLen] at h2; show n ≤ _; omega⟩
/-- Spans that came in. -/
structure InSs (w : World) (A : Option Addr) (n c : Nat) (l : List El) : Prop where
  rd : RbS w w.heap.size A l
  len : l.length = n
  cap : n ≤ c
  max : c ≤ maxLen
  u64 : ∀ e ∈ l, e.s.U64
  i64 : ∀ e ∈ l, e.s.I64
set_option maxRecDepth 100000 in
theorem open_inSs {H : Type} {enc : TypeId × Value → H} {W : World} {base b0 : Nat} {r : Reach} {held : Bool} {v : Value} {d : DataW H} {p : List MemPlace} (_hv : Value.okWide Try.prog W r b0 41 v)
    (h : DataW.Trod enc Try.prog W base (fun _ => true) held 41 v d p) : ∃ (A : Option Addr) (n c : Nat) (l : List El), v = .slice A n c ∧ InSs W A n c l := by
  obtain ⟨aa, len, cap, rfl⟩ := okWide_slice Try.underlying41 _hv
  obtain ⟨fuel, hf⟩ := h
  rcases Deep.open_slice Try.underlying41 hf with ⟨hcs, _⟩ | ⟨a, len, cap, m, n, D, Pl, hcs, hb, hl, hm, hmm, hx, hi⟩
  · simp [Value.cells] at hcs
    obtain ⟨rfl, rfl, rfl⟩ := hcs
    exact ⟨none, 0, 0, [], rfl, ⟨RbS.nil, rfl, Nat.le_refl _, by simp [maxLen], (fun e he => by cases he), fun e he => by cases he⟩⟩
  · simp [Value.cells] at hcs
    obtain ⟨rfl, rfl, rfl⟩ := hcs
    rw [if_pos rfl] at hmm
    subst hmm
    have hC : Try.prog.cellsOf 36 = 11 := by kernel_rfl
    rw [hC] at hi
    obtain ⟨l, hll, hw⟩ := list_of (fun i (e : El) => (∀ j, j < 11 → W.cell? ((a.add (i * 11)).add j) = (elC e)[j]?) ∧ ElOk W W.heap.size e ∧ e.s.U64 ∧ e.s.I64) len fun i hil => by
      obtain ⟨cs', hc, ht⟩ := hi i (by omega)
      obtain ⟨_, hcl, hat⟩ := World.cells?_some hc
      match cs', hcl with
      | [c0, c1, c2, c3, c4, c5, c6, c7, c8, c9, c10], _ =>
        obtain ⟨s, A, n, c, he, hin⟩ := open_spCells ht
        refine ⟨⟨s, A, n, c⟩, fun j hj => ?_, hin.el, hin.u64, hin.i64⟩
        have h1 := hat j hj
        rw [he] at h1
        exact h1
    refine ⟨some a, _, _, l, rfl, ⟨⟨?_, ?_⟩, hll, hl, hm, ?_, ?_⟩⟩
    · intro hne
      have hpos : 0 < l.length := by
        rcases Nat.eq_zero_or_pos l.length with h0 | h0
        · rw [List.eq_nil_of_length_eq_zero h0] at hne
          exact absurd rfl hne
        · exact h0
      obtain ⟨x0, hx0⟩ : ∃ x0, l[0]? = some x0 := ⟨_, List.getElem?_eq_getElem hpos⟩
      obtain ⟨b, off, spot⟩ := a
      have h0 := (hw 0 x0 hx0).1 0 (by omega)
      simp only [Nat.zero_mul, Addr.add] at h0
      have h1 : (elC x0)[0]? = some (.int .u64 x0.s.hi) := rfl
      rw [h1] at h0
      have hspot : spot = none := by simpa using World.cell?_spot h0
      subst hspot
      refine ⟨b, off, rfl, World.block_lt_of_cell? W ⟨b, off, none⟩ (by simpa using h0), fun j u hu => ?_⟩
      have hj : j < l.length * 11 := by
        have := (List.getElem?_eq_some_iff.1 hu).1
        rwa [els_length] at this
      obtain ⟨x1, hx1⟩ : ∃ x1, l[j / 11]? = some x1 := ⟨_, List.getElem?_eq_getElem (by omega)⟩
      have h2 := (hw (j / 11) x1 hx1).1 (j % 11) (Nat.mod_lt _ (by omega))
      have h3 := els_get hx1 (j % 11) (Nat.mod_lt _ (by omega))
      rw [Addr.add_lit, Addr.add_lit, Nat.add_assoc, show j / 11 * 11 + j % 11 = j from by omega] at h2
      rw [show j / 11 * 11 + j % 11 = j from by omega] at h3
      rw [h2, ← h3, hu]
    · intro e he
      obtain ⟨i, hi, hxi⟩ := List.getElem_of_mem he
      exact (hw i e (by rw [List.getElem?_eq_getElem hi, hxi])).2.1
    · intro e he
      obtain ⟨i, hi, hxi⟩ := List.getElem_of_mem he
      exact (hw i e (by rw [List.getElem?_eq_getElem hi, hxi])).2.2.1
    · intro e he
      obtain ⟨i, hi, hxi⟩ := List.getElem_of_mem he
      exact (hw i e (by rw [List.getElem?_eq_getElem hi, hxi])).2.2.2
end Go.Proofs.Ytoojpagpkbcfjaa


/- Lists of ints; Pick. -/
namespace Go.Proofs.Ytoojpagpkbcfjaa
open Go.RowKit

def iv (zs : List Int) : List Value := zs.map (Value.int .i64)
theorem iv_length (zs : List Int) : (iv zs).length = zs.length := by simp [iv]
theorem iv_append (a b : List Int) : iv (a ++ b) = iv a ++ iv b := by simp [iv]
theorem iv_get {zs : List Int} {k : Nat} {x : Int} (hk : zs[k]? = some x) : (iv zs)[k]? = some (.int .i64 x) := by simp [iv, hk]
theorem iv_one (zs : List Int) : ∀ u ∈ iv zs, u.oneCell' = true := by
  intro u hu
  obtain ⟨x, _, rfl⟩ := List.mem_map.1 hu
  rfl
abbrev Ri (w : World) (B : Nat) (A : Option Addr) (zs : List Int) : Prop := Rd w B A (iv zs)
theorem Ri.get {w : World} {B : Nat} {A : Option Addr} {zs : List Int} (h : Ri w B A zs) {k : Nat} (hk : k < zs.length) :
    ∃ b o x, zs[k]? = some x ∧ A = some ⟨b, o, none⟩ ∧ b < B ∧ w.cell? ⟨b, o + k, none⟩ = some (.int .i64 x) := by
  have e := List.getElem?_eq_getElem hk
  obtain ⟨b, o, h1, h2, h3⟩ := Rd.get h (iv_get e)
  exact ⟨b, o, zs[k], e, h1, h2, h3⟩
theorem tmod_pick (n m : Int) (hm : 0 < m) : -m < n.tmod m ∧ n.tmod m < m ∧ (n.tmod m < 0 → n.tmod m + m = n % m) ∧ (0 ≤ n.tmod m → n.tmod m = n % m) := by
  have hz : m ≠ 0 := by omega
  have hq0 := Int.emod_nonneg n hz
  have hq1 := Int.emod_lt_of_pos n hm
  have hp0 := Int.emod_nonneg (-n) hz
  have hp1 := Int.emod_lt_of_pos (-n) hm
  have he := Int.mul_ediv_add_emod (-n) m
  rw [tmod_eq_if]
  generalize (-n) / m = q at *
  generalize (-n) % m = s at *
  split
  · exact ⟨by omega, by omega, fun h => by omega, fun _ => rfl⟩
  · refine ⟨by omega, by omega, fun h => ?_, fun h => ?_⟩
    · have e : (m - s) + m * (-q - 1) = n := by
        rw [Int.mul_sub, Int.mul_neg]
        omega
      rw [← e, Int.add_mul_emod_self_left, Int.emod_eq_of_lt (by omega) (by omega)]
      omega
    · have hs : s = 0 := by omega
      have e : 0 + m * (-q) = n := by rw [Int.mul_neg]; omega
      rw [← e, Int.add_mul_emod_self_left, hs]
      simp

/-- Pick: a number from 0 to below m. -/
theorem kitPick (n : Int) (m : Nat) (w : World) (hm0 : 1 ≤ m) (hm : m ≤ 1099511627776) :
    Calls Try.prog 10 #[.int .i64 n, .int .i64 m] w fun e w' => e = .returned (.int .i64 (n % (m : Int))) ∧ w' = w := by
  have hz : ¬ (m : Int) = 0 := by omega
  have hzb : ((m : Int) == 0) = false := by rw [beq_eq_false_iff_ne]; omega
  obtain ⟨h1, h2, h3, h4⟩ := tmod_pick n m (by omega)
  obtain ⟨r, hr⟩ : ∃ r, n.tmod m = r := ⟨_, rfl⟩
  rw [hr] at h1 h2 h3 h4
  have H3 := Lib.hid h3
  have H4 := Lib.hid h4
  clear h3 h4
  go_enter Try.func10, Try.ntmps10
  go_wp2
  · go_ret
    refine ⟨?_, rfl⟩
    rw [← H3.out (by omega)]
    rfl
  · go_ret
    refine ⟨?_, rfl⟩
    rw [← H4.out (by omega)]
    rfl
end Go.Proofs.Ytoojpagpkbcfjaa

