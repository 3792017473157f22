/- Texts of the proof of AdjustTreeSaid, joined: AjC AjB ShC VfA VfB VfC OrK FrL. -/
import Derived.Test.YtchpekidnbdpdaaJAdjustTree10
import Derived.Deep.QuietTactic
import Derived.BigQuiet
import Derived.Test.YtchpekidnbdpdaaJAdjustTree9
import Derived.StillTailTactics
import Derived.Test.YtchpekidnbdpdaaJAdjustTree1
import Derived.OrdersHeld
import Derived.Deep.RegionHeld
/- Layer 21, plain: the least ID of a cycle, as the code looks for it, tells what the document's search tells. -/
namespace Go.Proofs.Ytchpekidnbdpdaa
open Go.RowKit

/-- What the code's search answers: none (on no cycle), or the least on the way. -/
def lstGo (l : List Sp) (id : Nat) : Nat → Nat → Nat → Option Nat
  | 0, _, _ => none
  | n + 1, x, b => if x = 0 then none else if x = id then some b else if plc l x < 0 then none else match l[(plc l x).toNat]? with
    | none => none
    | some y => lstGo l id n y.parent (min b x)
def lst (l : List Sp) (s : Sp) : Option Nat := lstGo l s.id l.length s.parent s.id

theorem plcG_neg {id : Nat} : ∀ {l : List Sp} {i : Nat}, plcG id l i < 0 ↔ ∀ x ∈ l, x.id ≠ id
  | [], i => by simp [plcG]
  | x :: l, i => by
    rw [plcG]
    by_cases h : x.id = id
    · rw [if_pos h]
      constructor
      · intro h2; omega
      · intro h2; exact absurd h (h2 x (List.mem_cons_self ..))
    · rw [if_neg h, plcG_neg]
      constructor
      · intro h2 y hy
        rcases List.mem_cons.1 hy with rfl | hy
        · exact h
        · exact h2 y hy
      · intro h2 y hy; exact h2 y (List.mem_cons_of_mem _ hy)
theorem plcG_at {id : Nat} : ∀ {l : List Sp} {i : Nat}, 0 ≤ plcG id l i → ∃ j y, plcG id l i = ((i + j : Nat) : Int) ∧ l[j]? = some y ∧ y.id = id ∧ ∀ k z, k < j → l[k]? = some z → z.id ≠ id
  | [], i, h => by simp [plcG] at h
  | x :: l, i, h => by
    rw [plcG] at h ⊢
    by_cases hx : x.id = id
    · rw [if_pos hx]
      exact ⟨0, x, rfl, rfl, hx, fun k z hk => by omega⟩
    · rw [if_neg hx] at h ⊢
      obtain ⟨j, y, h1, h2, h3, h4⟩ := plcG_at h
      refine ⟨j + 1, y, by rw [h1]; congr 1; omega, by simpa using h2, h3, fun k z hk hz => ?_⟩
      cases k with
      | zero => simp at hz; subst hz; exact hx
      | succ k => exact h4 k z (by omega) (by simpa using hz)
theorem plc_at {l : List Sp} {id : Nat} (h : ¬ plc l id < 0) : ∃ (j : Nat) (y : Sp), plc l id = (j : Int) ∧ l[j]? = some y ∧ y.id = id := by
  obtain ⟨j, y, h1, h2, h3, _⟩ := plcG_at (id := id) (l := l) (i := 0) (by unfold plc at h; omega)
  exact ⟨j, y, by unfold plc; rw [h1]; congr 1; omega, h2, h3⟩
theorem plc_here {l : List Sp} (hu : RisId l) {i : Nat} {s : Sp} (h : l[i]? = some s) : plc l s.id = (i : Int) := by
  have h0 : ¬ plc l s.id < 0 := fun h2 => (plcG_neg.1 h2) s (List.mem_of_getElem? h) rfl
  obtain ⟨j, y, h1, h2, h3⟩ := plc_at h0
  rw [h1]
  obtain ⟨a1, a2⟩ := List.getElem?_eq_some_iff.1 h
  obtain ⟨b1, b2⟩ := List.getElem?_eq_some_iff.1 h2
  have hp := List.pairwise_iff_getElem.1 hu
  rcases Nat.lt_trichotomy i j with h4 | h4 | h4
  · have := hp i j a1 b1 h4; rw [a2, b2, h3] at this; omega
  · rw [h4]
  · have := hp j i b1 a1 h4; rw [a2, b2, h3] at this; omega

section
variable {l : List Sp} {i : Nat} {s : Sp}
/-- The document's search, told of IDs. -/
def cycX (l : List Sp) (i : Nat) (s : Sp) (n x : Nat) : Bool := cycGo l i s n (plc l x)
theorem cycX_zero (x : Nat) : cycX l i s 0 x = false := rfl
theorem cycX_no {n x : Nat} (h : plc l x < 0) : cycX l i s n x = false := by
  unfold cycX
  cases n with
  | zero => rfl
  | succ n => rw [cycGo, if_pos h]
theorem cycX_step (hu : RisId l) (hs : l[i]? = some s) (h0 : s.parent ≠ 0) {n x j : Nat} {y : Sp} (hp : plc l x = (j : Int)) (hy : l[j]? = some y) (he : y.id = x) :
    cycX l i s (n + 1) x = if x < s.id then false else if x = s.id then true else if y.parent = 0 then false else cycX l i s n y.parent := by
  unfold cycX
  rw [cycGo, if_neg (by omega), hp, Int.toNat_natCast, hy]
  simp only
  have hji : ((j : Int) = (i : Int)) ↔ x = s.id := by
    constructor
    · intro h
      have : j = i := by omega
      subst this
      rw [hy] at hs; cases hs
      exact he.symm
    · intro h
      rw [← hp, h]
      exact plc_here hu hs
  by_cases h1 : x < s.id
  · rw [if_pos h1, if_pos (Or.inr (by omega))]
  · rw [if_neg h1, if_neg (by intro h; rcases h with h | h <;> omega)]
    by_cases h2 : x = s.id
    · rw [if_pos h2, if_pos (hji.2 h2)]
    · rw [if_neg h2, if_neg (fun h => h2 (hji.1 h))]
theorem cycX_mono (hu : RisId l) (hs : l[i]? = some s) (h0 : s.parent ≠ 0) : ∀ {n x : Nat}, cycX l i s n x = true → ∀ m, n ≤ m → cycX l i s m x = true
  | 0, _, h, _, _ => by cases h
  | n + 1, x, h, m, hm => by
    obtain ⟨m, rfl⟩ : ∃ m', m = m' + 1 := ⟨m - 1, by omega⟩
    by_cases hp : plc l x < 0
    · rw [cycX_no hp] at h; cases h
    · obtain ⟨j, y, h1, h2, h3⟩ := plc_at hp
      rw [cycX_step hu hs h0 h1 h2 h3] at h ⊢
      by_cases c1 : x < s.id
      · rw [if_pos c1] at h; cases h
      · rw [if_neg c1] at h ⊢
        by_cases c2 : x = s.id
        · rw [if_pos c2]
        · rw [if_neg c2] at h ⊢
          by_cases c3 : y.parent = 0
          · rw [if_pos c3] at h; cases h
          · rw [if_neg c3] at h ⊢
            exact cycX_mono hu hs h0 h m (by omega)
/-- A search that wants k steps goes through k IDs, each once. -/
theorem cycX_path (hu : RisId l) (hs : l[i]? = some s) (h0 : s.parent ≠ 0) : ∀ {k x : Nat}, cycX l i s (k + 1) x = true → cycX l i s k x = false →
    ∃ ks : List Nat, ks.length = k + 1 ∧ ks.Nodup ∧ (∀ z ∈ ks, z ∈ l.map (·.id)) ∧ ∀ z ∈ ks, ∃ j, j ≤ k ∧ cycX l i s (j + 1) z = true ∧ cycX l i s j z = false
  | 0, x, h, h' => by
    have hp : ¬ plc l x < 0 := fun hp => by rw [cycX_no hp] at h; cases h
    obtain ⟨j, y, h1, h2, h3⟩ := plc_at hp
    refine ⟨[x], rfl, by simp, fun z hz => ?_, fun z hz => ⟨0, Nat.le_refl _, ?_⟩⟩
    · rw [List.mem_singleton.1 hz, ← h3]; exact List.mem_map.2 ⟨y, List.mem_of_getElem? h2, rfl⟩
    · rw [List.mem_singleton.1 hz]; exact ⟨h, h'⟩
  | k + 1, x, h, h' => by
    have hp : ¬ plc l x < 0 := fun hp => by rw [cycX_no hp] at h; cases h
    obtain ⟨j, y, h1, h2, h3⟩ := plc_at hp
    have g := h; have g' := h'
    rw [cycX_step hu hs h0 h1 h2 h3] at g g'
    by_cases c1 : x < s.id
    · rw [if_pos c1] at g; cases g
    · rw [if_neg c1] at g g'
      by_cases c2 : x = s.id
      · rw [if_pos c2] at g'; cases g'
      · rw [if_neg c2] at g g'
        by_cases c3 : y.parent = 0
        · rw [if_pos c3] at g; cases g
        · rw [if_neg c3] at g g'
          obtain ⟨ks, a, b, c, d⟩ := cycX_path hu hs h0 g g'
          refine ⟨x :: ks, by simp [a], List.nodup_cons.2 ⟨fun hx => ?_, b⟩, fun z hz => ?_, fun z hz => ?_⟩
          · obtain ⟨q, hq, e1, _⟩ := d x hx
            rw [cycX_mono hu hs h0 e1 (k + 1) (by omega)] at h'
            cases h'
          · rcases List.mem_cons.1 hz with rfl | hz
            · rw [← h3]; exact List.mem_map.2 ⟨y, List.mem_of_getElem? h2, rfl⟩
            · exact c z hz
          · rcases List.mem_cons.1 hz with rfl | hz
            · exact ⟨k + 1, Nat.le_refl _, h, h'⟩
            · obtain ⟨q, hq, e⟩ := d z hz
              exact ⟨q, by omega, e⟩
/-- So as many steps as there are are enough. -/
theorem cycX_enough (hu : RisId l) (hs : l[i]? = some s) (h0 : s.parent ≠ 0) (x : Nat) : cycX l i s (l.length + 1) x = cycX l i s l.length x := by
  cases h : cycX l i s l.length x with
  | true => exact cycX_mono hu hs h0 h _ (Nat.le_succ _)
  | false =>
    cases h2 : cycX l i s (l.length + 1) x with
    | false => rfl
    | true =>
      obtain ⟨ks, a, b, c, _⟩ := cycX_path hu hs h0 h2 h
      have := nodup_len b c
      rw [List.length_map] at this
      omega
theorem lstGo_less {id : Nat} : ∀ {n x b : Nat}, b < id → lstGo l id n x b ≠ some id
  | 0, _, _, _ => by simp [lstGo]
  | n + 1, x, b, h => by
    rw [lstGo]
    split
    · simp
    · split
      · simp; omega
      · split
        · simp
        · split
          · simp
          · exact lstGo_less (by omega)
theorem lstGo_cyc (hu : RisId l) (hs : l[i]? = some s) (h0 : s.parent ≠ 0) : ∀ {n x : Nat}, x ≠ 0 → (lstGo l s.id n x s.id = some s.id ↔ cycX l i s n x = true)
  | 0, x, _ => by simp [lstGo, cycX_zero]
  | n + 1, x, hx => by
    rw [lstGo, if_neg hx]
    by_cases c2 : x = s.id
    · rw [if_pos c2, c2, cycX_step hu hs h0 (plc_here hu hs) hs rfl, if_neg (by omega), if_pos rfl]; simp
    · rw [if_neg c2]
      by_cases hp : plc l x < 0
      · rw [if_pos hp, cycX_no hp]; simp
      · obtain ⟨j, y, h1, h2, h3⟩ := plc_at hp
        rw [if_neg hp, h1, Int.toNat_natCast, h2, cycX_step hu hs h0 h1 h2 h3]
        simp only
        by_cases c1 : x < s.id
        · rw [if_pos c1, show min s.id x = x by omega]
          have := lstGo_less (l := l) (n := n) (x := y.parent) c1
          simp [this]
        · rw [if_neg c1, if_neg c2, show min s.id x = s.id by omega]
          by_cases c3 : y.parent = 0
          · rw [if_pos c3, c3]
            cases n with
            | zero => simp [lstGo]
            | succ n => rw [lstGo, if_pos rfl]; simp
          · rw [if_neg c3]
            exact lstGo_cyc hu hs h0 c3
/-- **The code's word, that the least of its cycle is it, is the document's.** -/
theorem lst_cyc (hu : RisId l) (hs : l[i]? = some s) (h0 : s.parent ≠ 0) : lst l s = some s.id ↔ cyc l i s = true := by
  show lstGo l s.id l.length s.parent s.id = some s.id ↔ cycX l i s (l.length + 1) s.parent = true
  rw [cycX_enough hu hs h0]
  exact lstGo_cyc hu hs h0 h0
end
end Go.Proofs.Ytchpekidnbdpdaa


/- Layer 21, plain: a walk down the forest, one under another: which are moved behind it. -/
namespace Go.Proofs.Ytchpekidnbdpdaa
open Go.RowKit

/-- Does the way to the i-th begin so? -/
def sub (o : List Ad) (q : List Nat) (i : Nat) : Bool := match pth o o.length i with | some p => q.isPrefixOf p | none => false
/-- .. and go on? -/
def subS (o : List Ad) (q : List Nat) (i : Nat) : Bool := sub o q i && decide (pth o o.length i ≠ some q)
/-- Who is under an ID, in order. -/
def kidsTo (o : List Ad) (id : Nat) (n : Nat) : List Nat := (List.range n).filter fun i => match o[i]? with | some x => decide (x.up = id) | none => false
def kids (o : List Ad) (id : Nat) : List Nat := kidsTo o id o.length
/-- An ID, and the way to who bears it (none: nobody, 0). -/
def Hd (o : List Ad) (id : Nat) (q : List Nat) : Prop := (id = 0 ∧ q = []) ∨ ∃ j y, o[j]? = some y ∧ y.s.id = id ∧ id ≠ 0 ∧ pth o o.length j = some q
/-- Those of V moved. -/
def mixA (o : List Ad) (V : Nat → Bool) : List Ad := o.mapIdx fun i x => if V i = true then finA o i x else x

theorem mem_kidsTo {o : List Ad} {id n c : Nat} (h : c ∈ kidsTo o id n) : c < n ∧ ∃ x, o[c]? = some x ∧ x.up = id := by
  obtain ⟨h1, h2⟩ := List.mem_filter.1 h
  refine ⟨List.mem_range.1 h1, ?_⟩
  cases hx : o[c]? with
  | none => rw [hx] at h2; cases h2
  | some x => rw [hx] at h2; exact ⟨x, rfl, of_decide_eq_true h2⟩
theorem kidsTo_succ {o : List Ad} {id n : Nat} {x : Ad} (h : o[n]? = some x) : kidsTo o id (n + 1) = kidsTo o id n ++ (if x.up = id then [n] else []) := by
  unfold kidsTo
  rw [List.range_succ, List.filter_append]
  congr 1
  by_cases hx : x.up = id
  · rw [if_pos hx, List.filter_cons, h]; simp [hx]
  · rw [if_neg hx, List.filter_cons, h]; simp [hx]
theorem kids_of {o : List Ad} {c : Nat} {x : Ad} (h : o[c]? = some x) : c ∈ kids o x.up :=
  List.mem_filter.2 ⟨List.mem_range.2 (List.getElem?_eq_some_iff.1 h).1, by rw [h]; exact decide_eq_true rfl⟩
theorem kids_nodup (o : List Ad) (id : Nat) : (kids o id).Nodup := List.Pairwise.filter _ List.nodup_range
theorem mixA_len (o : List Ad) (V : Nat → Bool) : (mixA o V).length = o.length := List.length_mapIdx ..
theorem mixA_at {o : List Ad} {V : Nat → Bool} {i : Nat} {x : Ad} (h : o[i]? = some x) : (mixA o V)[i]? = some (if V i = true then finA o i x else x) := by rw [mixA, List.getElem?_mapIdx, h]; rfl
theorem mixA_none (o : List Ad) : mixA o (fun _ => false) = o := List.ext_getElem? fun i => by
  cases h : o[i]? with
  | none => rw [List.getElem?_eq_none (by rw [mixA_len]; exact List.getElem?_eq_none_iff.1 h)]
  | some x => rw [mixA_at h]; rfl
theorem mixA_set {o : List Ad} {V : Nat → Bool} {c : Nat} {x : Ad} (h : o[c]? = some x) : (mixA o V).set c (finA o c x) = mixA o (fun i => V i || decide (i = c)) := List.ext_getElem? fun i => by
  have hc := (List.getElem?_eq_some_iff.1 h).1
  by_cases e : i = c
  · subst e
    rw [List.getElem?_set_self (by rw [mixA_len]; exact hc), mixA_at h]
    simp
  · rw [List.getElem?_set_ne (Ne.symm e)]
    cases h2 : o[i]? with
    | none =>
      have := List.getElem?_eq_none_iff.1 h2
      rw [List.getElem?_eq_none (by rw [mixA_len]; omega), List.getElem?_eq_none (by rw [mixA_len]; omega)]
    | some y => rw [mixA_at h2, mixA_at h2]; simp [e]
/-- Moved or not, its ID and whom it is under are as they were. -/
theorem mixA_ids {o : List Ad} {V : Nat → Bool} {i : Nat} {x : Ad} (h : o[i]? = some x) : (if V i = true then finA o i x else x).s.id = x.s.id ∧ (if V i = true then finA o i x else x).up = x.up := by
  split
  · rw [finA]
    cases hf : fng o o.length i with
    | none => exact ⟨rfl, rfl⟩
    | some v => obtain ⟨a, b, _⟩ := fng_keep hf h; exact ⟨a, b⟩
  · exact ⟨rfl, rfl⟩

theorem kid_pth {o : List Ad} (ho : OneId o) {id c : Nat} {q : List Nat} {x : Ad} (h : Hd o id q) (hx : o[c]? = some x) (hu : x.up = id) : pth o o.length c = some (q ++ [c]) := by
  rcases h with ⟨rfl, rfl⟩ | ⟨j, y, hy, rfl, h0, hq⟩
  · exact (pth_all (pth_root (k := 0) hx hu)).2
  · have hp : posA o x.up = some j := by rw [hu]; exact posA_of ho hy
    refine (pth_all (k := o.length + 1) ?_).2
    rw [pth_up hx (by rw [hu]; exact h0) hp, hq]; rfl
/-- What a child is moved to. -/
theorem kid_fin {o : List Ad} (ho : OneId o) {c j : Nat} {q : List Nat} {x y : Ad} (hy : o[j]? = some y) (h0 : y.s.id ≠ 0) (hq : pth o o.length j = some q) (hx : o[c]? = some x) (hu : x.up = y.s.id) : finA o c x = mvAd x (finA o j y) := by
  have hp : posA o x.up = some j := by rw [hu]; exact posA_of ho hy
  have h1 := fng_pth (o := o) o.length j
  rw [hq] at h1
  cases hv : fng o o.length j with
  | none => rw [hv] at h1; cases h1
  | some v =>
    rw [finA_of (k := o.length + 1) (v := mvAd x v) (by rw [fng_up hx (by rw [hu]; exact h0) hp, hv]; rfl), finA_of hv]
theorem root_fin {o : List Ad} {c : Nat} {x : Ad} (hx : o[c]? = some x) (hu : x.up = 0) : finA o c x = x := finA_of (fng_root (k := 0) hx hu)

theorem isPrefixOf_app {q p : List Nat} : q.isPrefixOf p = true ↔ ∃ r, p = q ++ r := by
  rw [List.isPrefixOf_iff_prefix]
  exact ⟨fun ⟨r, h⟩ => ⟨r, h.symm⟩, fun ⟨r, h⟩ => ⟨r, h.symm⟩⟩
theorem sub_iff {o : List Ad} {q : List Nat} {i : Nat} : sub o q i = true ↔ ∃ r, pth o o.length i = some (q ++ r) := by
  unfold sub
  cases h : pth o o.length i with
  | none => simp
  | some p =>
    show q.isPrefixOf p = true ↔ _
    rw [isPrefixOf_app]
    exact ⟨fun ⟨r, e⟩ => ⟨r, by rw [e]⟩, fun ⟨r, e⟩ => ⟨r, Option.some.inj e⟩⟩
theorem subS_iff {o : List Ad} {q : List Nat} {i : Nat} : subS o q i = true ↔ ∃ c r, pth o o.length i = some (q ++ c :: r) := by
  unfold subS
  rw [Bool.and_eq_true, sub_iff, decide_eq_true_iff]
  constructor
  · rintro ⟨⟨r, h1⟩, h2⟩
    cases r with
    | nil => rw [List.append_nil] at h1; exact absurd h1 h2
    | cons c r => exact ⟨c, r, h1⟩
  · rintro ⟨c, r, h⟩
    refine ⟨⟨_, h⟩, fun e => ?_⟩
    rw [h] at e
    have := congrArg List.length (Option.some.inj e)
    simp at this
/-- Whose way goes on from here goes through one that is under here. -/
theorem subS_kid {o : List Ad} (ho : OneId o) {id i : Nat} {q : List Nat} (h : Hd o id q) : subS o q i = true ↔ ∃ c, c ∈ kids o id ∧ sub o (q ++ [c]) i = true := by
  rw [subS_iff]
  constructor
  · rintro ⟨c, r, hp⟩
    refine ⟨c, ?_, sub_iff.2 ⟨r, by rw [hp]; simp⟩⟩
    obtain ⟨c', e1, e2⟩ := pth_take hp q.length (by simp)
    obtain rfl : c = c' := by simpa using e1
    obtain ⟨x, hx, ⟨hu, e3⟩ | ⟨hu, j, q', hj, hq', e3⟩⟩ := pth_inv e2
    · have hq : q = [] := by
        have := congrArg List.length e3
        rw [List.length_take, List.length_append, List.length_cons, List.length_singleton] at this
        exact List.length_eq_zero_iff.1 (by omega)
      subst hq
      rcases h with ⟨rfl, _⟩ | ⟨j, y, hy, rfl, h0, hq⟩
      · rw [← hu]; exact kids_of hx
      · exact absurd rfl (pth_len hq).2.2.2
    · have hqq : q' = q := by
        rw [show q ++ c :: r = (q ++ [c]) ++ r by simp, List.take_left' (by simp)] at e3
        exact ((List.append_inj_left' e3 rfl)).symm
      subst hqq
      obtain ⟨y, hy, he⟩ := posA_lt hj
      rcases h with ⟨rfl, rfl⟩ | ⟨j', y', hy', rfl, h0, hq⟩
      · exact absurd rfl (pth_len hq').2.2.2
      · have a := (pth_len hq').2.2.1
        have b := (pth_len hq).2.2.1
        rw [a] at b
        have hjj : j = j' := Option.some.inj b
        subst hjj
        rw [hy] at hy'
        have hyy : y = y' := Option.some.inj hy'
        subst hyy
        rw [he]
        exact kids_of hx
  · rintro ⟨c, hc, hs⟩
    obtain ⟨r, hr⟩ := sub_iff.1 hs
    exact ⟨c, r, by rw [hr]; simp⟩
/-- Two ways of one length that begin a third: one. -/
theorem sub_one {o : List Ad} {q : List Nat} {c c' i : Nat} (h : sub o (q ++ [c]) i = true) (h' : sub o (q ++ [c']) i = true) : c = c' := by
  obtain ⟨r, a⟩ := sub_iff.1 h
  obtain ⟨r', b⟩ := sub_iff.1 h'
  rw [a] at b
  have := Option.some.inj b
  simp at this
  exact this.1
theorem sub_strict {o : List Ad} {q : List Nat} {c i : Nat} (h : sub o (q ++ [c]) i = true) : subS o q i = true := by
  obtain ⟨r, a⟩ := sub_iff.1 h
  exact subS_iff.2 ⟨c, r, by rw [a]; simp⟩

/-- Which are moved behind the first t under an ID. -/
def wlkV (o : List Ad) (q ks : List Nat) (V : Nat → Bool) : Nat → Bool := fun i => V i || ks.any fun c => sub o (q ++ [c]) i
/-- What a walk is asked at: none below is moved. -/
def Clear (o : List Ad) (q : List Nat) (V : Nat → Bool) : Prop := ∀ i, subS o q i = true → V i = false

theorem wlkV_nil (o : List Ad) (q : List Nat) (V : Nat → Bool) : wlkV o q [] V = V := by funext i; simp [wlkV]
/-- The next one: not moved yet, nor any below it. -/
theorem wlk_next {o : List Ad} (ho : OneId o) {id c t : Nat} {q : List Nat} {V : Nat → Bool} {x : Ad} (h : Hd o id q) (hc : Clear o q V) (hk : (kids o id)[t]? = some c) (hx : o[c]? = some x) (hu : x.up = id) :
    wlkV o q ((kids o id).take t) V c = false ∧ Clear o (q ++ [c]) (fun i => wlkV o q ((kids o id).take t) V i || decide (i = c)) ∧
    (fun i => (wlkV o q ((kids o id).take t) V i || decide (i = c)) || subS o (q ++ [c]) i) = wlkV o q ((kids o id).take (t + 1)) V := by
  have hp := kid_pth ho h hx hu
  obtain ⟨ht, htc⟩ := List.getElem?_eq_some_iff.1 hk
  have hn : ∀ d ∈ (kids o id).take t, d ≠ c := fun d hd e => by
    obtain ⟨s, hs, e2⟩ := List.getElem_of_mem hd
    rw [List.length_take] at hs
    rw [List.getElem_take] at e2
    have hnd := kids_nodup o id
    rw [List.nodup_iff_pairwise_ne, List.pairwise_iff_getElem] at hnd
    exact hnd s t (by omega) ht (by omega) (by rw [e2, htc, e])
  have hcc : sub o (q ++ [c]) c = true := sub_iff.2 ⟨[], by rw [hp]; simp⟩
  have hno : ∀ i, sub o (q ++ [c]) i = true → wlkV o q ((kids o id).take t) V i = false := fun i hi => by
    unfold wlkV
    rw [hc i (sub_strict hi), Bool.false_or]
    cases ha : ((kids o id).take t).any fun c => sub o (q ++ [c]) i with
    | false => rfl
    | true =>
      obtain ⟨d, hd, e⟩ := List.any_eq_true.1 ha
      exact absurd (sub_one e hi) (hn d hd)
  refine ⟨hno c hcc, fun i hi => ?_, ?_⟩
  · obtain ⟨d, r, e⟩ := subS_iff.1 hi
    have h1 : sub o (q ++ [c]) i = true := sub_iff.2 ⟨d :: r, e⟩
    simp only
    rw [hno i h1, Bool.false_or]
    refine decide_eq_false fun e2 => ?_
    subst e2
    rw [hp] at e
    have := congrArg List.length (Option.some.inj e)
    simp at this
  · funext i
    rw [List.take_add_one, hk]
    show _ = (V i || ((kids o id).take t ++ [c]).any fun c => sub o (q ++ [c]) i)
    rw [List.any_append]
    show ((V i || _) || decide (i = c) || subS o (q ++ [c]) i) = (V i || (_ || (sub o (q ++ [c]) i || false)))
    have : sub o (q ++ [c]) i = (decide (i = c) || subS o (q ++ [c]) i) := by
      cases h2 : sub o (q ++ [c]) i with
      | true =>
        symm
        by_cases e : i = c
        · simp [e]
        · rw [decide_eq_false e, Bool.false_or]
          unfold subS
          rw [h2, Bool.true_and]
          refine decide_eq_true fun e2 => ?_
          have := (pth_len e2).2.2.1
          simp at this
          exact e this.symm
      | false =>
        symm
        have e : i ≠ c := fun e => by subst e; rw [hcc] at h2; cases h2
        rw [decide_eq_false e, Bool.false_or]
        unfold subS
        rw [h2]; rfl
    rw [this, Bool.or_false]
    cases V i <;> simp [Bool.or_assoc]
/-- All of them: all below. -/
theorem wlk_all {o : List Ad} (ho : OneId o) {id : Nat} {q : List Nat} {V : Nat → Bool} (h : Hd o id q) : wlkV o q (kids o id) V = fun i => V i || subS o q i := by
  funext i
  unfold wlkV
  congr 1
  cases hs : subS o q i with
  | true =>
    obtain ⟨c, h1, h2⟩ := (subS_kid ho h).1 hs
    exact List.any_eq_true.2 ⟨c, h1, h2⟩
  | false =>
    cases ha : (kids o id).any fun c => sub o (q ++ [c]) i with
    | false => rfl
    | true =>
      obtain ⟨c, h1, h2⟩ := List.any_eq_true.1 ha
      rw [(subS_kid ho h).2 ⟨c, h1, h2⟩] at hs
      cases hs
/-- From nobody on: all that can be moved are. -/
theorem wlk_top {o : List Ad} : mixA o (fun i => false || subS o [] i) = fins o := List.ext_getElem? fun i => by
  cases h : o[i]? with
  | none =>
    have := List.getElem?_eq_none_iff.1 h
    rw [List.getElem?_eq_none (by rw [mixA_len]; exact this), List.getElem?_eq_none (by rw [fins_len]; exact this)]
  | some x =>
    rw [mixA_at h, fins_at h]
    cases hp : pth o o.length i with
    | none => rw [finA_no hp]; simp
    | some p =>
      have : subS o [] i = true := by
        cases p with
        | nil => exact absurd rfl (pth_len hp).2.2.2
        | cons c r => exact subS_iff.2 ⟨c, r, hp⟩
      simp [this]
theorem hd_kid {o : List Ad} (ho : OneId o) {id c : Nat} {q : List Nat} {x : Ad} (h : Hd o id q) (hx : o[c]? = some x) (hu : x.up = id) (h0 : x.s.id ≠ 0) : Hd o x.s.id (q ++ [c]) :=
  .inr ⟨c, x, hx, rfl, h0, kid_pth ho h hx hu⟩
theorem hd_len {o : List Ad} {id : Nat} {q : List Nat} (h : Hd o id q) : q.length ≤ o.length := by
  rcases h with ⟨-, rfl⟩ | ⟨j, y, -, -, -, hq⟩
  · exact Nat.zero_le _
  · exact (pth_len hq).1
end Go.Proofs.Ytchpekidnbdpdaa


/- Layer 21: shift, now. -/
namespace Go.Proofs.Ytchpekidnbdpdaa
open Go.RowKit
set_option maxRecDepth 100000 in
set_option maxHeartbeats 4000000 in
theorem ajShift {A1 A2 : Option Addr} {n1 c1 n2 c2 : Nat} (q : Ad) (p : Ad) (w : World) (hs : q.s.Tim) (hp : p.s.Tim) :
    Calls Try.prog 27 #[adV q A1 n1 c1, adV p A2 n2 c2] w fun e w' => e = .returned (.int .i64 (shiftS q.s p)) ∧ Below w.heap.size w w' := by
  have hb0 : Below w.heap.size w ((w.alloc (.cells (adC q A1 n1 c1) 47)).alloc (.cells (adC p A2 n2 c2) 47)) := ((Below.refl _ w).alloc (Nat.le_refl _) _).alloc (by simp) _
  have bk1 := (Bk.new w 47 (adC q A1 n1 c1)).alloc (.cells (adC p A2 n2 c2) 47)
  have bk2 := Bk.new (w.alloc (.cells (adC q A1 n1 c1) 47)) 47 (adC p A2 n2 c2)
  rw [World.size_alloc] at bk2
  obtain ⟨w1, hw1⟩ : ∃ w1, (w.alloc (.cells (adC q A1 n1 c1) 47)).alloc (.cells (adC p A2 n2 c2) 47) = w1 := ⟨_, rfl⟩
  obtain ⟨g, hg⟩ : ∃ g, w.heap.size = g := ⟨_, rfl⟩
  rw [hw1] at hb0 bk1 bk2
  rw [hg] at bk1 bk2
  have k4 : w1.cell? ⟨g, 4, none⟩ = some (.string q.s.service) := bk1.cell 4
  have k7 : w1.cell? ⟨g, 7, none⟩ = some (.int .i64 q.s.start) := bk1.cell 7
  have k8 : w1.cell? ⟨g, 8, none⟩ = some (.int .i64 q.s.length) := bk1.cell 8
  have j4 : w1.cell? ⟨g + 1, 4, none⟩ = some (.string p.s.service) := bk2.cell 4
  have j7 : w1.cell? ⟨g + 1, 7, none⟩ = some (.int .i64 p.s.start) := bk2.cell 7
  have j8 : w1.cell? ⟨g + 1, 8, none⟩ = some (.int .i64 p.s.length) := bk2.cell 8
  have j12 : w1.cell? ⟨g + 1, 12, none⟩ = some (.int .i64 p.shift) := bk2.cell 12
  obtain ⟨hs1, hs2, hs3⟩ := hs
  obtain ⟨hp1, hp2, hp3⟩ := hp
  obtain ⟨r, hr⟩ : ∃ r, shiftS q.s p = r := ⟨_, rfl⟩
  rw [hr]
  unfold shiftS at hr
  obtain ⟨sv, hsv⟩ : ∃ sv, q.s.service = sv := ⟨_, rfl⟩
  obtain ⟨pv, hpv⟩ : ∃ pv, p.s.service = pv := ⟨_, rfl⟩
  obtain ⟨a, ha⟩ : ∃ a, q.s.start = a := ⟨_, rfl⟩
  obtain ⟨b, hb⟩ : ∃ b, q.s.length = b := ⟨_, rfl⟩
  obtain ⟨x, hx⟩ : ∃ x, p.s.start = x := ⟨_, rfl⟩
  obtain ⟨y, hy⟩ : ∃ y, p.s.length = y := ⟨_, rfl⟩
  rw [hsv] at k4 hr
  rw [hpv] at j4 hr
  rw [ha] at k7 hr hs1 hs3
  rw [hb] at k8 hr hs2 hs3
  rw [hx] at j7 hr hp1 hp3
  rw [hy] at j8 hr hp2 hp3
  have HW := Lib.hid hw1
  have HG := Lib.hid hg
  have HR := Lib.hid hr
  clear hw1 hg hr bk1 bk2 hsv hpv ha hb hx hy
  go_enter Try.func27, Try.ntmps27
  go_upto_region 1 with fail
  rw [HW.out, HG.out]
  by_cases h1 : sv = pv
  · subst h1
    have hr := HR.out
    rw [if_pos rfl] at hr
    subst hr
    go_wp2_with fail
    go_ret
    exact ⟨rfl, hb0⟩
  have hr := HR.out
  rw [if_neg h1] at hr
  have HR2 := Lib.hid hr
  clear hr HR
  have h1' : (sv.toList == pv.toList) = false := by rw [strEq_of', decide_eq_false h1]
  go_wp2_with fail
  go_quiet (fail)
  go_wp2_with fail
  go_quiet (fail)
  by_cases h2 : y < b
  · have h2z : decide (b > y) = true := by simp; omega
    have rq : IntKind.i64.wrap (x - a) = x - a := by rw [IntKind.wrap_i64]; omega
    go_wp2
    all_goals go_ret
    all_goals
      refine ⟨congrArg (fun v => Ending.returned (Value.int .i64 v)) ?_, below_drewN hb0 _⟩
      have h := HR2.out
      rw [if_pos h2] at h
      repeat' split
      all_goals (split at h <;> omega)
  · have h2z : decide (b > y) = false := by simp; omega
    have h := HR2.out
    rw [if_neg h2] at h
    have HR3 := Lib.hid h
    clear h HR2
    have rr : IntKind.i64.wrap (a - x) = a - x := by rw [IntKind.wrap_i64]; omega
    have ry : IntKind.i64.wrap (y - b) = y - b := by rw [IntKind.wrap_i64]; omega
    by_cases h3 : x ≤ a
    · by_cases h4 : a - x ≤ y - b
      · go_wp2
        go_ret
        refine ⟨congrArg (fun v => Ending.returned (Value.int .i64 v)) ?_, below_drewN hb0 _⟩
        have h := HR3.out
        rw [if_pos (by omega)] at h
        exact h
      · go_wp2
        go_ret
        refine ⟨congrArg (fun v => Ending.returned (Value.int .i64 v)) ?_, below_drewN hb0 _⟩
        have h := HR3.out
        rw [if_neg (by omega)] at h
        rw [← h]
    · go_wp2
      go_ret
      refine ⟨congrArg (fun v => Ending.returned (Value.int .i64 v)) ?_, below_drewN hb0 _⟩
      have h := HR3.out
      rw [if_neg (by omega)] at h
      rw [← h]
set_option maxRecDepth 100000 in
set_option maxHeartbeats 2000000 in
theorem ajNow {A : Option Addr} {n c : Nat} (s : Sp) (by_ : Int) (w : World) (hs : s.Tim) (h0 : -4611686018427387904 ≤ by_) (h1 : by_ ≤ 4611686018427387904) :
    Calls Try.prog 28 #[spV s A n c, .int .i64 by_] w fun e w' => e = .returned (.int .i64 (min (max 0 (s.start + by_)) (4611686018427387903 - s.length))) ∧ Below w.heap.size w w' := by
  have hb0 : Below w.heap.size w (w.alloc (.cells (spC s A n c) 32)) := (Below.refl _ w).alloc (Nat.le_refl _) _
  have bk := Bk.new w 32 (spC s A n c)
  have k7 : (w.alloc (.cells (spC s A n c) 32)).cell? ⟨w.heap.size, 7, none⟩ = some (.int .i64 s.start) := bk.cell 7
  have k8 : (w.alloc (.cells (spC s A n c) 32)).cell? ⟨w.heap.size, 8, none⟩ = some (.int .i64 s.length) := bk.cell 8
  obtain ⟨hs1, hs2, hs3⟩ := hs
  have r1 : IntKind.i64.wrap (s.start + by_) = s.start + by_ := by rw [IntKind.wrap_i64]; omega
  have r2 : IntKind.i64.wrap (4611686018427387903 - s.length) = 4611686018427387903 - s.length := by rw [IntKind.wrap_i64]; omega
  obtain ⟨W, hW⟩ : ∃ W, w.alloc (.cells (spC s A n c) 32) = W := ⟨_, rfl⟩
  obtain ⟨g, hg⟩ : ∃ g, w.heap.size = g := ⟨_, rfl⟩
  rw [hW] at k7 k8 hb0
  rw [hg] at k7 k8
  have HW := Lib.hid hW
  have HG := Lib.hid hg
  have HB := Lib.hid hb0
  clear hW hg hb0 bk
  go_enter Try.func28, Try.ntmps28
  go_upto_region 1 with fail
  rw [HW.out, HG.out]
  go_wp2
  all_goals go_ret
  all_goals
    refine ⟨congrArg (fun v => Ending.returned (Value.int .i64 v)) ?_, HB.out⟩
    repeat' split
    all_goals omega
end Go.Proofs.Ytchpekidnbdpdaa


/- Layer 4, plain: a file system that forgets what was not synced: what each call does and answers. -/
namespace Go.Proofs.Ytchpekidnbdpdaa

/-- A file: its bytes, how many are synced. -/
structure VFile where
  b : List Int
  s : Nat
/-- A change of the directory: a name that became a file, one that went. -/
structure VChg where
  name : ByteArray
  f : Option Nat
  gone : ByteArray
/-- A file system. -/
structure VSt where
  limit : Int
  syn : List (ByteArray × Nat)
  chg : List VChg
  off : Bool
  fuse : Int
  fault : Int
  err : Nat
  ops : Nat
  fs : List VFile
def noT : ByteArray := ⟨#[]⟩
def vch (x : Int) : Bool := (decide (97 ≤ x) && decide (x ≤ 122)) || (decide (48 ≤ x) && decide (x ≤ 57)) || decide (x = 45) || decide (x = 46)
/-- May it be a name? -/
def vName (s : ByteArray) : Bool := (nums s).all vch && decide (1 ≤ s.size) && decide (s.size ≤ 64)
/-- A name taken away. -/
def dDel (s : ByteArray) (L : List (ByteArray × Nat)) : List (ByteArray × Nat) := L.filter fun p => !decide (p.1 = s)
def chgOn (L : List (ByteArray × Nat)) (c : VChg) : List (ByteArray × Nat) :=
  match c.f with
  | some x => mgPut c.name x (if c.gone = noT then L else dDel c.gone L)
  | none => if c.gone = noT then L else dDel c.gone L
namespace VSt
def dirN (S : VSt) (n : Nat) : List (ByteArray × Nat) := (S.chg.take n).foldl chgOn S.syn
def now (S : VSt) : List (ByteArray × Nat) := S.dirN S.chg.length
def get (S : VSt) (s : ByteArray) : Option Nat := mgGet s S.now
def file (S : VSt) (i : Nat) : VFile := S.fs.getD i ⟨[], 0⟩
/-- The files that count for the room. -/
def counts (S : VSt) (i : Nat) : Bool := (S.syn.any fun p => decide (p.2 = i)) || S.chg.any fun c => decide (c.f = some i)
def used (S : VSt) : Nat := (((List.range S.fs.length).filter S.counts).map fun i => (S.file i).b.length).sum
/-- What strikes an operation. -/
def strike (S : VSt) : VSt × Nat :=
  if S.off = true then (S, 9)
  else if S.fuse = 0 then ({ S with ops := S.ops + 1, fuse := max (-1) (S.fuse - 1), fault := max (-1) (S.fault - 1), off := true }, 9)
  else if S.fault = 0 then ({ S with ops := S.ops + 1, fuse := max (-1) (S.fuse - 1), fault := max (-1) (S.fault - 1) }, S.err)
  else ({ S with ops := S.ops + 1, fuse := max (-1) (S.fuse - 1), fault := max (-1) (S.fault - 1) }, 0)
/-- An operation with names. -/
def op (S : VSt) (right : Bool) (do_ : VSt → VSt × Nat) : VSt × Nat :=
  if right = false then (S, 2) else if S.strike.2 ≠ 0 then (S.strike.1, S.strike.2) else do_ S.strike.1
def setFile (S : VSt) (i : Nat) (x : VFile) : VSt := { S with fs := S.fs.set i x }
def create (S : VSt) (s : ByteArray) : VSt × Nat := S.op (vName s) fun T =>
  match T.get s with
  | some _ => (T, 5)
  | none => ({ T with chg := T.chg ++ [⟨s, some T.fs.length, noT⟩], fs := T.fs ++ [⟨[], 0⟩] }, 0)
def append (S : VSt) (s : ByteArray) (zs : List Int) : VSt × Nat := S.op (vName s) fun T =>
  match T.get s with
  | none => (T, 6)
  | some i => if T.limit < (T.used : Int) + (zs.length : Int) then (T, 7) else (T.setFile i ⟨(T.file i).b ++ zs, (T.file i).s⟩, 0)
def sync (S : VSt) (s : ByteArray) : VSt × Nat := S.op (vName s) fun T =>
  match T.get s with
  | none => (T, 6)
  | some i => (T.setFile i ⟨(T.file i).b, (T.file i).b.length⟩, 0)
def syncDir (S : VSt) : VSt × Nat := S.op true fun T => ({ T with syn := T.now, chg := [] }, 0)
def rename (S : VSt) (s t : ByteArray) : VSt × Nat := S.op (vName s && vName t) fun T =>
  match T.get s with
  | none => (T, 6)
  | some i => if s = t then (T, 0) else ({ T with chg := T.chg ++ [⟨t, some i, s⟩] }, 0)
def remove (S : VSt) (s : ByteArray) : VSt × Nat := S.op (vName s) fun T =>
  match T.get s with
  | none => (T, 6)
  | some _ => ({ T with chg := T.chg ++ [⟨noT, none, s⟩] }, 0)
def readAt (b : List Int) (at_ n : Nat) : List Int := (b.drop at_).take n
def read (S : VSt) (s : ByteArray) (at_ n : Int) : VSt × List Int × Nat :=
  if (vName s && decide (0 ≤ at_) && decide (0 ≤ n)) = false then (S, [], 2)
  else if S.strike.2 ≠ 0 then (S.strike.1, [], S.strike.2)
  else match S.strike.1.get s with
    | none => (S.strike.1, [], 6)
    | some i => (S.strike.1, readAt (S.strike.1.file i).b at_.toNat n.toNat, 0)
def size (S : VSt) (s : ByteArray) : Int := match S.get s with | none => -1 | some i => (S.file i).b.length
def setFuse (S : VSt) (n : Int) : VSt := { S with fuse := max (-1) n }
def setFault (S : VSt) (n : Int) (e : Int) : VSt × Nat := if e ≠ 7 ∧ e ≠ 8 then (S, 2) else ({ S with fault := max (-1) n, err := e.toNat }, 0)
def modulo (n : Int) (there : Nat) : Nat := if n < 0 then 0 else (n % ((there : Int) + 1)).toNat
/-- How much of a file a crash keeps. -/
def kept (x : VFile) (keep : List Int) (i : Nat) : Nat := x.s + match keep[i]? with | some k => modulo k (x.b.length - x.s) | none => 0
/-- The files of l, from the i-th name on, as a crash leaves them. -/
def crashGo (keep : List Int) : List Nat → Nat → List VFile → List VFile
  | [], _, fs => fs
  | x :: l, i, fs => crashGo keep l (i + 1) (fs.set x ⟨((fs.getD x ⟨[], 0⟩).b.take (kept (fs.getD x ⟨[], 0⟩) keep i)), kept (fs.getD x ⟨[], 0⟩) keep i⟩)
/-- A crash, the directory's names being L, rising. -/
def crash (S : VSt) (n : Int) (keep : List Int) (L : List (ByteArray × Nat)) : VSt :=
  { S with syn := S.dirN (modulo n S.chg.length), chg := [], off := false, fuse := -1, fault := -1, fs := crashGo keep (L.map (·.2)) 0 S.fs }
def turn (S : VSt) (s : ByteArray) (at_ : Int) (bits : Int) : VSt × Nat :=
  match S.get s with
  | none => (S, 6)
  | some i => if at_ < 0 ∨ ((S.file i).b.length : Int) ≤ at_ then (S, 2) else (S.setFile i ⟨(S.file i).b.modify at_.toNat fun x => ((x.toNat ^^^ bits.toNat : Nat) : Int), (S.file i).s⟩, 0)
end VSt
def VSt.new (limit : Int) : VSt := ⟨limit, [], [], false, -1, -1, 0, 0, []⟩
end Go.Proofs.Ytchpekidnbdpdaa


/- Layer 4: Name, the code's and the document's. -/
namespace Go.Proofs.Ytchpekidnbdpdaa
open Go.RowKit

theorem vch_cases (z : Int) : (97 ≤ z ∧ z ≤ 122) ∨ (48 ≤ z ∧ z ≤ 57) ∨ z = 45 ∨ z = 46 ∨ (vch z = false ∧ z < 48 ∧ z ≠ 45 ∧ z ≠ 46) ∨ (vch z = false ∧ 57 < z ∧ z < 97) ∨ (vch z = false ∧ 122 < z) := by
  by_cases h1 : 97 ≤ z ∧ z ≤ 122
  · exact .inl h1
  by_cases h2 : 48 ≤ z ∧ z ≤ 57
  · exact .inr (.inl h2)
  by_cases h3 : z = 45
  · exact .inr (.inr (.inl h3))
  by_cases h4 : z = 46
  · exact .inr (.inr (.inr (.inl h4)))
  have hf : vch z = false := by
    unfold vch
    simp
    omega
  by_cases h5 : z < 48
  · exact .inr (.inr (.inr (.inr (.inl ⟨hf, h5, h3, h4⟩))))
  by_cases h6 : z < 97
  · exact .inr (.inr (.inr (.inr (.inr (.inl ⟨hf, by omega, h6⟩)))))
  · exact .inr (.inr (.inr (.inr (.inr (.inr ⟨hf, by omega⟩)))))
theorem vch_yes {z : Int} (h : (97 ≤ z ∧ z ≤ 122) ∨ (48 ≤ z ∧ z ≤ 57) ∨ z = 45 ∨ z = 46) : vch z = true := by
  unfold vch
  simp
  omega
theorem vName_bad {s : ByteArray} {z : Int} {k : Nat} (h : (nums s)[k]? = some z) (hz : vch z = false) : vName s = false := by
  have : (nums s).all vch = false := by
    rw [List.all_eq_false]
    exact ⟨z, List.mem_of_getElem? h, by rw [hz]; simp⟩
  unfold vName
  rw [this]
  rfl
theorem vName_end {s : ByteArray} (h : (nums s).all vch = true) : vName s = (decide (1 ≤ s.size) && decide (s.size ≤ 64)) := by
  unfold vName
  rw [h]
  rfl
end Go.Proofs.Ytchpekidnbdpdaa


/- Layer 4: the code's file system as it lies; what a step may change. -/
namespace Go.Proofs.Ytchpekidnbdpdaa
open Go.RowKit

/-- Of the blocks that lay, these alone may have changed. -/
structure FrK (w w' : World) (K : Nat → Prop) : Prop where
  os : w'.os = w.os
  tape : w'.tape = w.tape
  output : w'.output = w.output
  size : w.heap.size ≤ w'.heap.size
  block : ∀ b, b < w.heap.size → ¬K b → w'.heap[b]? = w.heap[b]?
/-- These blocks, and what has been made since. -/
def Kn (K : Nat → Prop) (a b : Nat) : Nat → Prop := fun x => K x ∨ (a ≤ x ∧ x < b)
abbrev Kno : Nat → Prop := fun _ => False
abbrev Kis (g : Nat) : Nat → Prop := fun b => b = g
section
variable {w w' w'' : World} {K K' : Nat → Prop}
theorem FrK.refl (w : World) (K : Nat → Prop) : FrK w w K := ⟨rfl, rfl, rfl, Nat.le_refl _, fun _ _ _ => rfl⟩
theorem FrK.mono (h : FrK w w' K) (hk : ∀ b, b < w.heap.size → K b → K' b) : FrK w w' K' := ⟨h.os, h.tape, h.output, h.size, fun b hb hn => h.block b hb fun hK => hn (hk b hb hK)⟩
theorem FrK.trans (h : FrK w w' K) (h' : FrK w' w'' K') (hk : ∀ b, b < w.heap.size → K' b → K b) : FrK w w'' K :=
  ⟨h'.os.trans h.os, h'.tape.trans h.tape, h'.output.trans h.output, Nat.le_trans h.size h'.size, fun b hb hn => (h'.block b (Nat.lt_of_lt_of_le hb h.size) fun hK => hn (hk b hb hK)).trans (h.block b hb hn)⟩
theorem FrK.drewN (h : FrK w w' K) (n : Nat) : FrK w (w'.drewN n) K := ⟨h.os, h.tape, h.output, h.size, h.block⟩
theorem FrK.drew (h : FrK w w' K) : FrK w w'.drew K := ⟨h.os, h.tape, h.output, h.size, h.block⟩
theorem FrK.alloc (h : FrK w w' K) (o : Obj) : FrK w (w'.alloc o) K := h.trans (K' := Kno) ⟨rfl, rfl, rfl, by simp, fun b hb _ => Below.heap_alloc w' o b hb⟩ fun _ _ hf => hf.elim
theorem FrK.of_grown {r : Option Nat} (h : w.grownBy w' r) (hr : ∀ b, b < w.heap.size → r = some b → K b) : FrK w w' K :=
  ⟨h.os, h.tape, h.output, h.size, fun b hb hn => h.block b hb fun e => hn (hr b hb e.symm)⟩
theorem FrK.of_below {B : Nat} (h : Below B w w') (hB : w.heap.size ≤ B) (K : Nat → Prop) : FrK w w' K := ⟨h.os, h.tape, h.output, h.size, fun b hb _ => h.block b (Nat.lt_of_lt_of_le hb hB)⟩
theorem FrK.below {B : Nat} (h : FrK w w' K) (hB : B ≤ w.heap.size) (hk : ∀ b, K b → B ≤ b) : Below B w w' := ⟨h.os, h.tape, h.output, h.size, fun b hb => h.block b (Nat.lt_of_lt_of_le hb hB) fun hK => by have := hk b hK; omega⟩
theorem FrK.set (w : World) (g i : Nat) (u : Value) : FrK w (w.setCell ⟨g, i, none⟩ u) (Kis g) :=
  ⟨rfl, rfl, rfl, by simp [World.setCell], fun b _ hn => Below.heap_setCell w ⟨g, i, none⟩ u b hn⟩
theorem Kn.le {a b c : Nat} (h : b ≤ c) {x : Nat} (hx : Kn K a b x) : Kn K a c x := hx.elim .inl fun ⟨h1, h2⟩ => .inr ⟨h1, Nat.lt_of_lt_of_le h2 h⟩
theorem Kn.flat {a b c : Nat} (hab : a ≤ b) (hbc : b ≤ c) {x : Nat} (hx : Kn (Kn K a b) b c x) : Kn K a c x := by
  rcases hx with (h | ⟨h1, h2⟩) | ⟨h1, h2⟩
  · exact .inl h
  · exact .inr ⟨h1, by omega⟩
  · exact .inr ⟨by omega, h2⟩
theorem own_of {base : Nat} {t : TypeId} {k n : Nat} {v : Value} {xs : List Value} (h : w.ownsRow base t k v n xs) (hk : ∀ g, v.ownBlock = some g → w'.heap[g]? = w.heap[g]?) : w'.ownsRow base t k v n xs := by
  refine ⟨h.1, ?_⟩
  rcases h.2 with h1 | ⟨g, cap, cur, rfl, h2, h3, h4⟩
  · exact .inl h1
  · exact .inr ⟨g, cap, cur, rfl, h2, (hk g rfl).trans h3, h4⟩
end

/-! ### what is always so -/
/-- The names that a change is noted with, and their files. -/
def chgL (c : VChg) : List (ByteArray × Option Nat) :=
  match c.f with
  | some i => if c.gone = noT then [(c.name, some i)] else [(c.gone, none), (c.name, some i)]
  | none => [(c.gone, none)]
def VChg.Ok (c : VChg) (n : Nat) : Prop := (∀ i, c.f = some i → i < n ∧ c.gone ≠ c.name) ∧ (c.f = none → c.gone ≠ noT)
structure VSt.Ok (S : VSt) : Prop where
  syn : ∀ p ∈ S.syn, p.2 < S.fs.length
  synN : (S.syn.map (·.1)).Nodup
  chg : ∀ c ∈ S.chg, c.Ok S.fs.length
  inj : ∀ n, ((S.dirN n).map (·.2)).Nodup
  byt : ∀ x ∈ S.fs, Byt x.b ∧ x.s ≤ x.b.length
  fuse : -1 ≤ S.fuse ∧ S.fuse ≤ 9223372036854775807
  fault : -1 ≤ S.fault ∧ S.fault ≤ 9223372036854775807
/-- Pointers to files, or none. -/
abbrev fiV (fb : Nat → Nat) (i : Nat) : Value := ptV (fb i)
def fiO (fb : Nat → Nat) : Option Nat → Value
  | some i => ptV (fb i)
  | none => .pointer none
abbrev maV (b : Nat) : Value := .map (some b)
/-- Where all lies. -/
structure VMem where
  db : Nat
  sb : Nat
  cv : Value
  cms : List Nat
  fb : Nat → Nat
  bv : Nat → Value
  D : List (ByteArray × Nat)
  Y : List (ByteArray × Nat)
/-- The cells of a file system. -/
def fsC (S : VSt) (m : VMem) : Array Value := #[.bool true, .int .i64 S.limit, maV m.db, maV m.sb, m.cv, .bool S.off, .int .i64 S.fuse, .int .i64 S.fault, .int .i64 (S.err : Nat), .int .i64 (S.ops : Nat)]
section
variable {base F : Nat} {w w' : World} {K K' : Nat → Prop} {S : VSt} {m : VMem}
theorem ne_of_type {w : World} {a b : Nat} {t u : TypeId} {cs ds : Array Value} (h : Bk w a t cs) (h' : Bk w b u ds) (htu : t ≠ u) : a ≠ b := fun e => by
  rw [e] at h
  have := h.symm.trans h'
  injection this with h1
  injection h1 with h2 h3
  exact htu h3
theorem own_bk {base : Nat} {t : TypeId} {k n g : Nat} {v : Value} {xs : List Value} (h : w.ownsRow base t k v n xs) (hg : v.ownBlock = some g) : ∃ cur, Bk w g t cur := by
  rcases h.2 with ⟨rfl, -⟩ | ⟨g', cap, cur, rfl, h2, h3, h4⟩
  · cases hg
  · injection hg with e
    subst e
    exact ⟨cur, h3⟩
end
end Go.Proofs.Ytchpekidnbdpdaa


/- A region that draws its order, what it reads read ahead of the operation that writes it: a condition on the world up to a cut. -/
namespace Go.Proofs.Ytchpekidnbdpdaa
section
variable {P : Program} {ops : Array Oper} {Q : Exit → Act → World → Prop} {md : Region.Mode} {S : World → Prop} {k : Nat}
/-- Whatever order is picked; S holds behind each operation as long as number k has not come up. -/
def wpAnyK (P : Program) (md : Region.Mode) (ops : Array Oper) (Q : Exit → Act → World → Prop) (S : World → Prop) (k : Nat) : Nat → Array Bool → Act → World → Prop
  | 0, listed, a, w => Region.ready md ops listed = [] ∧ Q .normal a w
  | fuel + 1, listed, a, w =>
    (Region.ready md ops listed = [] → Q .normal a w) ∧
    ∀ i ∈ Region.ready md ops listed, wpOp P ops Q i (fun a' w' => ((listed.setIfInBounds i true).getD k true = false → S w') ∧ wpAnyK P md ops Q S k fuel (listed.setIfInBounds i true) a' w') a w
theorem wpAny_of_K : ∀ (fuel : Nat) (listed : Array Bool) (a : Act) (w : World), wpAnyK P md ops Q S k fuel listed a w → wpAny P md ops Q fuel listed a w
  | 0, _, _, _, h => h
  | fuel + 1, _, _, _, h => ⟨h.1, fun i hi => wpOp_mono (fun a' w' h' => wpAny_of_K fuel _ a' w' h'.2) (h.2 i hi)⟩
/-- Number k waits for number i. -/
def waitsB (md : Region.Mode) (ops : Array Oper) (k i : Nat) : Bool := ((ops[k]?).map fun o => o.after.any fun e => Region.binds md e && e.on == i).getD false
theorem wpAnyK_first {i : Nat} {oi : Oper} {v : Value} (hi : ops[i]? = some oi) (hsel : ∀ (j : Nat) (o : Oper) cs b, ops[j]? = some o → o.op ≠ .select cs b)
    (hQ : ∀ c a w, Q (.panic c) (a.put oi.dst v) w → Q (.panic c) a w) (hk : waitsB md ops k i = true) :
    ∀ (fuel : Nat) (listed : Array Bool) (a : Act) (w : World),
      (∀ j oj, ops[j]? = some oj → j ≠ i → listed.getD j true = false → (∀ e ∈ oj.after, Region.binds md e = true → e.on ≠ i) → oi.apart ops oj = true) →
      i ∈ Region.ready md ops listed → listed.getD k true = false → YieldsIf P ops S oi v a → S w →
      wpAnyK P md ops Q S k fuel (listed.setIfInBounds i true) (a.put oi.dst v) w → wpAnyK P md ops Q S k (fuel + 1) listed a w := by
  have hkj : ∀ (listed : Array Bool) (j : Nat), i ∈ Region.ready md ops listed → j ∈ Region.ready md ops listed → j ≠ k := fun listed j hr hj e => by
    subst e
    obtain ⟨-, oj, hoj, hall⟩ := mem_ready.1 hj
    unfold waitsB at hk
    rw [hoj] at hk
    simp only [Option.map_some, Option.getD_some] at hk
    obtain ⟨e, he, hb⟩ := Array.any_eq_true'.1 hk
    simp only [Bool.and_eq_true, beq_iff_eq] at hb
    have h1 := hall e he hb.1
    have h0 := (mem_ready.1 hr).1
    rw [hb.2] at h1
    rcases Nat.lt_or_ge i listed.size with h' | h'
    · simp [h'] at h0 h1
      rw [h0] at h1
      cases h1
    · simp [Array.getElem?_eq_none h'] at h1
  intro fuel
  induction fuel with
  | zero =>
    intro listed a w _ hr hl hy hS H
    refine ⟨fun h => (by rw [h] at hr; cases hr), fun j hj => ?_⟩
    by_cases hji : j = i
    · subst hji
      exact hy.wpOp hi hS ⟨fun _ => hS, H⟩
    · have := ready_mono hj hji
      rw [H.1] at this
      cases this
  | succ fuel ih =>
    intro listed a w hfree hr hl hy hS H
    refine ⟨fun h => (by rw [h] at hr; cases hr), fun j hj => ?_⟩
    by_cases hji : j = i
    · subst hji
      exact hy.wpOp hi hS ⟨fun _ => hS, H⟩
    · have hjk := hkj listed j hr hj
      have hik := hkj listed i hr hr
      have h1 := H.2 j (ready_mono hj hji)
      obtain ⟨hjun, oj, hoj, hall⟩ := mem_ready.1 hj
      have hnot : ∀ e ∈ oj.after, Region.binds md e = true → e.on ≠ i := fun e he hb heq => by
        have h1 := hall e he hb
        have h0 := (mem_ready.1 hr).1
        rw [heq] at h1
        rcases Nat.lt_or_ge i listed.size with h' | h'
        · simp [h'] at h0 h1
          rw [h0] at h1
          cases h1
        · simp [Array.getElem?_eq_none h'] at h1
      have h2 := wpOp_putIf hoj (hfree j oj hoj hji hjun hnot) (fun cs b => hsel i oi cs b hi) (fun cs b => hsel j oj cs b hoj) hQ hy h1
      have hfree' : ∀ k ok, ops[k]? = some ok → k ≠ i → (listed.setIfInBounds j true).getD k true = false →
          (∀ e ∈ ok.after, Region.binds md e = true → e.on ≠ i) → oi.apart ops ok = true := fun k ok hk hki hun hno => by
        refine hfree k ok hk hki ?_ hno
        by_cases hjk : j = k
        · subst hjk
          exact hjun
        · rw [getD_set_ne true hjk] at hun
          exact hun
      refine wpOp_mono (fun a' w' h3 => ?_) h2
      have hl1 : (listed.setIfInBounds j true).getD k true = false := by rw [getD_set_ne true hjk]; exact hl
      have hS' : S w' := h3.2.1 (by rw [getD_set_ne true hjk, getD_set_ne true hik]; exact hl)
      refine ⟨fun _ => hS', ih (listed.setIfInBounds j true) a' w' hfree' (ready_mono hr (Ne.symm hji)) hl1 h3.1 hS' ?_⟩
      rw [Array.setIfInBounds_comm _ _ hji]
      exact h3.2.2
/-- Take number i first. -/
theorem wpAnyK_take {i : Nat} {oi : Oper} {v : Value} {fuel : Nat} {listed : Array Bool} {a : Act} {w : World} (hi : ops[i]? = some oi)
    (hs : Region.noSelect ops = true) (hf : Region.free md ops listed i = true) (hr : (Region.ready md ops listed).contains i = true) (hk : waitsB md ops k i = true) (hl : listed.getD k true = false)
    (hQ : ∀ c a w, Q (.panic c) (a.put oi.dst v) w → Q (.panic c) a w) (hS : S w) (hw : Region.wanted oi (yielded ops a.tmps) = true) (hy : ∀ w, S w → (execOp a.eval oi).run P w = .ok (.value v) w)
    (h : wpAnyK P md ops Q S k fuel (listed.setIfInBounds i true) (a.put oi.dst v) w) : wpAnyK P md ops Q S k (fuel + 1) listed a w :=
  wpAnyK_first hi (Region.noSelect_spec hs) hQ hk fuel listed a w (Region.free_spec hi hf) (by simpa using hr) hl (.inl ⟨hw, hy⟩) hS h
/-- Number i alone may come up; behind it S is to be shown anew. -/
theorem wpAnyK_step {i : Nat} {oi : Oper} {fuel : Nat} {listed : Array Bool} {a : Act} {w : World} (hr : Region.ready md ops listed = [i]) (hi : ops[i]? = some oi)
    (hw : Region.wanted oi (yielded ops a.tmps) = true)
    (h : ∀ K' : Act → World → Prop, Shut (∀ a w, S w → (S w → wpAnyK P md ops Q S k fuel (listed.setIfInBounds i true) a w) → K' a w) → Oper.wp P oi a w K' Q) : wpAnyK P md ops Q S k (fuel + 1) listed a w := by
  refine ⟨fun h0 => absurd (hr.symm.trans h0) (by simp), fun j hj => ?_⟩
  rw [hr] at hj
  obtain rfl := List.mem_singleton.1 hj
  refine wpOp_step hi fun K' hK => ?_
  rw [if_pos hw]
  exact h K' fun a w hS hW => hK a w ⟨fun _ => hS, hW hS⟩
/-- Number k alone may come up: the cut. -/
theorem wpAnyK_cut {oi : Oper} {fuel : Nat} {listed : Array Bool} {a : Act} {w : World} (hr : Region.ready md ops listed = [k]) (hi : ops[k]? = some oi) (hkl : decide (k < listed.size) = true) (hd : Region.ready md ops (listed.setIfInBounds k true) = [])
    (hw : Region.wanted oi (yielded ops a.tmps) = true)
    (h : Oper.wp P oi a w (fun a' w' => Q .normal a' w') Q) : wpAnyK P md ops Q S k (fuel + 1) listed a w := by
  refine ⟨fun h0 => absurd (hr.symm.trans h0) (by simp), fun j hj => ?_⟩
  rw [hr] at hj
  obtain rfl := List.mem_singleton.1 hj
  refine wpOp_step hi fun K' hK => ?_
  rw [if_pos hw]
  refine Oper.wp_mono (fun a' w' h3 => hK a' w' ⟨fun h0 => ?_, ?_⟩) h
  · have h1 : (listed.setIfInBounds j true).getD j true = true := by simp [of_decide_eq_true hkl]
    rw [h1] at h0
    cases h0
  · cases fuel with
    | zero => exact ⟨hd, h3⟩
    | succ f => exact ⟨fun _ => h3, by rw [hd]; simp⟩
/-- What yields in whatever world is taken first, whatever waits for it. -/
theorem wpAnyK_first0 {i : Nat} {oi : Oper} {v : Value} (hi : ops[i]? = some oi) (hsel : ∀ (j : Nat) (o : Oper) cs b, ops[j]? = some o → o.op ≠ .select cs b)
    (hQ : ∀ c a w, Q (.panic c) (a.put oi.dst v) w → Q (.panic c) a w) (hik : i ≠ k) :
    ∀ (fuel : Nat) (listed : Array Bool) (a : Act) (w : World),
      (∀ j oj, ops[j]? = some oj → j ≠ i → listed.getD j true = false → (∀ e ∈ oj.after, Region.binds md e = true → e.on ≠ i) → oi.apart ops oj = true) →
      i ∈ Region.ready md ops listed → YieldsIf P ops (fun _ => True) oi v a → (listed.getD k true = false → S w) →
      wpAnyK P md ops Q S k fuel (listed.setIfInBounds i true) (a.put oi.dst v) w → wpAnyK P md ops Q S k (fuel + 1) listed a w := by
  have hset : ∀ listed : Array Bool, (listed.setIfInBounds i true).getD k true = listed.getD k true := fun listed => getD_set_ne true hik
  intro fuel
  induction fuel with
  | zero =>
    intro listed a w _ hr hy hS H
    refine ⟨fun h => (by rw [h] at hr; cases hr), fun j hj => ?_⟩
    by_cases hji : j = i
    · subst hji
      exact hy.wpOp hi trivial ⟨fun e => hS (by rw [← hset]; exact e), H⟩
    · have := ready_mono hj hji
      rw [H.1] at this
      cases this
  | succ fuel ih =>
    intro listed a w hfree hr hy hS H
    refine ⟨fun h => (by rw [h] at hr; cases hr), fun j hj => ?_⟩
    by_cases hji : j = i
    · subst hji
      exact hy.wpOp hi trivial ⟨fun e => hS (by rw [← hset]; exact e), H⟩
    · have h1 := H.2 j (ready_mono hj hji)
      obtain ⟨hjun, oj, hoj, hall⟩ := mem_ready.1 hj
      have hnot : ∀ e ∈ oj.after, Region.binds md e = true → e.on ≠ i := fun e he hb heq => by
        have h1 := hall e he hb
        have h0 := (mem_ready.1 hr).1
        rw [heq] at h1
        rcases Nat.lt_or_ge i listed.size with h' | h'
        · simp [h'] at h0 h1
          rw [h0] at h1
          cases h1
        · simp [Array.getElem?_eq_none h'] at h1
      have h2 := wpOp_putIf hoj (hfree j oj hoj hji hjun hnot) (fun cs b => hsel i oi cs b hi) (fun cs b => hsel j oj cs b hoj) hQ hy h1
      have hfree' : ∀ k ok, ops[k]? = some ok → k ≠ i → (listed.setIfInBounds j true).getD k true = false →
          (∀ e ∈ ok.after, Region.binds md e = true → e.on ≠ i) → oi.apart ops ok = true := fun k ok hk hki hun hno => by
        refine hfree k ok hk hki ?_ hno
        by_cases hjk : j = k
        · subst hjk
          exact hjun
        · rw [getD_set_ne true hjk] at hun
          exact hun
      have hcomm : (listed.setIfInBounds i true).setIfInBounds j true = (listed.setIfInBounds j true).setIfInBounds i true := Array.setIfInBounds_comm _ _ (Ne.symm hji)
      refine wpOp_mono (fun a' w' h3 => ?_) h2
      have hS' : (listed.setIfInBounds j true).getD k true = false → S w' := fun e => h3.2.1 (by rw [hcomm, hset]; exact e)
      refine ⟨hS', ih (listed.setIfInBounds j true) a' w' hfree' (ready_mono hr (Ne.symm hji)) h3.1 hS' ?_⟩
      rw [Array.setIfInBounds_comm _ _ hji]
      exact h3.2.2
theorem wpAnyK_take0 {i : Nat} {oi : Oper} {v : Value} {fuel : Nat} {listed : Array Bool} {a : Act} {w : World} (hi : ops[i]? = some oi)
    (hs : Region.noSelect ops = true) (hf : Region.free md ops listed i = true) (hr : (Region.ready md ops listed).contains i = true) (hik : decide (i = k) = false)
    (hQ : ∀ c a w, Q (.panic c) (a.put oi.dst v) w → Q (.panic c) a w) (hS : S w) (hw : Region.wanted oi (yielded ops a.tmps) = true) (hy : ∀ w, (execOp a.eval oi).run P w = .ok (.value v) w)
    (h : wpAnyK P md ops Q S k fuel (listed.setIfInBounds i true) (a.put oi.dst v) w) : wpAnyK P md ops Q S k (fuel + 1) listed a w :=
  wpAnyK_first0 hi (Region.noSelect_spec hs) hQ (by simpa using hik) fuel listed a w (Region.free_spec hi hf) (by simpa using hr) (.inl ⟨hw, fun w _ => hy w⟩) (fun _ => hS) h
/-- Behind the cut nothing is asked. -/
theorem wpAnyK_of_any : ∀ (fuel : Nat) (listed : Array Bool) (a : Act) (w : World), listed.getD k true = true → wpAny P md ops Q fuel listed a w → wpAnyK P md ops Q S k fuel listed a w
  | 0, _, _, _, _, h => h
  | fuel + 1, listed, _, _, hk, h => ⟨h.1, fun i hi => wpOp_mono (fun a' w' h' => by
      have h1 : (listed.setIfInBounds i true).getD k true = true := by
        by_cases e : i = k
        · subst e
          by_cases hl : i < listed.size
          · simp [hl]
          · simp [hl]
        · rw [getD_set_ne true e]
          exact hk
      exact ⟨fun e => (by rw [h1] at e; cases e), wpAnyK_of_any fuel _ a' w' h1 h'⟩) (h.2 i hi)⟩
/-- Number k alone may come up; others may follow. -/
theorem wpAnyK_cut2 {oi : Oper} {fuel : Nat} {listed : Array Bool} {a : Act} {w : World} (hr : Region.ready md ops listed = [k]) (hi : ops[k]? = some oi) (hkl : decide (k < listed.size) = true)
    (hw : Region.wanted oi (yielded ops a.tmps) = true)
    (h : ∀ K' : Act → World → Prop, Shut (∀ a w, wpAny P md ops Q fuel (listed.setIfInBounds k true) a w → K' a w) → Oper.wp P oi a w K' Q) : wpAnyK P md ops Q S k (fuel + 1) listed a w := by
  refine ⟨fun h0 => absurd (hr.symm.trans h0) (by simp), fun j hj => ?_⟩
  rw [hr] at hj
  obtain rfl := List.mem_singleton.1 hj
  refine wpOp_step hi fun K' hK => ?_
  rw [if_pos hw]
  have h1 : (listed.setIfInBounds j true).getD j true = true := by simp [of_decide_eq_true hkl]
  exact h K' fun a' w' h3 => hK a' w' ⟨fun h0 => (by rw [h1] at h0; cases h0), wpAnyK_of_any _ _ _ _ h1 h3⟩
/-- Number i alone is left. -/
theorem wpAny_last {i : Nat} {oi : Oper} {fuel : Nat} {listed : Array Bool} {a : Act} {w : World} (hr : Region.ready md ops listed = [i]) (hi : ops[i]? = some oi) (hd : Region.ready md ops (listed.setIfInBounds i true) = [])
    (hw : Region.wanted oi (yielded ops a.tmps) = true) (h : Oper.wp P oi a w (fun a' w' => Q .normal a' w') Q) : wpAny P md ops Q (fuel + 1) listed a w := by
  refine ⟨fun h0 => absurd (hr.symm.trans h0) (by simp), fun j hj => ?_⟩
  rw [hr] at hj
  obtain rfl := List.mem_singleton.1 hj
  refine wpOp_step hi fun K' hK => ?_
  rw [if_pos hw]
  refine Oper.wp_mono (fun a' w' h3 => hK a' w' ?_) h
  cases fuel with
  | zero => exact ⟨hd, h3⟩
  | succ f => exact ⟨fun _ => h3, by rw [hd]; simp⟩
/-- The beginning. -/
theorem wp_region_K {id : Nat} {a : Act} {w : World} (hm : P.follows .mixedOrders = true) (hS : S w.drew)
    (h : S w.drew → wpAnyK P .any ops Q S k ops.size (Array.replicate ops.size false) a w.drew) : (Code.region id ops true).wp P Q a w :=
  wp_region_any hm (wpAny_of_K _ _ _ _ (h hS))
end
end Go.Proofs.Ytchpekidnbdpdaa

/- Frames: more words. -/
namespace Go.Proofs.Ytchpekidnbdpdaa
open Go.RowKit
theorem FrK.bk {w w' : World} {K : Nat → Prop} {g : Nat} {t : TypeId} {cs : Array Value} (h : FrK w w' K) (hb : Bk w g t cs) (hk : ¬K g) : Bk w' g t cs := (h.block g hb.lt hk).trans hb
theorem own_form {w : World} {base : Nat} {t : TypeId} {k n : Nat} {v : Value} {xs : List Value} (h : w.ownsRow base t k v n xs) : ∃ A c, v = .slice A n c ∧ n ≤ c ∧ (A = none → n = 0 ∧ c = 0) := by
  rcases h.2 with ⟨rfl, rfl⟩ | ⟨g, cap, cur, rfl, h2, h3, h4, h5⟩
  · exact ⟨none, 0, rfl, Nat.le_refl _, fun _ => ⟨rfl, rfl⟩⟩
  · exact ⟨_, cap, rfl, h4, fun e => by cases e⟩
theorem Rd.frK {w w' : World} {B : Nat} {A : Option Addr} {xs : List Value} {K : Nat → Prop} (h : Rd w B A xs) (hf : FrK w w' K) (hk : ∀ a, A = some a → ¬K a.block) (hB : B ≤ w.heap.size) : Rd w' B A xs := fun hn => by
  obtain ⟨b, o, rfl, hb, hc⟩ := h hn
  exact ⟨b, o, rfl, hb, fun j u hj => (World.cell?_of_block (a := ⟨b, o + j, none⟩) (hf.block b (by omega) (hk _ rfl))).trans (hc j u hj)⟩
end Go.Proofs.Ytchpekidnbdpdaa
