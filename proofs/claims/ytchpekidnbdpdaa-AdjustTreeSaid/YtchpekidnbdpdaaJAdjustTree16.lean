/- Texts of the proof of AdjustTreeSaid, joined: AjE AjF. -/
import Derived.Test.YtchpekidnbdpdaaJAdjustTree11
import Derived.Test.YtchpekidnbdpdaaJAdjustTree15
import Derived.Test.YtchpekidnbdpdaaJAdjustTree9
/- Layer 21, plain: no span of Up is on a cycle: each has a way from a root. -/
namespace Go.Proofs.Ytchpekidnbdpdaa
open Go.RowKit

theorem upsTo_at (u : List Sp) : ∀ n, n ≤ u.length → ∀ (i : Nat) (x : Sp), i < n → u[i]? = some x → (upsTo u n)[i]? = some (upOf u i x)
  | 0, _, i, x, h, _ => by omega
  | n + 1, hn, i, x, h, hx => by
    rw [upsTo_step (List.getElem?_eq_getElem (show n < u.length by omega))]
    have hl := upsTo_len u n (by omega)
    by_cases e : i = n
    · subst e
      rw [List.getElem?_append_right (by omega), hl, Nat.sub_self]
      rw [List.getElem?_eq_getElem (show i < u.length by omega)] at hx
      cases hx
      rfl
    · rw [List.getElem?_append_left (by omega)]
      exact upsTo_at u n (by omega) i x (by omega) hx
theorem ups_len (l : List Sp) : (ups l).length = (uniq l).length := upsTo_len _ _ (Nat.le_refl _)
theorem ups_at {l : List Sp} {i : Nat} {x : Sp} (h : (uniq l)[i]? = some x) : (ups l)[i]? = some (upOf (uniq l) i x) := upsTo_at _ _ (Nat.le_refl _) i x (List.getElem?_eq_some_iff.1 h).1 h
theorem ups_inv {l : List Sp} {i : Nat} {a : Ad} (h : (ups l)[i]? = some a) : ∃ x, (uniq l)[i]? = some x ∧ a = upOf (uniq l) i x := by
  have hi := (List.getElem?_eq_some_iff.1 h).1
  rw [ups_len] at hi
  have hx := List.getElem?_eq_getElem hi
  rw [ups_at hx] at h
  exact ⟨_, hx, (Option.some.inj h).symm⟩
theorem ups_oneId (l : List Sp) : OneId (ups l) := by
  have h1 : (ups l).map (·.s.id) = (uniq l).map (·.id) := by rw [← ups_s l, List.map_map]; rfl
  unfold OneId
  rw [h1, List.nodup_iff_pairwise_ne, List.pairwise_map]
  exact (uniq_ris l).imp fun h => by omega
/-- One of Up that is under another: it is its parent, that is there. -/
theorem upOf_up {u : List Sp} {i : Nat} {x : Sp} (h : (upOf u i x).up ≠ 0) : x.parent ≠ 0 ∧ ¬ plc u x.parent < 0 ∧ cyc u i x = false ∧ upOf u i x = ⟨x, x.parent, 0, 0⟩ := by
  unfold upOf at h ⊢
  by_cases h1 : x.parent = 0
  · rw [if_pos h1] at h; exact absurd rfl h
  · rw [if_neg h1] at h ⊢
    by_cases h2 : plc u x.parent < 0
    · rw [if_pos h2] at h; exact absurd rfl h
    · rw [if_neg h2] at h ⊢
      cases h3 : cyc u i x with
      | true => rw [h3, if_pos rfl] at h; exact absurd rfl h
      | false => exact ⟨h1, h2, rfl, by simp⟩
theorem upOf_root {u : List Sp} {i : Nat} {x : Sp} (h : (upOf u i x).up = 0) : (x.parent = 0 ∧ (upOf u i x).flag = 0) ∨ (x.parent ≠ 0 ∧ (upOf u i x).flag ≠ 0) := by
  unfold upOf at h ⊢
  by_cases h1 : x.parent = 0
  · rw [if_pos h1]; exact .inl ⟨h1, rfl⟩
  · rw [if_neg h1] at h ⊢
    right
    refine ⟨h1, ?_⟩
    by_cases h2 : plc u x.parent < 0
    · rw [if_pos h2]; show (1 : Int) ≠ 0; omega
    · rw [if_neg h2] at h ⊢
      by_cases h3 : cyc u i x = true
      · rw [if_pos h3]; show (2 : Int) ≠ 0; omega
      · rw [if_neg h3] at h; exact absurd h h1

/-- A step: to whom it is under. -/
def nxU (o : List Ad) (i : Nat) : Nat := match o[i]? with | some x => (posA o x.up).getD i | none => i
def nxUs (o : List Ad) : Nat → Nat → Nat
  | 0, i => i
  | k + 1, i => nxU o (nxUs o k i)
/-- One without a way is under one without a way. -/
theorem lost_step {l : List Sp} {i : Nat} (hi : i < (ups l).length) (h : pth (ups l) (ups l).length i = none) :
    ∃ x y j, (uniq l)[i]? = some x ∧ (ups l)[i]? = some ⟨x, x.parent, 0, 0⟩ ∧ x.parent ≠ 0 ∧ cyc (uniq l) i x = false ∧ (uniq l)[j]? = some y ∧ y.id = x.parent ∧ nxU (ups l) i = j ∧ j < (ups l).length ∧ pth (ups l) (ups l).length j = none := by
  have hi2 : i < (uniq l).length := by rw [← ups_len]; exact hi
  obtain ⟨x, hx⟩ : ∃ x, (uniq l)[i]? = some x := ⟨_, List.getElem?_eq_getElem hi2⟩
  have hu := ups_at hx
  have h0 : (upOf (uniq l) i x).up ≠ 0 := fun h0 => by
    have := (pth_all (pth_root (k := 0) hu h0)).2
    rw [h] at this; cases this
  obtain ⟨h1, h2, h3, h4⟩ := upOf_up h0
  rw [h4] at hu
  obtain ⟨j, y, e1, e2, e3⟩ := plc_at h2
  have huj := ups_at e2
  have hp : posA (ups l) x.parent = some j := by
    have := posA_of (ups_oneId l) huj
    rw [upOf_s, e3] at this
    exact this
  refine ⟨x, y, j, hx, hu, h1, h3, e2, e3, by unfold nxU; rw [hu]; simp only; rw [hp]; rfl, (List.getElem?_eq_some_iff.1 huj).1, ?_⟩
  cases hq : pth (ups l) (ups l).length j with
  | none => rfl
  | some q =>
    have := (pth_all (k := (ups l).length + 1) (i := i) (p := q ++ [i]) (by rw [pth_up hu h1 hp, hq]; rfl)).2
    rw [h] at this; cases this
theorem least_of (f : Nat → Nat) (s : Nat) : ∀ n, ∃ m, s ≤ m ∧ m ≤ s + n ∧ ∀ k, s ≤ k → k ≤ s + n → f m ≤ f k
  | 0 => ⟨s, Nat.le_refl _, Nat.le_refl _, fun k h1 h2 => (by rw [show k = s by omega]; exact Nat.le_refl _)⟩
  | n + 1 => by
    obtain ⟨m, h1, h2, h3⟩ := least_of f s n
    by_cases h : f (s + n + 1) < f m
    · refine ⟨s + n + 1, by omega, by omega, fun k h4 h5 => ?_⟩
      by_cases e : k = s + n + 1
      · subst e; exact Nat.le_refl _
      · have := h3 k h4 (by omega); omega
    · refine ⟨m, h1, by omega, fun k h4 h5 => ?_⟩
      by_cases e : k = s + n + 1
      · subst e; omega
      · exact h3 k h4 (by omega)
theorem nxUs_add (o : List Ad) (a b i : Nat) : nxUs o (a + b) i = nxUs o a (nxUs o b i) := by
  induction a with
  | zero => rw [Nat.zero_add]; rfl
  | succ a ih => rw [Nat.succ_add]; show nxU o (nxUs o (a + b) i) = nxU o (nxUs o a (nxUs o b i)); rw [ih]
/-- **Each span of Up has a way.** -/
theorem ups_way (l : List Sp) {i : Nat} (hi : i < (ups l).length) : ∃ p, pth (ups l) (ups l).length i = some p := by
  cases h : pth (ups l) (ups l).length i with
  | some p => exact ⟨p, rfl⟩
  | none =>
    exfalso
    -- all that it comes to are lost
    have hall : ∀ k, nxUs (ups l) k i < (ups l).length ∧ pth (ups l) (ups l).length (nxUs (ups l) k i) = none := by
      intro k
      induction k with
      | zero => exact ⟨hi, h⟩
      | succ k ih =>
        obtain ⟨x, y, j, -, -, -, -, -, -, e, h1, h2⟩ := lost_step ih.1 ih.2
        show nxU (ups l) (nxUs (ups l) k i) < _ ∧ pth _ _ (nxU (ups l) (nxUs (ups l) k i)) = none
        rw [e]
        exact ⟨h1, h2⟩
    -- two of them are one
    have hrep : ∃ s t, s < t ∧ t ≤ (ups l).length ∧ nxUs (ups l) s i = nxUs (ups l) t i := by
      apply Classical.byContradiction
      intro hno
      have hnd : ((List.range ((ups l).length + 1)).map fun k => nxUs (ups l) k i).Nodup := by
        rw [List.nodup_iff_pairwise_ne, List.pairwise_map, List.pairwise_iff_getElem]
        intro a b ha hb hab e
        rw [List.length_range] at ha hb
        rw [List.getElem_range, List.getElem_range] at e
        exact hno ⟨a, b, hab, by omega, e⟩
      have := nodup_lt hnd (n := (ups l).length) fun x hx => by
        obtain ⟨k, -, rfl⟩ := List.mem_map.1 hx
        exact (hall k).1
      rw [List.length_map, List.length_range] at this
      omega
    obtain ⟨s, t, hst, htl, hst2⟩ := hrep
    -- the one of the least ID on the cycle
    obtain ⟨m, m1, m2, m3⟩ := least_of (fun k => match (uniq l)[nxUs (ups l) k i]? with | some x => x.id | none => 0) s (t - s - 1)
    have hper : ∀ d, nxUs (ups l) (s + d) i = nxUs (ups l) (t + d) i := fun d => by
      rw [Nat.add_comm s d, Nat.add_comm t d, nxUs_add, nxUs_add, hst2]
    have hmod : ∀ k, ∃ q, s ≤ q ∧ q ≤ s + (t - s - 1) ∧ nxUs (ups l) (s + k) i = nxUs (ups l) q i := by
      intro k
      induction k using Nat.strongRecOn with
      | _ k ih =>
        by_cases hk : k < t - s
        · exact ⟨s + k, by omega, by omega, rfl⟩
        · obtain ⟨q, q1, q2, q3⟩ := ih (k - (t - s)) (by omega)
          refine ⟨q, q1, q2, ?_⟩
          rw [← q3, hper (k - (t - s))]
          congr 1
          omega
    obtain ⟨x0, y0, j0, hx0, hu0, hp0, hc0, hy0, he0, hn0, hl0, hq0⟩ := lost_step (hall m).1 (hall m).2
    have hmin : ∀ k x, (uniq l)[nxUs (ups l) (m + k) i]? = some x → x0.id ≤ x.id := by
      intro k x hx
      obtain ⟨q, q1, q2, q3⟩ := hmod (m - s + k)
      rw [show s + (m - s + k) = m + k by omega] at q3
      have := m3 q q1 q2
      rw [hx0, ← q3, hx] at this
      exact this
    have hback : nxUs (ups l) (m + (t - s)) i = nxUs (ups l) m i := by
      have := hper (m - s)
      rw [show s + (m - s) = m by omega, show t + (m - s) = m + (t - s) by omega] at this
      exact this.symm
    -- the search from it comes back
    have hgo : ∀ d, d < t - s → ∀ x, (uniq l)[nxUs (ups l) (m + (t - s - d)) i]? = some x → cycX (uniq l) (nxUs (ups l) m i) x0 (d + 1) x.id = true := by
      intro d
      induction d with
      | zero =>
        intro _ x hx
        rw [Nat.sub_zero, hback, hx0] at hx
        cases hx
        rw [cycX_step (uniq_ris l) hx0 hp0 (plc_here (uniq_ris l) hx0) hx0 rfl, if_neg (by omega), if_pos rfl]
      | succ d ih =>
        intro hd x hx
        have hge := hmin _ x hx
        obtain ⟨x', y, j, hx', -, hp, -, hy, he, hn, -, -⟩ := lost_step (hall (m + (t - s - (d + 1)))).1 (hall (m + (t - s - (d + 1)))).2
        rw [hx] at hx'; cases hx'
        have hj : nxUs (ups l) (m + (t - s - d)) i = j := by
          rw [show m + (t - s - d) = (m + (t - s - (d + 1))) + 1 by omega]
          exact hn
        have := ih (by omega) y (by rw [hj]; exact hy)
        rw [cycX_step (uniq_ris l) hx0 hp0 (plc_here (uniq_ris l) hx) hx rfl, if_neg (by omega)]
        by_cases e : x.id = x0.id
        · rw [if_pos e]
        · rw [if_neg e, if_neg hp, ← he]
          exact this
    have h1 : (uniq l)[nxUs (ups l) (m + (t - s - (t - s - 1))) i]? = some y0 := by
      rw [show m + (t - s - (t - s - 1)) = m + 1 by omega]
      show (uniq l)[nxU (ups l) (nxUs (ups l) m i)]? = _
      rw [hn0]
      exact hy0
    have h2 := hgo (t - s - 1) (by omega) y0 h1
    rw [he0] at h2
    have h3 := cycX_mono (uniq_ris l) hx0 hp0 h2 ((uniq l).length + 1) (by rw [← ups_len]; omega)
    rw [show cyc (uniq l) (nxUs (ups l) m i) x0 = cycX (uniq l) (nxUs (ups l) m i) x0 ((uniq l).length + 1) x0.parent from rfl, h3] at hc0
    cases hc0
end Go.Proofs.Ytchpekidnbdpdaa


/- Layer 21, plain: what Adjust answers is a tree, whose times can be; it does not depend on the order of spans, nor on spans that come again. -/
namespace Go.Proofs.Ytchpekidnbdpdaa
open Go.RowKit

theorem adjS_ok {l : List Sp} (h : (adjS l).2 = 0) : l ≠ [] ∧ l.length ≤ 64 ∧ spErr l = 0 ∧ oneTr l = true ∧ (adjS l).1 = fins (ups l) := by
  unfold adjS at h ⊢
  by_cases h0 : l.length = 0
  · rw [if_pos h0] at h; cases h
  rw [if_neg h0] at h ⊢
  by_cases h1 : 64 < l.length
  · rw [if_pos h1] at h; cases h
  rw [if_neg h1] at h ⊢
  by_cases h2 : spErr l ≠ 0
  · rw [if_pos h2] at h; exact absurd h h2
  rw [if_neg h2] at h ⊢
  by_cases h3 : oneTr l = false
  · rw [if_pos h3] at h; cases h
  rw [if_neg h3]
  exact ⟨fun e => h0 (by rw [e]; rfl), by omega, Decidable.not_not.1 h2, by simpa using h3, ajAll_fins (ups_oneId l)⟩
theorem adjS_bad {l : List Sp} (h : (adjS l).2 ≠ 0) : (adjS l).1 = [] := by
  unfold adjS at h ⊢
  split
  · rfl
  · split
    · rfl
    · split
      · rfl
      · split
        · rfl
        · rw [if_neg ‹_›, if_neg ‹_›, if_neg ‹_›, if_neg ‹_›] at h; exact absurd rfl h

/-! Moved spans are good. -/
theorem upOf_good {u : List Sp} {i : Nat} {x : Sp} (ht : x.Tim) (hu : x.U64) : AdGood (upOf u i x) :=
  ⟨by rw [upOf_s]; exact ht, by rw [upOf_shift]; omega, by rw [upOf_shift]; omega, upOf_ok hu⟩
theorem fng_good {o : List Ad} (hg : ∀ a ∈ o, AdGood a) : ∀ {k i : Nat} {v : Ad}, fng o k i = some v → AdGood v
  | 0, _, _, h => by cases h
  | k + 1, i, v, h => by
    cases hx : o[i]? with
    | none => simp only [fng, hx] at h; cases h
    | some x =>
      by_cases hu : x.up = 0
      · rw [fng_root hx hu] at h; rw [← Option.some.inj h]; exact hg x (List.mem_of_getElem? hx)
      · cases hj : posA o x.up with
        | none => simp only [fng, hx] at h; rw [if_neg hu, hj] at h; cases h
        | some j =>
          rw [fng_up hx hu hj] at h
          cases hq : fng o k j with
          | none => rw [hq] at h; cases h
          | some q =>
            rw [hq] at h; cases h
            exact mvAd_good (hg x (List.mem_of_getElem? hx)) (fng_good hg hq)

/-! Find, Depth. -/
def fndA (x : List Ad) (id : Nat) : Option Ad := x.find? fun a => decide (a.s.id = id)
def dptG (x : List Ad) : Nat → Nat → Ad → Int
  | 0, _, _ => -1
  | f + 1, n, a => if a.up = 0 then (n : Int) else match fndA x a.up with
    | none => (n : Int)
    | some b => dptG x f (n + 1) b
def dptA (x : List Ad) (id : Nat) : Int := match fndA x id with
  | none => -1
  | some a => dptG x (x.length + 1) 0 a
theorem fndA_at {x : List Ad} (h : OneId x) {j : Nat} {y : Ad} (hy : x[j]? = some y) : fndA x y.s.id = some y := by
  cases hf : fndA x y.s.id with
  | none =>
    have := List.find?_eq_none.1 hf y (List.mem_of_getElem? hy)
    simp at this
  | some z =>
    have h1 : z ∈ x := List.mem_of_find?_eq_some hf
    have h2 : z.s.id = y.s.id := of_decide_eq_true (List.find?_some (p := fun a : Ad => decide (a.s.id = y.s.id)) hf)
    obtain ⟨k, hk⟩ := List.getElem?_of_mem h1
    have := oneId_at h hk hy h2
    subst this
    rw [hk] at hy
    exact hy
theorem fins_inv {o : List Ad} {i : Nat} {a : Ad} (h : (fins o)[i]? = some a) : ∃ x, o[i]? = some x ∧ a = finA o i x := by
  have hi := (List.getElem?_eq_some_iff.1 h).1
  rw [fins_len] at hi
  have hx := List.getElem?_eq_getElem hi
  rw [fins_at hx] at h
  exact ⟨_, hx, (Option.some.inj h).symm⟩
theorem finA_keep {o : List Ad} {i : Nat} {x : Ad} (h : o[i]? = some x) : (finA o i x).s.id = x.s.id ∧ (finA o i x).up = x.up ∧ (finA o i x).flag = x.flag ∧ (finA o i x).s.parent = x.s.parent := by
  rw [finA]
  cases hf : fng o o.length i with
  | none => exact ⟨rfl, rfl, rfl, rfl⟩
  | some v => exact fng_keep hf h
theorem fins_oneId {o : List Ad} (h : OneId o) : OneId (fins o) := by
  have e : (fins o).map (·.s.id) = o.map (·.s.id) := List.ext_getElem? fun i => by
    rw [List.getElem?_map, List.getElem?_map]
    cases hx : o[i]? with
    | none => rw [List.getElem?_eq_none (by rw [fins_len]; exact List.getElem?_eq_none_iff.1 hx)]
    | some x => rw [fins_at hx]; show some (finA o i x).s.id = some x.s.id; rw [(finA_keep hx).1]
  unfold OneId
  rw [e]
  exact h
theorem dptG_way {o : List Ad} (ho : OneId o) : ∀ {k i : Nat} {p : List Nat} {x : Ad}, pth o k i = some p → o[i]? = some x → ∀ f n, k ≤ f → 0 ≤ dptG (fins o) f n (finA o i x)
  | 0, _, _, _, h, _, _, _, _ => by cases h
  | k + 1, i, p, x, h, hx, f, n, hf => by
    obtain ⟨f, rfl⟩ : ∃ f', f = f' + 1 := ⟨f - 1, by omega⟩
    rw [dptG, (finA_keep hx).2.1]
    obtain ⟨x', hx', h2⟩ := pth_inv h
    rw [hx] at hx'; cases hx'
    rcases h2 with ⟨hu, -⟩ | ⟨hu, j, q, hj, hq, -⟩
    · rw [if_pos hu]; omega
    · rw [if_neg hu]
      obtain ⟨y, hy, he⟩ := posA_lt hj
      have h3 := fndA_at (fins_oneId ho) (fins_at hy)
      rw [(finA_keep hy).1, he] at h3
      rw [h3]
      exact dptG_way ho hq hy f (n + 1) (by omega)
/-- What the statement asks of the i-th. -/
structure TreeAt (x : List Ad) (i : Nat) (a : Ad) : Prop where
  dpt : 0 ≤ dptA x a.s.id
  lo : 0 ≤ a.s.start
  hi : a.s.start + a.s.length ≤ 4611686018427387903
  len : 0 ≤ a.s.length ∧ a.s.length ≤ 4611686018427387903
  root : a.up = 0 → a.shift = 0 ∧ (a.s.parent = 0 ↔ a.flag = 0)
  under : a.up ≠ 0 → ∃ p, fndA x a.up = some p ∧ a.up = a.s.parent ∧ a.flag = 0 ∧ 0 ≤ p.s.start ∧ p.s.start + p.s.length ≤ 4611686018427387903 ∧ 0 ≤ p.s.length ∧
    (a.s.service ≠ p.s.service → a.s.length ≤ p.s.length → p.s.start ≤ a.s.start ∧ a.s.start + a.s.length ≤ p.s.start + p.s.length) ∧ (a.s.service = p.s.service → a.shift = p.shift)
theorem adjS_tree {l : List Sp} (h : (adjS l).2 = 0) (hu : ∀ s ∈ l, s.U64) : ∀ (i : Nat) (a : Ad), (adjS l).1[i]? = some a → TreeAt (adjS l).1 i a := by
  obtain ⟨h1, h2, h3, h4, h5⟩ := adjS_ok h
  rw [h5]
  intro i a ha
  obtain ⟨x, hx, rfl⟩ := fins_inv ha
  have ho := ups_oneId l
  obtain ⟨s, hs, rfl⟩ := ups_inv hx
  have hsl : s ∈ l := uniqTo_mem _ _ s (List.mem_of_getElem? hs)
  have hgood : ∀ b ∈ ups l, AdGood b := fun b hb => by
    obtain ⟨j, y, hy, rfl⟩ := upsTo_mem _ _ b hb
    have hyl : y ∈ l := uniqTo_mem _ _ y (List.mem_of_getElem? hy)
    exact upOf_good (spChk_parts (spErr_zero h3 y hyl)).1 (hu y hyl)
  obtain ⟨p, hp⟩ := ups_way l (List.getElem?_eq_some_iff.1 hx).1
  have hv := fng_pth (o := ups l) (ups l).length i
  rw [hp] at hv
  cases hf : fng (ups l) (ups l).length i with
  | none => rw [hf] at hv; cases hv
  | some v =>
  have ev : finA (ups l) i (upOf (uniq l) i s) = v := finA_of hf
  have gv := fng_good hgood hf
  have kp := finA_keep hx
  rw [ev] at kp
  obtain ⟨k1, k2, k3, k4⟩ := kp
  rw [upOf_s] at k1 k4
  have hdpt : 0 ≤ dptA (fins (ups l)) (finA (ups l) i (upOf (uniq l) i s)).s.id := by
    rw [dptA, fndA_at (fins_oneId ho) (fins_at hx), fins_len]
    exact dptG_way ho hp hx _ _ (Nat.le_succ _)
  rw [ev] at hdpt ⊢
  refine ⟨hdpt, gv.tim.s0, gv.tim.sum, ⟨gv.tim.l0, by have := gv.tim.s0; have := gv.tim.sum; omega⟩, fun h0 => ?_, fun h0 => ?_⟩
  · rw [k2] at h0
    have e := root_fin hx h0
    rw [ev] at e
    refine ⟨by rw [e, upOf_shift], ?_⟩
    rw [k3, k4]
    rcases upOf_root h0 with ⟨a1, a2⟩ | ⟨a1, a2⟩
    · exact ⟨fun _ => a2, fun _ => a1⟩
    · exact ⟨fun h => absurd h a1, fun h => absurd h a2⟩
  · rw [k2] at h0
    obtain ⟨b1, b2, b3, b4⟩ := upOf_up h0
    obtain ⟨j, y, e1, e2, e3⟩ := plc_at b2
    have hyu := ups_at e2
    have hyi : (upOf (uniq l) j y).s.id = s.parent := by rw [upOf_s]; exact e3
    obtain ⟨q, hq⟩ := ups_way l (List.getElem?_eq_some_iff.1 hyu).1
    have hup : (upOf (uniq l) i s).up = (upOf (uniq l) j y).s.id := by rw [hyi, b4]
    have ek := kid_fin ho hyu (by rw [hyi]; exact b1) hq hx hup
    rw [ev] at ek
    have hfj := fndA_at (fins_oneId ho) (fins_at hyu)
    rw [(finA_keep hyu).1] at hfj
    have hw := fng_pth (o := ups l) (ups l).length j
    rw [hq] at hw
    cases hfj2 : fng (ups l) (ups l).length j with
    | none => rw [hfj2] at hw; cases hw
    | some w =>
    have ew : finA (ups l) j (upOf (uniq l) j y) = w := finA_of hfj2
    have gw := fng_good hgood hfj2
    rw [ew] at ek hfj
    refine ⟨w, by rw [k2, hup]; exact hfj, by rw [k2, k4, b4], by rw [k3, b4], gw.tim.s0, gw.tim.sum, gw.tim.l0, fun c1 c2 => ?_, fun c1 => ?_⟩
    · have t1 := (spChk_parts (spErr_zero h3 s hsl)).1
      have g1 := t1.s0; have g2 := t1.l0; have g3 := t1.sum
      have w1 := gw.tim.s0; have w2 := gw.tim.l0; have w3 := gw.tim.sum
      rw [ek] at c1 c2 ⊢
      unfold mvAd at c1 c2 ⊢
      rw [upOf_s] at c1 c2 ⊢
      simp only at c1 c2 ⊢
      have es : shiftS s w = if w.s.start ≤ s.start ∧ s.start + s.length ≤ w.s.start + w.s.length then 0 else w.s.start + (w.s.length - s.length) / 2 - s.start := by
        unfold shiftS
        rw [if_neg c1, if_neg (by omega)]
      rw [es]
      by_cases d1 : w.s.start ≤ s.start ∧ s.start + s.length ≤ w.s.start + w.s.length
      · rw [if_pos d1]; omega
      · rw [if_neg d1]; omega
    · rw [ek] at c1 ⊢
      unfold mvAd at c1 ⊢
      rw [upOf_s] at c1 ⊢
      simp only at c1 ⊢
      unfold shiftS
      rw [if_pos c1]

/-! The order of spans, and spans that come again. -/
theorem spErr_iff {l : List Sp} : spErr l = 0 ↔ ∀ x ∈ l, spChk x = 0 := by
  refine ⟨spErr_zero, ?_⟩
  induction l with
  | nil => intro _; rfl
  | cons x l ih =>
    intro h
    rw [spErr, if_neg (by rw [h x (List.mem_cons_self ..)]; simp)]
    exact ih fun y hy => h y (List.mem_cons_of_mem _ hy)
theorem oneTr_all {l : List Sp} : oneTr l = true ↔ ∀ x ∈ l, ∀ y ∈ l, y.hi = x.hi ∧ y.lo = x.lo := by
  cases l with
  | nil => simp [oneTr]
  | cons z l =>
    show ((z :: l).all fun y => decide (y.hi = z.hi) && decide (y.lo = z.lo)) = true ↔ _
    rw [List.all_eq_true]
    constructor
    · intro h x hx y hy
      have h1 := h x hx
      have h2 := h y hy
      simp only [Bool.and_eq_true, decide_eq_true_eq] at h1 h2
      omega
    · intro h y hy
      have := h z (List.mem_cons_self ..) y hy
      simp only [Bool.and_eq_true, decide_eq_true_eq]
      exact this
/-- **Lists of the same spans, of 64 at most, are adjusted alike.** -/
theorem adjS_same {l l' : List Sp} (h : ∀ x, x ∈ l ↔ x ∈ l') (h1 : l.length ≤ 64) (h2 : l'.length ≤ 64) :
    ((adjS l).2 = 0 ↔ (adjS l').2 = 0) ∧ ((adjS l).2 = 0 → adjS l = adjS l') := by
  have key : ∀ {l l' : List Sp}, (∀ x, x ∈ l ↔ x ∈ l') → l'.length ≤ 64 → (adjS l).2 = 0 → adjS l' = adjS l := by
    intro l l' h h2 h0
    obtain ⟨a1, a2, a3, a4, a5⟩ := adjS_ok h0
    have b1 : ¬ l'.length = 0 := fun e => a1 (by
      cases l with
      | nil => rfl
      | cons x l =>
        have := (h x).1 (List.mem_cons_self ..)
        rw [List.eq_nil_of_length_eq_zero e] at this
        cases this)
    have b3 : spErr l' = 0 := spErr_iff.2 fun x hx => spErr_iff.1 a3 x ((h x).2 hx)
    have b4 : oneTr l' = true := oneTr_all.2 fun x hx y hy => oneTr_all.1 a4 x ((h x).2 hx) y ((h y).2 hy)
    have eu : ups l' = ups l := by unfold ups; rw [uniq_perm h]
    have e1 : adjS l' = ((ajAll (ups l')).o, 0) := by
      unfold adjS
      rw [if_neg b1, if_neg (by omega), if_neg (by rw [b3]; simp), if_neg (by rw [b4]; simp)]
    rw [e1, eu, ajAll_fins (ups_oneId l), ← a5, ← h0]
  refine ⟨⟨fun h0 => by rw [key h h2 h0]; exact h0, fun h0 => by rw [key (fun x => (h x).symm) h1 h0]; exact h0⟩, fun h0 => (key h h2 h0).symm⟩
end Go.Proofs.Ytchpekidnbdpdaa

