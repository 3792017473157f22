/- Texts of the proof of AdjustTreeSaid, joined: RaO Pk SrF SpT MgA StK MhA AjA. -/
import Derived.Test.YtchpekidnbdpdaaJAdjustTree9
import Derived.Test.YtchpekidnbdpdaaJAdjustTree2
import Derived.Test.YtchpekidnbdpdaaJAdjustTree1
import Derived.Test.YtchpekidnbdpdaaJAdjustTree3
import Derived.Test.YtchpekidnbdpdaaJAdjustTree4
import Derived.Laws.ResultCell
import Derived.Laws.Tables
import Derived.Deep.Cut
import Derived.Test.YtchpekidnbdpdaaJAdjustTree5
import Derived.Test.YtchpekidnbdpdaaJAdjustTree6
import Derived.Laws.StructEq
import Derived.MapKept
import Derived.ChangeMaps4
import Derived.Maps.RangeRun
import Derived.Maps.OwnSet
import Derived.LaidEqlPtr
/- The document's layer 21, plain: what Adjust's answer is: IDs rise, one trace, each span may be. -/
namespace Go.Proofs.Ytchpekidnbdpdaa
open Go.RowKit

theorem fstTo_at {l : List Sp} {x y : Sp} {i n k : Nat} (h : fstTo l x i n = true) (hk : k < n) (hy : l[k]? = some y) : ahd x y k i = false := by
  have h1 := List.all_eq_true.1 h k (List.mem_range.2 hk)
  rw [hy] at h1
  simpa using h1
theorem fstTo_of {l : List Sp} {x : Sp} {i n : Nat} (h : ∀ k y, k < n → l[k]? = some y → ahd x y k i = false) : fstTo l x i n = true := by
  rw [fstTo, List.all_eq_true]
  intro k hk
  cases hy : l[k]? with
  | none => rfl
  | some y => simp [h k y (List.mem_range.1 hk) hy]
theorem ahd_iff {x y : Sp} {k i : Nat} : ahd x y k i = true ↔ y.id = x.id ∧ (spCmp y x < 0 ∨ (spCmp y x = 0 ∧ k < i)) := by
  simp [ahd]
theorem ahd_not {x y : Sp} {k i : Nat} : ahd x y k i = false ↔ ¬ (y.id = x.id ∧ (spCmp y x < 0 ∨ (spCmp y x = 0 ∧ k < i))) := by
  rw [← ahd_iff, Bool.not_eq_true]
theorem spCmp_self (x : Sp) : spCmp x x = 0 := (spCmp_cmp.eq x x).2 rfl
/-- Two first ones of one ID are one. -/
theorem fst_one {l : List Sp} {i j : Nat} {x y : Sp} (hx : l[i]? = some x) (hy : l[j]? = some y) (fx : fstTo l x i l.length = true) (fy : fstTo l y j l.length = true) (hji : j < i) : x.id ≠ y.id := fun e => by
  have h1 := ahd_not.1 (fstTo_at fx (List.getElem?_eq_some_iff.1 hy).1 hy)
  have h2 := ahd_not.1 (fstTo_at fy (List.getElem?_eq_some_iff.1 hx).1 hx)
  have h3 := spCmp_cmp.neg x y
  have h4 : ¬ spCmp y x < 0 := fun h => h1 ⟨e.symm, .inl h⟩
  have h5 : ¬ spCmp y x = 0 := fun h => h1 ⟨e.symm, .inr ⟨h, hji⟩⟩
  have h6 : ¬ spCmp x y < 0 := fun h => h2 ⟨e, .inl h⟩
  omega
/-- Among the first n there is a first one. -/
theorem fst_some (l : List Sp) : ∀ n, 0 < n → n ≤ l.length → ∃ i x, i < n ∧ l[i]? = some x ∧ fstTo l x i n = true
  | 0, h, _ => by omega
  | n + 1, _, hn => by
    obtain ⟨z, hz⟩ : ∃ z, l[n]? = some z := ⟨_, List.getElem?_eq_getElem (by omega)⟩
    by_cases h0 : n = 0
    · subst h0
      refine ⟨0, z, by omega, hz, fstTo_of fun k y hk hy => ?_⟩
      have : k = 0 := by omega
      subst this
      rw [hz] at hy
      cases hy
      rw [ahd_not, spCmp_self]
      omega
    · obtain ⟨i, x, hi, hx, hf⟩ := fst_some l n (by omega) (by omega)
      by_cases hc : ahd x z n i = true
      · obtain ⟨e1, e2⟩ := ahd_iff.1 hc
        have hzx : spCmp z x < 0 := by
          rcases e2 with h | ⟨-, h⟩
          · exact h
          · omega
        refine ⟨n, z, by omega, hz, fstTo_of fun k y hk hy => ?_⟩
        by_cases hkn : k = n
        · subst hkn
          rw [hz] at hy
          cases hy
          rw [ahd_not, spCmp_self]
          omega
        · have h1 := ahd_not.1 (fstTo_at hf (show k < n by omega) hy)
          rw [ahd_not]
          rintro ⟨e3, e4⟩
          refine h1 ⟨e3.trans e1, .inl ?_⟩
          have r1 := spCmp_cmp.rng y z
          have r2 := spCmp_cmp.rng z x
          rcases e4 with h | ⟨h, -⟩
          · have := spCmp_cmp.tr y z x (by omega) (by omega)
            omega
          · have := (spCmp_cmp.eq y z).1 h
            rw [this]
            exact hzx
      · refine ⟨i, x, by omega, hx, fstTo_of fun k y hk hy => ?_⟩
        by_cases hkn : k = n
        · subst hkn
          rw [hz] at hy
          cases hy
          simpa using hc
        · exact fstTo_at hf (by omega) hy
/-- IDs that rise. -/
def RisId (u : List Sp) : Prop := u.Pairwise fun a b => a.id < b.id
theorem insK_drop (id : Nat) (out : List Sp) : ∀ k, k ≤ out.length → (∀ y ∈ out.drop k, id < y.id) → ∀ y ∈ out.drop (insK id out k), id < y.id
  | 0, _, h => h
  | k + 1, hk, h => by
    obtain ⟨z, hz⟩ : ∃ z, out[k]? = some z := ⟨_, List.getElem?_eq_getElem (by omega)⟩
    rw [insK_step hz]
    by_cases hl : id < z.id
    · rw [if_pos hl]
      refine insK_drop id out k (by omega) fun y hy => ?_
      obtain ⟨h1, h2⟩ := List.getElem?_eq_some_iff.1 hz
      rw [List.drop_eq_getElem_cons h1, h2] at hy
      rcases List.mem_cons.1 hy with rfl | hy
      · exact hl
      · exact h y hy
    · rw [if_neg hl]
      exact h
theorem insK_last (id : Nat) (out : List Sp) : ∀ k, k ≤ out.length → ∀ j y, insK id out k = j + 1 → out[j]? = some y → y.id ≤ id
  | 0, _, j, y, h, _ => by rw [insK] at h; omega
  | k + 1, hk, j, y, h, hy => by
    obtain ⟨z, hz⟩ : ∃ z, out[k]? = some z := ⟨_, List.getElem?_eq_getElem (by omega)⟩
    rw [insK_step hz] at h
    by_cases hl : id < z.id
    · rw [if_pos hl] at h
      exact insK_last id out k (by omega) j y h hy
    · rw [if_neg hl] at h
      have : j = k := by omega
      subst this
      rw [hz] at hy
      cases hy
      omega
theorem insAt_ris {x : Sp} {out : List Sp} (h : RisId out) (hne : ∀ y ∈ out, y.id ≠ x.id) : RisId (insAt x out) := by
  have h1 := insK_drop x.id out out.length (Nat.le_refl _) (by simp)
  have h2 := insK_last x.id out out.length (Nat.le_refl _)
  have h3 := insK_le x.id out out.length
  unfold insAt
  obtain ⟨k, hk⟩ : ∃ k, insK x.id out out.length = k := ⟨_, rfl⟩
  rw [hk] at h1 h2 h3 ⊢
  have hlt : ∀ y ∈ out.take k, y.id < x.id := fun y hy => by
    obtain ⟨i, hi, rfl⟩ := List.getElem_of_mem hy
    rw [List.length_take] at hi
    rw [List.getElem_take]
    have hne1 := hne _ (List.getElem_mem (show i < out.length by omega))
    obtain ⟨j, hj⟩ : ∃ j, k = j + 1 := ⟨k - 1, by omega⟩
    have h4 := h2 j out[j] hj (List.getElem?_eq_getElem (by omega))
    by_cases hij : i = j
    · subst hij; omega
    · have h5 := (List.pairwise_iff_getElem.1 h) i j (by omega) (by omega) (by omega)
      omega
  rw [RisId, List.pairwise_append]
  refine ⟨h.sublist (List.take_sublist _ _), List.pairwise_cons.2 ⟨h1, h.sublist (List.drop_sublist _ _)⟩, fun a ha b hb => ?_⟩
  rcases List.mem_cons.1 hb with rfl | hb
  · exact hlt a ha
  · exact Nat.lt_trans (hlt a ha) (h1 b hb)
theorem insAt_mem {x y : Sp} {out : List Sp} (h : y ∈ insAt x out) : y = x ∨ y ∈ out := by
  unfold insAt at h
  rcases List.mem_append.1 h with h | h
  · exact .inr (List.mem_of_mem_take h)
  · rcases List.mem_cons.1 h with h | h
    · exact .inl h
    · exact .inr (List.mem_of_mem_drop h)
theorem uniqTo_ris (l : List Sp) : ∀ i, i ≤ l.length → RisId (uniqTo l i) ∧ ∀ y ∈ uniqTo l i, ∃ j, j < i ∧ l[j]? = some y ∧ fstTo l y j l.length = true
  | 0, _ => ⟨List.Pairwise.nil, fun y h => by simp [uniqTo] at h⟩
  | i + 1, hi => by
    obtain ⟨ih1, ih2⟩ := uniqTo_ris l i (by omega)
    obtain ⟨x, hx⟩ : ∃ x, l[i]? = some x := ⟨_, List.getElem?_eq_getElem (by omega)⟩
    rw [uniqTo_step hx]
    by_cases hf : fstTo l x i l.length = true
    · rw [if_pos hf]
      refine ⟨insAt_ris ih1 fun y hy e => ?_, fun y hy => ?_⟩
      · obtain ⟨j, hj, hy1, hy2⟩ := ih2 y hy
        exact fst_one hx hy1 hf hy2 hj e.symm
      · rcases insAt_mem hy with rfl | hy
        · exact ⟨i, by omega, hx, hf⟩
        · obtain ⟨j, hj, h1, h2⟩ := ih2 y hy
          exact ⟨j, by omega, h1, h2⟩
    · rw [if_neg hf]
      exact ⟨ih1, fun y hy => by
        obtain ⟨j, hj, h1, h2⟩ := ih2 y hy
        exact ⟨j, by omega, h1, h2⟩⟩
theorem insAt_len (x : Sp) (out : List Sp) : (insAt x out).length = out.length + 1 := by
  have := insK_le x.id out out.length
  rw [insAt, List.length_append, List.length_cons, List.length_take, List.length_drop]
  omega
theorem uniqTo_grow (l : List Sp) (i : Nat) : (uniqTo l i).length ≤ (uniqTo l (i + 1)).length := by
  rw [uniqTo]
  split
  · split
    · rw [insAt_len]; omega
    · exact Nat.le_refl _
  · exact Nat.le_refl _
theorem uniqTo_mono (l : List Sp) {i j : Nat} (h : i ≤ j) : (uniqTo l i).length ≤ (uniqTo l j).length := by
  induction j with
  | zero =>
    have : i = 0 := by omega
    subst this
    exact Nat.le_refl _
  | succ j ih =>
    by_cases hj : i ≤ j
    · exact Nat.le_trans (ih hj) (uniqTo_grow l j)
    · have : i = j + 1 := by omega
      subst this
      exact Nat.le_refl _
theorem uniq_ne {l : List Sp} (h : l ≠ []) : uniq l ≠ [] := fun e => by
  have hp : 0 < l.length := List.length_pos_iff.2 h
  obtain ⟨i, x, hi, hx, hf⟩ := fst_some l l.length hp (Nat.le_refl _)
  have h1 : (uniqTo l (i + 1)).length = (uniqTo l i).length + 1 := by rw [uniqTo_step hx, if_pos hf, insAt_len]
  have h2 := uniqTo_mono l (show i + 1 ≤ l.length by omega)
  have h3 := congrArg List.length e
  rw [uniq, List.length_nil] at h3
  omega
theorem upsTo_s (u : List Sp) : ∀ i, i ≤ u.length → (upsTo u i).map (·.s) = u.take i
  | 0, _ => rfl
  | i + 1, h => by
    obtain ⟨x, hx⟩ : ∃ x, u[i]? = some x := ⟨_, List.getElem?_eq_getElem (by omega)⟩
    rw [upsTo_step hx, List.map_append, upsTo_s u i (by omega), take_snoc hx]
    simp [upOf_s]
theorem ups_s (l : List Sp) : (ups l).map (·.s) = uniq l := by
  rw [ups, upsTo_s _ _ (Nat.le_refl _), List.take_length]
theorem upOf_flag (u : List Sp) (i : Nat) (x : Sp) : 0 ≤ (upOf u i x).flag ∧ (upOf u i x).flag ≤ 2 := by
  unfold upOf
  split
  · exact ⟨by show (0 : Int) ≤ 0; omega, by show (0 : Int) ≤ 2; omega⟩
  · split
    · exact ⟨by show (0 : Int) ≤ 1; omega, by show (1 : Int) ≤ 2; omega⟩
    · split
      · exact ⟨by show (0 : Int) ≤ 2; omega, by show (2 : Int) ≤ 2; omega⟩
      · exact ⟨by show (0 : Int) ≤ 0; omega, by show (0 : Int) ≤ 2; omega⟩

/-! What moving keeps. -/
/-- All of an adjusted span but its times. -/
def core (a : Ad) : Sp × Nat × Int := ({ a.s with start := 0 }, a.up, a.flag)
theorem core_mv (x y : Ad) : core (mvAd x y) = core x := rfl
theorem spChk_start {s : Sp} (h : spChk s = 0) {v : Int} (h0 : 0 ≤ v) (h1 : v ≤ 4611686018427387903 - s.length) : spChk { s with start := v } = 0 := by
  have ht := (spChk_parts h).1.l0
  unfold spChk at h ⊢
  have e1 : longB { s with start := v } = longB s := rfl
  rw [e1]
  by_cases hl : longB s = true
  · rw [if_pos hl] at h; omega
  rw [if_neg hl] at h ⊢
  cases h2 : (headB s && tagsOk s.tags s.tags.length) with
  | false => rw [h2] at h; simp at h
  | true =>
    rw [Bool.and_eq_true] at h2
    have e2 : headB { s with start := v } = true := by
      have hh := h2.1
      unfold headB at hh ⊢
      simp only [Bool.and_eq_true, Bool.or_eq_true, decide_eq_true_eq] at hh ⊢
      obtain ⟨⟨⟨⟨⟨⟨⟨⟨⟨a1, a2⟩, a3⟩, a4⟩, a5⟩, a6⟩, a7⟩, a8⟩, a9⟩, a10⟩ := hh
      exact ⟨⟨⟨⟨⟨⟨⟨⟨⟨a1, a2⟩, a3⟩, a4⟩, a5⟩, a6⟩, h0⟩, a8⟩, by omega⟩, by omega⟩
    rw [e2, h2.2]
    rfl
theorem mv_chk {x y : Ad} (hx : adChk x = 0) : adChk (mvAd x y) = 0 := by
  unfold adChk at hx ⊢
  have hs : spChk x.s = 0 := by
    by_cases h1 : spChk x.s ≠ 0
    · rw [if_pos h1] at hx; exact absurd hx h1
    · exact Decidable.not_not.1 h1
  rw [if_neg (by rw [hs]; simp)] at hx
  have ht := (spChk_parts hs).1
  have hn : spChk (mvAd x y).s = 0 := spChk_start hs (by have := ht.l0; have := ht.s0; have := ht.sum; omega) (by omega)
  rw [if_neg (by rw [hn]; simp)]
  exact hx
theorem set_same {α : Type} {l : List α} {i : Nat} {x : α} (h : l[i]? = some x) : l.set i x = l := by
  apply List.ext_getElem?
  intro j
  by_cases hj : i = j
  · subst hj
    rw [List.getElem?_set_self (List.getElem?_eq_some_iff.1 h).1, h]
  · rw [List.getElem?_set_ne hj]
/-- What each step keeps. -/
structure AjKeep (o0 o : List Ad) : Prop where
  core : o.map core = o0.map core
  chk : ∀ a ∈ o, adChk a = 0
theorem AjKeep.set {o0 o : List Ad} (h : AjKeep o0 o) {i : Nat} {x y : Ad} (hi : o[i]? = some x) : AjKeep o0 (o.set i (mvAd x y)) := by
  refine ⟨?_, fun a ha => ?_⟩
  · rw [List.map_set, core_mv, ← h.core]
    have : (o.map Go.Proofs.Ytchpekidnbdpdaa.core)[i]? = some (Go.Proofs.Ytchpekidnbdpdaa.core x) := by simp [hi]
    exact set_same this
  · rcases List.mem_or_eq_of_mem_set ha with ha | rfl
    · exact h.chk a ha
    · exact mv_chk (h.chk x (List.mem_of_getElem? hi))
theorem keep_ajK {o0 : List Ad} (i : Nat) (st : AjS) (k : Nat) (h : AjKeep o0 st.o) : AjKeep o0 (ajK i st k).o := by
  unfold ajK
  split
  · rename_i y x h1 h2 h3
    split
    · exact h.set h2
    · exact h
  · exact h
theorem keep_fold {o0 : List Ad} {f : AjS → Nat → AjS} (hf : ∀ st k, AjKeep o0 st.o → AjKeep o0 (f st k).o) : ∀ (ks : List Nat) (st : AjS), AjKeep o0 st.o → AjKeep o0 (ks.foldl f st).o
  | [], _, h => h
  | k :: ks, st, h => keep_fold hf ks (f st k) (hf st k h)
theorem keep_ajI {o0 : List Ad} (n : Nat) (st : AjS) (i : Nat) (h : AjKeep o0 st.o) : AjKeep o0 (ajI n st i).o := by
  unfold ajI
  split
  · split
    · exact h
    · exact keep_fold (fun st k => keep_ajK i st k) _ _ h
  · exact h
theorem keep_all {o : List Ad} (h : ∀ a ∈ o, adChk a = 0) : AjKeep o (ajAll o).o :=
  keep_fold (fun st _ h => keep_fold (fun st k => keep_ajI _ st k) _ _ h) _ _ ⟨rfl, h⟩
/-- What is true of Adjust's answer. -/
structure AdjFine (l : List Sp) (o : List Ad) : Prop where
  ne : o ≠ []
  len : o.length ≤ l.length
  chk : ∀ a ∈ o, adChk a = 0
  ris : ∀ i a b, o[i]? = some a → o[i + 1]? = some b → a.s.id < b.s.id
  tr : ∀ a ∈ o, ∀ b ∈ o, a.s.hi = b.s.hi ∧ a.s.lo = b.s.lo
theorem adjS_fine {l : List Sp} (h : (adjS l).2 = 0) : AdjFine l (adjS l).1 := by
  unfold adjS at h ⊢
  by_cases h0 : l.length = 0
  · rw [if_pos h0] at h; cases h
  rw [if_neg h0] at h ⊢
  by_cases h1 : 64 < l.length
  · rw [if_pos h1] at h; cases h
  rw [if_neg h1] at h ⊢
  by_cases h2 : spErr l ≠ 0
  · rw [if_pos h2] at h; exact absurd h h2
  rw [if_neg h2] at h ⊢
  by_cases h3 : oneTr l = false
  · rw [if_pos h3] at h; cases h
  rw [if_neg h3]
  have hsp := spErr_zero (Decidable.not_not.1 h2)
  have hmem : ∀ x ∈ uniq l, x ∈ l := fun x hx => uniqTo_mem _ _ x hx
  have hups := ups_s l
  have hchk : ∀ a ∈ ups l, adChk a = 0 := fun a ha => by
    obtain ⟨k, x, hx, rfl⟩ := upsTo_mem _ _ a ha
    have h4 := hsp x (hmem x (List.mem_of_getElem? hx))
    have h5 := upOf_flag (uniq l) k x
    unfold adChk
    rw [upOf_s, if_neg (by rw [h4]; simp), if_neg (by omega)]
  have hk := keep_all hchk
  have hcore : ∀ (i : Nat) (a : Ad), (ajAll (ups l)).o[i]? = some a → ∃ x, (uniq l)[i]? = some x ∧ a.s.id = x.id ∧ a.s.hi = x.hi ∧ a.s.lo = x.lo := fun i a ha => by
    have h4 := congrArg (·[i]?) hk.core
    simp only [List.getElem?_map, ha, Option.map_some] at h4
    cases hu : (ups l)[i]? with
    | none => rw [hu] at h4; cases h4
    | some b =>
      rw [hu] at h4
      have h5 := Option.some.inj h4
      refine ⟨b.s, by rw [← hups]; simp [hu], ?_⟩
      have h6 := congrArg Prod.fst h5
      exact ⟨show (core a).1.id = (core b).1.id from congrArg Sp.id h6, show (core a).1.hi = (core b).1.hi from congrArg Sp.hi h6, show (core a).1.lo = (core b).1.lo from congrArg Sp.lo h6⟩
  have hlen : (ajAll (ups l)).o.length = (uniq l).length := by
    have h4 := congrArg List.length hk.core
    rw [List.length_map, List.length_map] at h4
    rw [h4, ← hups, List.length_map]
  refine ⟨fun e => ?_, ?_, hk.chk, fun i a b ha hb => ?_, fun a ha b hb => ?_⟩
  · have e' : (ajAll (ups l)).o = [] := e
    rw [e'] at hlen
    exact uniq_ne (fun e2 => h0 (by rw [e2]; rfl)) (List.eq_nil_of_length_eq_zero hlen.symm)
  · show (ajAll (ups l)).o.length ≤ _
    rw [hlen]
    exact uniqTo_len _ _
  · obtain ⟨x, hx, e1, -⟩ := hcore i a ha
    obtain ⟨y, hy, e2, -⟩ := hcore (i + 1) b hb
    obtain ⟨q1, q2⟩ := List.getElem?_eq_some_iff.1 hx
    obtain ⟨q3, q4⟩ := List.getElem?_eq_some_iff.1 hy
    have := (List.pairwise_iff_getElem.1 (uniqTo_ris l l.length (Nat.le_refl _)).1) i (i + 1) q1 q3 (by omega)
    rw [e1, e2, ← q2, ← q4]
    exact this
  · obtain ⟨i, hi⟩ := List.getElem?_of_mem ha
    obtain ⟨j, hj⟩ := List.getElem?_of_mem hb
    obtain ⟨x, hx, -, e1, e2⟩ := hcore i a hi
    obtain ⟨y, hy, -, e3, e4⟩ := hcore j b hj
    have hx2 := hmem x (List.mem_of_getElem? hx)
    have hy2 := hmem y (List.mem_of_getElem? hy)
    obtain ⟨t, ht⟩ : ∃ t, l[0]? = some t := ⟨_, List.getElem?_eq_getElem (by omega)⟩
    have h4 : oneTr l = true := by simpa using h3
    rw [oneTr_iff ht, List.all_eq_true] at h4
    have h5 := h4 x hx2
    have h6 := h4 y hy2
    simp only [Bool.and_eq_true, decide_eq_true_eq] at h5 h6
    omega
end Go.Proofs.Ytchpekidnbdpdaa


/- Lists of ints; Pick. -/
namespace Go.Proofs.Ytchpekidnbdpdaa
open Go.RowKit

def iv (zs : List Int) : List Value := zs.map (Value.int .i64)
theorem iv_length (zs : List Int) : (iv zs).length = zs.length := by simp [iv]
theorem iv_append (a b : List Int) : iv (a ++ b) = iv a ++ iv b := by simp [iv]
theorem iv_get {zs : List Int} {k : Nat} {x : Int} (hk : zs[k]? = some x) : (iv zs)[k]? = some (.int .i64 x) := by simp [iv, hk]
theorem iv_one (zs : List Int) : ∀ u ∈ iv zs, u.oneCell' = true := by
  intro u hu
  obtain ⟨x, _, rfl⟩ := List.mem_map.1 hu
  rfl
abbrev Ri (w : World) (B : Nat) (A : Option Addr) (zs : List Int) : Prop := Rd w B A (iv zs)
theorem Ri.get {w : World} {B : Nat} {A : Option Addr} {zs : List Int} (h : Ri w B A zs) {k : Nat} (hk : k < zs.length) :
    ∃ b o x, zs[k]? = some x ∧ A = some ⟨b, o, none⟩ ∧ b < B ∧ w.cell? ⟨b, o + k, none⟩ = some (.int .i64 x) := by
  have e := List.getElem?_eq_getElem hk
  obtain ⟨b, o, h1, h2, h3⟩ := Rd.get h (iv_get e)
  exact ⟨b, o, zs[k], e, h1, h2, h3⟩
theorem tmod_pick (n m : Int) (hm : 0 < m) : -m < n.tmod m ∧ n.tmod m < m ∧ (n.tmod m < 0 → n.tmod m + m = n % m) ∧ (0 ≤ n.tmod m → n.tmod m = n % m) := by
  have hz : m ≠ 0 := by omega
  have hq0 := Int.emod_nonneg n hz
  have hq1 := Int.emod_lt_of_pos n hm
  have hp0 := Int.emod_nonneg (-n) hz
  have hp1 := Int.emod_lt_of_pos (-n) hm
  have he := Int.mul_ediv_add_emod (-n) m
  rw [tmod_eq_if]
  generalize (-n) / m = q at *
  generalize (-n) % m = s at *
  split
  · exact ⟨by omega, by omega, fun h => by omega, fun _ => rfl⟩
  · refine ⟨by omega, by omega, fun h => ?_, fun h => ?_⟩
    · have e : (m - s) + m * (-q - 1) = n := by
        rw [Int.mul_sub, Int.mul_neg]
        omega
      rw [← e, Int.add_mul_emod_self_left, Int.emod_eq_of_lt (by omega) (by omega)]
      omega
    · have hs : s = 0 := by omega
      have e : 0 + m * (-q) = n := by rw [Int.mul_neg]; omega
      rw [← e, Int.add_mul_emod_self_left, hs]
      simp

/-- Pick: a number from 0 to below m. -/
theorem kitPick (n : Int) (m : Nat) (w : World) (hm0 : 1 ≤ m) (hm : m ≤ 1099511627776) :
    Calls Try.prog 20 #[.int .i64 n, .int .i64 m] w fun e w' => e = .returned (.int .i64 (n % (m : Int))) ∧ w' = w := by
  have hz : ¬ (m : Int) = 0 := by omega
  have hzb : ((m : Int) == 0) = false := by rw [beq_eq_false_iff_ne]; omega
  obtain ⟨h1, h2, h3, h4⟩ := tmod_pick n m (by omega)
  obtain ⟨r, hr⟩ : ∃ r, n.tmod m = r := ⟨_, rfl⟩
  rw [hr] at h1 h2 h3 h4
  have H3 := Lib.hid h3
  have H4 := Lib.hid h4
  clear h3 h4
  go_enter Try.func20, Try.ntmps20
  go_wp2
  · go_ret
    refine ⟨?_, rfl⟩
    rw [← H3.out (by omega)]
    rfl
  · go_ret
    refine ⟨?_, rfl⟩
    rw [← H4.out (by omega)]
    rfl
end Go.Proofs.Ytchpekidnbdpdaa


/- Spans: Tag, Copy; the document's answer: Tag, IDText, TraceText. -/
namespace Go.Proofs.Ytchpekidnbdpdaa
open Go.RowKit

/-- A tag's value, if it is there. -/
def tagOf (l : List Tg) (k : ByteArray) : Option ByteArray := (l.find? fun t => decide (t.key = k)).map (·.val)
def tagVal (l : List Tg) (k : ByteArray) : ByteArray := (tagOf l k).getD ⟨#[]⟩
def tagIs (l : List Tg) (k : ByteArray) : Bool := (tagOf l k).isSome
theorem tagOf_hit {l : List Tg} {k : ByteArray} {j : Nat} {x : Tg} (h : (l.take j).any (fun t => decide (t.key = k)) = false) (hx : l[j]? = some x) (hp : x.key = k) : tagOf l k = some x.val := by
  have hj := (List.getElem?_eq_some_iff.1 hx).1
  have : l.find? (fun t => decide (t.key = k)) = some x := by
    rw [List.find?_eq_some_iff_getElem]
    refine ⟨by simpa using hp, j, hj, (List.getElem?_eq_some_iff.1 hx).2, fun i hi => ?_⟩
    have h1 := List.any_eq_false.1 h (l[i]'(by omega)) (List.mem_of_getElem? (i := i) (by rw [List.getElem?_take, if_pos hi]; exact List.getElem?_eq_getElem _))
    simpa using h1
  rw [tagOf, this]
  rfl
theorem tagOf_none {l : List Tg} {k : ByteArray} (h : l.any (fun t => decide (t.key = k)) = false) : tagOf l k = none := by
  have : l.find? (fun t => decide (t.key = k)) = none := by
    rw [List.find?_eq_none]
    intro x hx
    have := List.any_eq_false.1 h x hx
    simpa using this
  rw [tagOf, this]
  rfl

theorem idxT_find {l : List Tg} {k : ByteArray} : (idxT (fun t => decide (t.key = k)) l = -1 ∧ tagOf l k = none) ∨ ∃ (j : Nat) (x : Tg), idxT (fun t => decide (t.key = k)) l = j ∧ l[j]? = some x ∧ tagOf l k = some x.val := by
  cases hf : l.findIdx? (fun t => decide (t.key = k)) with
  | none =>
    have h := List.findIdx?_eq_none_iff.1 hf
    exact .inl ⟨by rw [idxT, hf], tagOf_none (List.any_eq_false.2 fun x hx => by rw [h x hx]; simp)⟩
  | some j =>
    obtain ⟨hj, h1, h2⟩ := List.findIdx?_eq_some_iff_getElem.1 hf
    refine .inr ⟨j, l[j], by rw [idxT, hf], List.getElem?_eq_getElem hj, ?_⟩
    have h3 : (l.take j).any (fun t => decide (t.key = k)) = false := by
      rw [List.any_eq_false]
      intro x hx
      obtain ⟨i, hi, rfl⟩ := List.mem_take_iff_getElem.1 hx
      exact h2 i (by omega)
    exact tagOf_hit h3 (List.getElem?_eq_getElem hj) (by simpa using h1)

set_option maxHeartbeats 400000 in
theorem slCloneT {A : Option Addr} {c B n : Nat} {l : List Tg} (w : World) (ha : RbT w B A l) (hB : B ≤ w.heap.size) (hx : n ≤ 4398046511104) (hn : l.length = n) :
    Calls Try.prog 71 #[.slice A n c] w (RetNew 80 2 w n (tgs l) (fun A' => A' = none → A = none)) := by
  subst hn
  cases A with
  | none =>
    obtain rfl : l = [] := tags_nil ha
    go_enter Try.func71, Try.ntmps71
    go_wp2
    go_ret
    exact ⟨none, 0, rfl, App.refl (World.ownsRow_nil _ _ _ _), by simp⟩
  | some a =>
    go_enter Try.func71, Try.ntmps71
    go_wp2_with (at_builtin; go_loud (refine wpList_appTg _ rfl (.tmp 5) (.tmp 6) rfl w.heap.size _ 0 [] rfl (World.ownsRow_lit w #[] 0 (Nat.le_refl _) (by simp [maxLen]) rfl) B _ l.length c l rfl rfl (ha.alloc hB _) (by omega) (by simp) ?_))
    intro A' c' w' happ hne
    go_wp2
    go_ret
    exact ⟨A', c', rfl, happ.fresh1, fun h => absurd h hne⟩

set_option maxRecDepth 100000 in
set_option maxHeartbeats 2000000 in
theorem spCopy {A : Option Addr} {c n B : Nat} (s : Sp) (w : World) (hf : RbT w B A s.tags) (hn : s.tags.length = n) (hB : B ≤ w.heap.size) (hnl : n ≤ 4398046511104) :
    Calls Try.prog 49 #[spV s A n c] w (CopyPost w s n A) := by
  have hb0 : Below w.heap.size w ((w.alloc (.cells (spC s A n c) 32)).alloc (.cells zspC 32)) := ((Below.refl _ w).alloc (Nat.le_refl _) _).alloc (by simp) _
  have hf1 := Rd.below hf (hb0.mono hB)
  have bk := (Bk.new w 32 (spC s A n c)).alloc (.cells zspC 32)
  have br := Bk.new (w.alloc (.cells (spC s A n c) 32)) 32 zspC
  rw [World.size_alloc] at br
  have hs1 : ((w.alloc (.cells (spC s A n c) 32)).alloc (.cells zspC 32)).heap.size = w.heap.size + 2 := by simp
  obtain ⟨w1, hw1⟩ : ∃ w1, (w.alloc (.cells (spC s A n c) 32)).alloc (.cells zspC 32) = w1 := ⟨_, rfl⟩
  rw [hw1] at hb0 hf1 bk br hs1
  have HW := Lib.hid hw1
  obtain ⟨g, hg⟩ : ∃ g, w.heap.size = g := ⟨_, rfl⟩
  rw [hg] at bk br
  have HG := Lib.hid hg
  have hg1 : g + 2 ≤ w1.heap.size := by omega
  have hcl := slCloneT (c := c) w1 hf1 (by omega) hnl hn
  have HC := Lib.hid hcl
  have HN := Lib.hid hn
  have k10 : w1.cell? ⟨g, 10, none⟩ = some (.slice A n c) := bk.cell 10
  clear hw1 hg hn hcl hf hs1
  go_enter Try.func49, Try.ntmps49
  go_upto_region 1 with fail
  rw [HW.out, HG.out]
  go_wp2_with fail
  refine HC.out.mono ?_
  rintro e w2 ⟨A', c', rfl, happ, hne⟩
  have hb2 := happ.below0
  have bk2 := bk.below hb2 bk.lt
  have br2 := br.below hb2 br.lt
  have hlo := happ.lo
  have hrd := Rd.of_own happ.own
  have hcap : n ≤ c' ∧ (A' = none → n = 0 ∧ c' = 0) := by
    rcases happ.own.2 with ⟨h1, h2⟩ | ⟨q, cap, cur, h1, _, _, h3, _⟩
    · injection h1 with _ _ h4
      exact ⟨by omega, fun _ => ⟨h2, h4⟩⟩
    · injection h1 with h4 _ h5
      subst h5
      exact ⟨h3, fun h => by rw [h] at h4; cases h4⟩
  have k10b : w2.cell? ⟨g, 10, none⟩ = some (.slice A n c) := bk2.cell 10
  have f10b : w2.frozen? ⟨g, 10, none⟩ = false := bk2.frozen 10
  have bk3 := bk2.set 10 (.slice A' n c')
  have br3 := br2.far (p := ⟨g, 10, none⟩) (by show g + 1 ≠ g; omega) (.slice A' n c')
  have hb3 := (hb0.trans (hb2.mono hb0.size)).setCell (p := ⟨g, 10, none⟩) (by show w.heap.size ≤ g; rw [HG.out]; exact Nat.le_refl _) (.slice A' n c')
  have hrd3 := hrd.grownS (grown_setCell w2 g 10 (.slice A' n c')) (fun a ha e => by
    have h1 := (hlo a ha).1
    have h2 := Option.some.inj e
    omega)
  have bk3' : Bk (w2.setCell ⟨g, 10, none⟩ (.slice A' n c')) g 32 (spC s A' n c') := bk3
  obtain ⟨w3, hw3⟩ : ∃ w3, w2.setCell ⟨g, 10, none⟩ (.slice A' n c') = w3 := ⟨_, rfl⟩
  rw [hw3] at bk3' br3 hb3 hrd3
  have HW3 := Lib.hid hw3
  clear hw3 bk3 bk2 br2 hb2 hrd happ HC hf1 bk br
  go_wp2_with (first
    | (refine wpList_load_row rfl 32 (.tmp 1) rfl g rfl 32 (spC s A' n c') (0, 0) _ (by rw [HW3.out]; exact bk3') Try.underlying32 rfl (by rfl) ?_; rw [HW3.out])
    | (refine wpList_store_row rfl 32 (.tmp 2) (.tmp 7) rfl (g + 1) (spC s A' n c') rfl rfl 32 zspC br3 (by rfl) rfl (spC_one s A' n c') ?_))
  try simp only [Exit.inBlock, Exit.then]
  refine bodyPost_ret (results_cell_row rfl _ _ (g + 1) 32 (spC s A' n c') (0, 0) _ rfl (br3.row _) Try.underlying32 rfl (by rfl)) rfl ?_
  refine ⟨A', c', rfl, ?_, ?_, hcap.1, ?_, ?_⟩
  · refine hrd3.grownS (only_row (g + 1) _) (fun a ha e => ?_)
    have h1 := (hlo a ha).1
    have h2 := Option.some.inj e
    omega
  · refine hb3.trans ?_
    exact ⟨rfl, rfl, rfl, by simp [World.setRow], fun i hi => by
      have := HG.out
      have := hb3.size
      simp [World.setRow, Array.getElem?_modify]
      intro e
      omega⟩
  · intro a ha
    have h1 := (hlo a ha).1
    have := hb0.size
    omega
  · intro h
    exact ⟨hne h, (hcap.2 h).1, (hcap.2 h).2⟩


/-- The first j digits. -/
def idP (x j : Nat) : List Int := (List.range j).map fun p => hexD (x / 16 ^ (15 - p) % 16)
theorem idP_all (x : Nat) : idP x 16 = idL x := rfl
theorem idP_len (x j : Nat) : (idP x j).length = j := by simp [idP]
theorem idP_succ (x j : Nat) : idP x (j + 1) = idP x j ++ [hexD (x / 16 ^ (15 - j) % 16)] := by simp [idP, List.range_succ]
theorem strOfNums_append (a b : List Int) : strOfNums (a ++ b) = strOfNums a ++ strOfNums b := by
  apply ByteArray.ext
  apply Array.ext'
  rw [ByteArray.data_append, Array.toList_append, strOfNums_data, strOfNums_data, strOfNums_data, List.map_append]
theorem strOfNums_size (a : List Int) : (strOfNums a).size = a.length := by
  have : (strOfNums a).data.toList.length = a.length := by rw [strOfNums_data, List.length_map]
  rwa [Array.length_toList] at this
theorem digits_cut (z : Nat) (hz : z < 16) : digits16.extract z (z + 1) = strOfNums [hexD z] := by
  have key : ∀ z : Nat, z < 16 → (digits16.extract z (z + 1)).data.toList = [hexD z].map fun n => UInt8.ofNat n.toNat := by decide +kernel
  apply ByteArray.ext
  apply Array.ext'
  rw [strOfNums_data]
  exact key z hz

end Go.Proofs.Ytchpekidnbdpdaa


/- Spans: ParseTrace. -/
namespace Go.Proofs.Ytchpekidnbdpdaa
open Go.RowKit

/-- A hexadecimal digit's value, or -1. -/
def hexV (c : Int) : Int := if 48 ≤ c ∧ c ≤ 57 then c - 48 else if 97 ≤ c ∧ c ≤ 102 then c - 87 else -1
theorem hexV_rng (c : Int) : -1 ≤ hexV c ∧ hexV c ≤ 15 := by
  unfold hexV
  split
  · omega
  · split <;> omega
/-- The two numbers that 32 digits tell. -/
def ptG : List Int → Nat → Nat → Nat → Option (Nat × Nat)
  | [], _, a, b => some (a, b)
  | c :: l, i, a, b => if hexV c < 0 then none else if i < 16 then ptG l (i + 1) (a * 16 + (hexV c).toNat) b else ptG l (i + 1) a (b * 16 + (hexV c).toNat)
/-- What ParseTrace tells: the trace, the error. -/
def ptOf (s : ByteArray) : Nat × Nat × Nat :=
  if s.size ≠ 32 then (0, 0, 2) else match ptG (nums s) 0 0 0 with
    | none => (0, 0, 2)
    | some (a, b) => if a = 0 ∧ b = 0 then (0, 0, 2) else (a, b, 0)
theorem or_nib (v d : Nat) (hv : v < 1152921504606846976) (hd : d < 16) : bits .or .u64 (((v * 16 : Nat)) : Int) (d : Int) = ((v * 16 + d : Nat) : Int) := by
  rw [u64_or_nat _ _ (by omega) (by omega)]
  have e : v * 16 = 2 ^ 4 * v := by omega
  rw [e, ← Nat.two_pow_add_eq_or_of_lt (show d < 2 ^ 4 from by omega) v]

theorem resCellTmp {P : Program} {fn : Func} {p u : Tmp} {ty : TypeId} (h : fn.results = #[.cell p ty, .tmp u]) (tmps : Array Value) (w : World) (g : Nat) (t : TypeId) (cs : Array Value) (d : TypeDesc)
    (hp : tmps.getD p undef = .pointer (some ⟨g, 0, none⟩)) (hg : Bk w g t cs)
    (hu : P.underlying ty = some d) (hd : (match d with | .struct _ | .array _ _ => true | _ => false) = true) (hi : (P.info? ty).map (·.size) = some cs.size) :
    (results fn tmps).run P w = .ok (.tuple #[.agg cs, tmps.getD u undef]) w := by
  rw [results_cell_tmp h, hp]
  simp [asAddr, Result.andThen, run_loadVar_row w g t ty cs (0, 0) d hg hu hd hi]

theorem Bk.rowT {w : World} {g : Nat} {t : TypeId} {old : Array Value} (h : Bk w g t old) (cs : Array Value) : Bk (w.setRow g cs) g t cs := setRow_heap w g old cs t (0, 0) h
theorem below_rowT (w : World) {B g : Nat} (h : B ≤ g) (cs : Array Value) : Below B w (w.setRow g cs) :=
  ⟨rfl, rfl, rfl, by simp [World.setRow], fun i hi => by simp [World.setRow, Array.getElem?_modify]; intro e; omega⟩
theorem ptG_drop {s : ByteArray} {i a b : Nat} {c : Int} (h : (nums s)[i]? = some c) : ptG ((nums s).drop i) i a b = if hexV c < 0 then none else if i < 16 then ptG ((nums s).drop (i + 1)) (i + 1) (a * 16 + (hexV c).toNat) b else ptG ((nums s).drop (i + 1)) (i + 1) a (b * 16 + (hexV c).toNat) := by
  have hl := (List.getElem?_eq_some_iff.1 h).1
  have e : (nums s).drop i = c :: (nums s).drop (i + 1) := by
    rw [List.drop_eq_getElem_cons hl, (List.getElem?_eq_some_iff.1 h).2]
  rw [e, ptG]

end Go.Proofs.Ytchpekidnbdpdaa


/- A map of whatever keys and values, as it lies: pairs in the order of their coming; update, lookup, len, range. -/
namespace Go.Proofs.Ytchpekidnbdpdaa
open Go.RowKit Go.MapKept Go.ChangeMaps

/-- What runs over keys want of the keys' type. -/
structure KeyRun (P : Program) (kt : TypeId) {κ : Type} (kv : κ → Value) : Prop where
  inj : ∀ {x y : κ}, kv x = kv y → x = y
  check : ∀ (w : World) (em : Bool) (x : κ), (Instr.checkKey em 10000 kt (kv x)).run P w = .ok () w
  find : ∀ (w : World) (x : κ) (es : List MapEntry), (∀ e ∈ es, ∃ y, e.key = kv y) →
    ((Instr.findKey kt (kv x) es).run P w = .ok none w ∧ ∀ e ∈ es, e.key ≠ kv x) ∨ ∃ j e, (Instr.findKey kt (kv x) es).run P w = .ok (some (j, e.val)) w ∧ es[j]? = some e ∧ e.key = kv x
  stays : ∀ (w : World) (x : κ), (Instr.keyThatStays (kv x) (kv x)).run P w = .ok (kv x) w

section
variable {κ ν : Type} {kv : κ → Value} {vv : ν → Value}
def mgE (kv : κ → Value) (vv : ν → Value) (L : List (κ × ν)) : List MapEntry := L.mapIdx fun i p => ⟨kv p.1, vv p.2, i⟩
theorem mgE_length (L : List (κ × ν)) : (mgE kv vv L).length = L.length := by simp [mgE]
theorem mgE_get {L : List (κ × ν)} {i : Nat} {p : κ × ν} (h : L[i]? = some p) : (mgE kv vv L)[i]? = some ⟨kv p.1, vv p.2, i⟩ := by simp [mgE, h]
theorem mgE_getI {L : List (κ × ν)} {i : Nat} {e : MapEntry} (h : (mgE kv vv L)[i]? = some e) : ∃ p, L[i]? = some p ∧ e = ⟨kv p.1, vv p.2, i⟩ := by
  rw [mgE, List.getElem?_mapIdx] at h
  cases hp : L[i]? with
  | none => rw [hp] at h; cases h
  | some p => rw [hp] at h; exact ⟨p, rfl, (Option.some.inj h).symm⟩
theorem mgE_mem {L : List (κ × ν)} {e : MapEntry} (h : e ∈ mgE kv vv L) : ∃ i p, L[i]? = some p ∧ e = ⟨kv p.1, vv p.2, i⟩ := by
  obtain ⟨i, hi, rfl⟩ := List.getElem_of_mem h
  obtain ⟨p, hp, he⟩ := mgE_getI (List.getElem?_eq_getElem hi)
  exact ⟨i, p, hp, he⟩
theorem mgE_keys (L : List (κ × ν)) : ∀ e ∈ mgE kv vv L, ∃ y, e.key = kv y := fun e he => by
  obtain ⟨i, p, -, rfl⟩ := mgE_mem he
  exact ⟨p.1, rfl⟩
theorem mgE_snoc (L : List (κ × ν)) (p : κ × ν) : mgE kv vv (L ++ [p]) = mgE kv vv L ++ [⟨kv p.1, vv p.2, L.length⟩] := by simp [mgE, List.mapIdx_append]
theorem mgE_set (L : List (κ × ν)) (i : Nat) (p : κ × ν) : mgE kv vv (L.set i p) = (mgE kv vv L).set i ⟨kv p.1, vv p.2, i⟩ := by
  apply List.ext_getElem?
  intro j
  simp only [mgE, List.getElem?_mapIdx, List.getElem?_set]
  by_cases hij : i = j
  · subst hij
    simp
  · simp [hij]
theorem mgE_born (L : List (κ × ν)) : (mgE kv vv L).map (·.born) = List.range L.length := by
  apply List.ext_getElem?
  intro j
  simp only [mgE, List.getElem?_map, List.getElem?_mapIdx, List.getElem?_range, Option.map_map]
  by_cases hj : j < L.length
  · simp [hj]
  · simp [hj]
/-- Block b is just this map. -/
def Mg (kv : κ → Value) (vv : ν → Value) (w : World) (b : Nat) (L : List (κ × ν)) : Prop := w.heap[b]? = some (.map (mgE kv vv L).toArray L.length) ∧ (L.map (·.1)).Nodup
variable {w w' : World} {b : Nat} {L : List (κ × ν)}
theorem Mg.lt (h : Mg kv vv w b L) : b < w.heap.size := (Array.getElem?_eq_some_iff.1 h.1).1
theorem Mg.new (w : World) : Mg kv vv (w.alloc (.map #[] 0)) w.heap.size [] := ⟨heap_alloc_new w _, List.nodup_nil⟩
theorem Mg.alloc (h : Mg kv vv w b L) (o : Obj) : Mg kv vv (w.alloc o) b L := ⟨(Below.heap_alloc w o b h.lt).trans h.1, h.2⟩
theorem Mg.drew (h : Mg kv vv w b L) : Mg kv vv w.drew b L := h
theorem Mg.drewN (h : Mg kv vv w b L) (n : Nat) : Mg kv vv (w.drewN n) b L := h
theorem Mg.below {B : Nat} (h : Mg kv vv w b L) (hb : Below B w w') (hg : b < B) : Mg kv vv w' b L := ⟨(hb.block b hg).trans h.1, h.2⟩
theorem Mg.bS (h : Mg kv vv w b L) (hb : Below w.heap.size w w') : Mg kv vv w' b L := h.below hb h.lt
theorem Mg.grown {k : Option Nat} (h : Mg kv vv w b L) (hg : w.grownBy w' k) (hne : some b ≠ k) : Mg kv vv w' b L := ⟨(hg.block b h.lt hne).trans h.1, h.2⟩

theorem mg_find {P : Program} {kt : TypeId} (K : KeyRun P kt kv) (hL : (L.map (·.1)).Nodup) (w : World) (k : κ) :
    (k ∉ L.map (·.1) ∧ (Instr.findKey kt (kv k) (mgE kv vv L)).run P w = .ok none w) ∨ ∃ i v, L[i]? = some (k, v) ∧ (Instr.findKey kt (kv k) (mgE kv vv L)).run P w = .ok (some (i, vv v)) w := by
  rcases K.find w k (mgE kv vv L) (mgE_keys L) with ⟨h1, h2⟩ | ⟨j, e, h1, h2, h3⟩
  · refine .inl ⟨fun hk => ?_, h1⟩
    obtain ⟨p, hp, rfl⟩ := List.mem_map.1 hk
    obtain ⟨i, hi, rfl⟩ := List.getElem_of_mem hp
    exact h2 _ (List.mem_of_getElem? (mgE_get (List.getElem?_eq_getElem hi))) rfl
  · obtain ⟨p, hp, rfl⟩ := mgE_getI h2
    have hk := K.inj (show kv p.1 = kv k from h3)
    subst hk
    exact .inr ⟨j, p.2, hp, h1⟩
theorem run_mgLen {P : Program} {w : World} {t kt e : TypeId} (ht : P.underlying t = some (.map kt e)) (hb : Mg kv vv w b L) (ty : TypeId) :
    (Builtin.len_ #[t] ty #[.map (some b)]).run P w = .ok (.int .i64 L.length) w := by
  simp [Builtin.len_, run_underlying ht, MapKept.run_getObj_map hb.1, goInt, Result.andThen, mgE_length]
/-! ### range over a map that stands -/
/-- An iterator in block r over the map in block b: which places it has handed out. -/
structure Rg (kv : κ → Value) (vv : ν → Value) (w : World) (b r : Nat) (L : List (κ × ν)) (seen : Array Nat) : Prop where
  map : Mg kv vv w b L
  it : w.heap[r]? = some (.mapIter (some b) L.length seen L.length)
  nd : seen.toList.Nodup
  lt : ∀ i ∈ seen.toList, i < L.length
/-- What has been handed out. -/
def rgOut (L : List (κ × ν)) (seen : Array Nat) : List (κ × ν) := seen.toList.filterMap fun i => L[i]?
theorem Rg.ne {r : Nat} {seen : Array Nat} (h : Rg kv vv w b r L seen) : r ≠ b := fun e => by
  have h1 := h.it
  rw [e, h.map.1] at h1
  cases h1
theorem Rg.ltr {r : Nat} {seen : Array Nat} (h : Rg kv vv w b r L seen) : r < w.heap.size := (Array.getElem?_eq_some_iff.1 h.it).1
theorem Rg.below {B r : Nat} {seen : Array Nat} (h : Rg kv vv w b r L seen) (hb : Below B w w') (hg : b < B) (hr : r < B) : Rg kv vv w' b r L seen := ⟨h.map.below hb hg, (hb.block r hr).trans h.it, h.nd, h.lt⟩
theorem Rg.bS {r : Nat} {seen : Array Nat} (h : Rg kv vv w b r L seen) (hb : Below w.heap.size w w') : Rg kv vv w' b r L seen := h.below hb h.map.lt h.ltr
theorem Rg.grown {k : Option Nat} {r : Nat} {seen : Array Nat} (h : Rg kv vv w b r L seen) (hg : w.grownBy w' k) (hne : some b ≠ k) (hnr : some r ≠ k) : Rg kv vv w' b r L seen := ⟨h.map.grown hg hne, (hg.block r h.ltr hnr).trans h.it, h.nd, h.lt⟩
theorem Rg.start (h : Mg kv vv w b L) : Rg kv vv (w.alloc (.mapIter (some b) L.length #[] L.length)) b w.heap.size L #[] := ⟨h.alloc _, heap_alloc_new w _, List.nodup_nil, fun i hi => by cases hi⟩
theorem run_mgRange {P : Program} {w : World} {t kt e : TypeId} (ht : P.underlying t = some (.map kt e)) (hb : Mg kv vv w b L) :
    (Instr.range t (.map (some b))).run P w = .ok (.pointer (some ⟨w.heap.size, 0, none⟩)) (w.alloc (.mapIter (some b) L.length #[] L.length)) :=
  run_range_map w t kt e b _ _ ht hb.1
theorem nodup_len_le : ∀ (n : Nat) {s : List Nat}, s.Nodup → (∀ i ∈ s, i < n) → s.length ≤ n
  | 0, [], _, _ => Nat.le_refl _
  | 0, x :: l, _, h => absurd (h x (List.mem_cons_self ..)) (Nat.not_lt_zero _)
  | n + 1, s, hn, h => by
    have h1 := nodup_len_le n (s := s.erase n) (hn.erase n) (fun i hi => by
      have h2 := (hn.mem_erase_iff).1 hi
      have h3 := h i h2.2
      have h4 := h2.1
      omega)
    have h5 : s.length ≤ (s.erase n).length + 1 := by
      rw [List.length_erase]
      split <;> omega
    omega
theorem Rg.size_le {r : Nat} {seen : Array Nat} (h : Rg kv vv w b r L seen) : seen.size ≤ L.length := by
  have := nodup_len_le _ h.nd h.lt
  simpa using this
/-- All is handed out. -/
theorem Rg.all {r : Nat} {seen : Array Nat} (h : Rg kv vv w b r L seen) (hall : (leftOf (mgE kv vv L).toArray seen).size = 0) : (rgOut L seen).Perm L := by
  have hs := all_seen _ seen hall
  have hp : seen.toList.Perm (List.range L.length) := by
    rw [List.perm_ext_iff_of_nodup h.nd List.nodup_range]
    intro i
    refine ⟨fun hi => List.mem_range.2 (h.lt i hi), fun hi => ?_⟩
    have hi' := List.mem_range.1 hi
    have := hs _ (List.mem_of_getElem? (mgE_get (kv := kv) (vv := vv) (List.getElem?_eq_getElem hi')))
    simpa using this
  have h2 := hp.filterMap fun i => L[i]?
  refine h2.trans ?_
  have : (List.range L.length).filterMap (fun i => L[i]?) = L := by
    clear h2 hp hs hall h
    induction L with
    | nil => rfl
    | cons x l ih =>
      rw [List.length_cons, List.range_succ_eq_map, List.filterMap_cons]
      simp only [List.getElem?_cons_zero, List.filterMap_map]
      rw [← ih]
      congr 1
      conv => rhs; rw [← ih]
      rfl
  rw [this]
/-- The step. -/
theorem Rg.next {P : Program} {r : Nat} {seen : Array Nat} (h : Rg kv vv w b r L seen) (ty : TypeId) :
    ((rgOut L seen).Perm L ∧ (Instr.next (.pointer (some ⟨r, 0, none⟩)) false ty).run P w = .ok (.tuple #[.bool false]) w) ∨
    ∃ k v seen' w', (k, v) ∈ L ∧ (Instr.next (.pointer (some ⟨r, 0, none⟩)) false ty).run P w = .ok (.tuple #[.bool true, kv k, vv v]) w' ∧ Rg kv vv w' b r L seen' ∧ rgOut L seen' = rgOut L seen ++ [(k, v)] ∧ seen'.size = seen.size + 1 ∧ seen'.size ≤ L.length ∧ w.grownBy w' (some r) ∧ w'.heap.size = w.heap.size ∧
      ∀ W, Rg kv vv W b r L seen' → (Instr.entry (.pointer (some ⟨r, 0, none⟩))).run P W = .ok (.tuple #[kv k, vv v]) W := by
  have hborn : ((mgE kv vv L).toArray.toList.map (·.born)) = List.range L.length := by simpa using mgE_born (kv := kv) (vv := vv) L
  have hold : ∀ x ∈ (mgE kv vv L).toArray.toList, x.born < L.length := fun x hx => by
    have : x.born ∈ List.range L.length := by rw [← hborn]; exact List.mem_map.2 ⟨x, hx, rfl⟩
    exact List.mem_range.1 this
  rcases run_next_at (P := P) w ty r b L.length L.length seen _ _ h.it h.map.1 hold (Nat.le_refl _) with ⟨h0, hrun⟩ | ⟨e, he, w1, hal, hrun⟩
  · exact .inl ⟨h.all h0, hrun⟩
  · obtain ⟨hem, hes⟩ := mem_left he
    obtain ⟨i, p, hp, rfl⟩ := mgE_mem (show e ∈ mgE kv vv L from hem)
    have hr1 : w1.heap[r]? = some (.mapIter (some b) L.length seen L.length) := by rcases hal with rfl | rfl <;> exact h.it
    have hb1 : w1.heap[b]? = some (.map (mgE kv vv L).toArray L.length) := by rcases hal with rfl | rfl <;> exact h.map.1
    have hset := heap_set (o' := .mapIter (some b) L.length (seen.push i) L.length) hr1
    have hnot : i ∉ seen.toList := by
      have : seen.contains i = false := hes
      simpa using this
    have hR : Rg kv vv (setBlock w1 r (.mapIter (some b) L.length (seen.push i) L.length)) b r L (seen.push i) := by
      refine ⟨⟨(hset.2 b (fun e1 => h.ne e1.symm)).trans hb1, h.map.2⟩, hset.1, ?_, ?_⟩
      · rw [Array.toList_push, List.nodup_append]
        exact ⟨h.nd, by simp, fun a ha c hc e => by simp at hc; subst hc; exact hnot (e ▸ ha)⟩
      · intro j hj
        rw [Array.toList_push, List.mem_append] at hj
        rcases hj with hj | hj
        · exact h.lt j hj
        · simp at hj
          subst hj
          exact (List.getElem?_eq_some_iff.1 hp).1
    refine .inr ⟨p.1, p.2, seen.push i, _, List.mem_of_getElem? hp, hrun, hR, ?_, by simp, by have := hR.size_le; exact this, ?_, ?_, fun W hW => ?_⟩
    · simp [rgOut, hp]
    · rcases hal with rfl | rfl <;> exact ⟨rfl, rfl, rfl, by simp [setBlock], fun i _ hi => hset.2 i (fun e1 => hi (by rw [e1]))⟩
    · rcases hal with rfl | rfl <;> simp [setBlock]
    · exact run_entry_at W r b L.length seen (mgE kv vv L).toArray L.length ⟨kv p.1, vv p.2, i⟩ hW.it hW.map.1 hem (by rw [hborn]; exact List.nodup_range)
section
variable [DecidableEq κ]
/-- An update. -/
def mgPut (k : κ) (v : ν) : List (κ × ν) → List (κ × ν)
  | [] => [(k, v)]
  | p :: l => if p.1 = k then (k, v) :: l else p :: mgPut k v l
def mgGet (k : κ) (L : List (κ × ν)) : Option ν := (L.find? fun p => decide (p.1 = k)).map (·.2)
theorem mgPut_new {k : κ} {v : ν} : ∀ {L : List (κ × ν)}, k ∉ L.map (·.1) → mgPut k v L = L ++ [(k, v)]
  | [], _ => rfl
  | p :: l, h => by
    rw [mgPut, if_neg (fun e => h (by simp [e])), mgPut_new (fun hm => h (List.mem_cons_of_mem _ hm))]
    rfl
theorem mgPut_old {k : κ} {v : ν} : ∀ {L : List (κ × ν)} {i : Nat} {u : ν}, (L.map (·.1)).Nodup → L[i]? = some (k, u) → mgPut k v L = L.set i (k, v)
  | [], i, _, _, h => by simp at h
  | p :: l, 0, u, _, h => by
    simp at h
    subst h
    simp [mgPut]
  | p :: l, i + 1, u, hn, h => by
    obtain ⟨h1, h2⟩ := List.nodup_cons.1 hn
    simp at h
    rw [mgPut, if_neg (fun e => h1 (List.mem_map.2 ⟨_, List.mem_of_getElem? h, e.symm⟩)), mgPut_old h2 h]
    rfl
theorem mgPut_keys {k : κ} {v : ν} : ∀ (L : List (κ × ν)), (mgPut k v L).map (·.1) = if k ∈ L.map (·.1) then L.map (·.1) else L.map (·.1) ++ [k]
  | [] => by simp [mgPut]
  | p :: l => by
    rw [mgPut]
    by_cases h : p.1 = k
    · rw [if_pos h, if_pos (by simp [h])]
      simp [h]
    · rw [if_neg h]
      simp only [List.map_cons]
      rw [mgPut_keys l]
      by_cases h2 : k ∈ l.map (·.1)
      · rw [if_pos h2, if_pos (List.mem_cons_of_mem _ h2)]
      · rw [if_neg h2, if_neg (fun hm => by rcases List.mem_cons.1 hm with e | e; exact h e.symm; exact h2 e)]
        rfl
theorem mgPut_nodup {k : κ} {v : ν} {L : List (κ × ν)} (h : (L.map (·.1)).Nodup) : ((mgPut k v L).map (·.1)).Nodup := by
  rw [mgPut_keys]
  split
  · exact h
  · rename_i hk
    rw [List.nodup_append]
    exact ⟨h, by simp, fun a ha b hb e => by simp at hb; subst hb; exact hk (e ▸ ha)⟩
theorem mgPut_len_le {k : κ} {v : ν} (L : List (κ × ν)) : (mgPut k v L).length ≤ L.length + 1 := by
  have h := congrArg List.length (mgPut_keys (k := k) (v := v) L)
  split at h <;> simp at h <;> omega
theorem mgGet_none {k : κ} {L : List (κ × ν)} (h : k ∉ L.map (·.1)) : mgGet k L = none := by
  have : L.find? (fun p => decide (p.1 = k)) = none := by
    rw [List.find?_eq_none]
    intro p hp e
    exact h (List.mem_map.2 ⟨p, hp, of_decide_eq_true e⟩)
  rw [mgGet, this]
  rfl
theorem mgGet_some {k : κ} {v : ν} : ∀ {L : List (κ × ν)}, (L.map (·.1)).Nodup → (k, v) ∈ L → mgGet k L = some v
  | [], _, h => by cases h
  | p :: l, hn, h => by
    obtain ⟨h1, h2⟩ := List.nodup_cons.1 hn
    rcases List.mem_cons.1 h with e | h
    · subst e
      simp [mgGet]
    · have hne : p.1 ≠ k := fun e => h1 (List.mem_map.2 ⟨_, h, e.symm⟩)
      have := mgGet_some h2 h
      rw [mgGet] at this ⊢
      rw [List.find?_cons, decide_eq_false hne]
      exact this
theorem mgGet_mem {k : κ} {v : ν} {L : List (κ × ν)} (h : mgGet k L = some v) : (k, v) ∈ L := by
  rw [mgGet, Option.map_eq_some_iff] at h
  obtain ⟨p, hp, rfl⟩ := h
  have h1 := List.find?_some hp
  have h2 := List.mem_of_find?_eq_some hp
  have : p.1 = k := of_decide_eq_true h1
  rw [← this]
  exact h2

theorem run_mgLook {P : Program} {w : World} {t kt e : TypeId} (K : KeyRun P kt kv) (ht : P.underlying t = some (.map kt e)) {z : Value} (hz : (zeroValue e).run P w = .ok z w) (hb : Mg kv vv w b L) (k : κ) (c : Bool) :
    (Instr.lookup t (.map (some b)) (kv k) c).run P w = .ok (if c then .tuple #[((mgGet k L).map vv).getD z, .bool (mgGet k L).isSome] else ((mgGet k L).map vv).getD z) w := by
  rcases mg_find (vv := vv) K hb.2 w k with ⟨hk, hf⟩ | ⟨i, v, hi, hf⟩
  · rw [mgGet_none hk]
    simp [Instr.lookup, run_underlying ht, MapKept.run_getObj_map hb.1, K.check, hf, hz, Result.andThen]
  · rw [mgGet_some hb.2 (List.mem_of_getElem? hi)]
    simp [Instr.lookup, run_underlying ht, MapKept.run_getObj_map hb.1, K.check, hf, Result.andThen]
theorem run_mgPut {P : Program} {w : World} {t kt e : TypeId} (K : KeyRun P kt kv) (ht : P.underlying t = some (.map kt e)) (hb : Mg kv vv w b L) (k : κ) (v : ν) :
    (Instr.mapUpdate t (.map (some b)) (kv k) (vv v)).run P w = .ok () { w with heap := w.heap.setIfInBounds b (.map (mgE kv vv (mgPut k v L)).toArray (mgPut k v L).length) } := by
  rcases mg_find (vv := vv) K hb.2 w k with ⟨hk, hf⟩ | ⟨i, u, hi, hf⟩
  · rw [mgPut_new hk]
    simp [Instr.mapUpdate, run_underlying ht, MapKept.run_getObj_map hb.1, K.check, hf, MapKept.run_setObj_map _ hb.1, Result.andThen, mgE_snoc]
  · rw [mgPut_old hb.2 hi]
    have hi' := mgE_get (kv := kv) (vv := vv) hi
    have hm : ((mgE kv vv L).modify i fun e => { key := kv k, val := vv v, born := e.born }) = mgE kv vv (L.set i (k, v)) := by
      rw [mgE_set]
      apply List.ext_getElem?
      intro j
      rw [List.getElem?_modify, List.getElem?_set]
      by_cases hij : i = j
      · subst hij
        have hl := (List.getElem?_eq_some_iff.1 hi').1
        rw [hi']
        simp [hl]
      · simp [hij]
    simp [Instr.mapUpdate, run_underlying ht, MapKept.run_getObj_map hb.1, K.check, hf, hi', K.stays, MapKept.run_setObj_map _ hb.1, Result.andThen, hm]
theorem wpList_mgPut {P : Program} (w : World) {ops : Array Oper} {rest : List Oper} {o : Oper} {a : Act} {Q : Exit → Act → World → Prop}
    (hg : o.guard = none) (m x y : Operand) (t : TypeId) (hop : o.op = Op.mapUpdate t m x y) {kt e : TypeId} (K : KeyRun P kt kv) (ht : P.underlying t = some (.map kt e))
    (b : Nat) (L : List (κ × ν)) (hm : a.eval m = .map (some b)) (hb : Mg kv vv w b L) (k : κ) (v : ν) (hx : a.eval x = kv k) (hv : a.eval y = vv v)
    (hK : ∀ w', Mg kv vv w' b (mgPut k v L) → w.grownBy w' (some b) → w'.heap.size = w.heap.size → wpList P ops Q rest (a.put o.dst undef) w') :
    wpList P ops Q (o :: rest) a w := by
  refine wpList_plain hg fun K' hK' => ?_
  have hrun := run_mgPut K ht hb k v
  unfold Oper.wp
  simp [execOp, hop, hm, hx, hv, hrun, Result.andThen]
  refine hK' _ _ (hK _ ⟨?_, mgPut_nodup hb.2⟩ ⟨rfl, rfl, rfl, by simp, fun i _ hne => ?_⟩ (by simp))
  · have := hb.lt
    show (w.heap.setIfInBounds b _)[b]? = _
    simp [this]
  · show (w.heap.setIfInBounds b _)[i]? = _
    rw [Array.getElem?_setIfInBounds, if_neg (fun e => hne (by rw [e]))]

end
end
/-- Keys that are numbers of a kind. -/
theorem intRun {P : Program} {kt : TypeId} {q : IntKind} (hk : P.underlying kt = some (.int q)) : KeyRun P kt (fun n : Nat => Value.int q n) where
  inj h := by injection h with _ h; omega
  check w em x := MapKept.run_checkKey hk (by simp [IsKey]) em 9999
  find w x es hes := by
    rcases findNow_spec (d := .int q) (k := .int q x) (by simp [IsKey]) es 0 (fun e he => by obtain ⟨y, hy⟩ := hes e he; rw [hy]; simp [IsKey]) with ⟨h1, h2⟩ | ⟨j, e, h1, h2, h3⟩
    · exact .inl ⟨MapKept.run_findKey hk h1, h2⟩
    · exact .inr ⟨j, e, by rw [MapKept.run_findKey hk h1, Nat.zero_add], h2, h3⟩
  stays w x := MapKept.run_keyThatStays (d := .int q) (by simp [IsKey])
end Go.Proofs.Ytchpekidnbdpdaa


/- Texts as keys. -/
namespace Go.Proofs.Ytchpekidnbdpdaa
open Go.RowKit Go.MapKept Go.ChangeMaps

abbrev strV (s : ByteArray) : Value := .string s
theorem strRun {P : Program} {kt : TypeId} (hk : P.underlying kt = some .string) : KeyRun P kt strV where
  inj h := by injection h
  check w em x := MapKept.run_checkKey hk (by simp [IsKey]) em 9999
  find w x es hes := by
    rcases findNow_spec (d := .string) (k := .string x) (by simp [IsKey]) es 0 (fun e he => by obtain ⟨y, hy⟩ := hes e he; rw [hy]; simp [IsKey]) with ⟨h1, h2⟩ | ⟨j, e, h1, h2, h3⟩
    · exact .inl ⟨MapKept.run_findKey hk h1, h2⟩
    · exact .inr ⟨j, e, by rw [MapKept.run_findKey hk h1, Nat.zero_add], h2, h3⟩
  stays w x := MapKept.run_keyThatStays (d := .string) (by simp [IsKey])
theorem Rs.get {w : World} {B : Nat} {A : Option Addr} {xs : List ByteArray} (h : Rd w B A (xs.map strV)) {i : Nat} {x : ByteArray} (hi : xs[i]? = some x) : ∃ b o, A = some ⟨b, o, none⟩ ∧ w.cell? ⟨b, o + i, none⟩ = some (.string x) := by
  obtain ⟨b, o, e, -, hc⟩ := Rd.get h (show (xs.map strV)[i]? = some (.string x) by rw [List.getElem?_map, hi]; rfl)
  exact ⟨b, o, e, hc⟩
end Go.Proofs.Ytchpekidnbdpdaa


/- A map whose keys may go again, as it lies: pairs with births; update, delete, lookup, len, range. -/
namespace Go.Proofs.Ytchpekidnbdpdaa
open Go.RowKit Go.MapKept Go.ChangeMaps

/-- What runs over keys want of the keys' type, where keys can be compared in some worlds alone (pointers). -/
structure KeyAt (P : Program) (kt : TypeId) {κ : Type} (kv : κ → Value) (good : World → κ → Prop) : Prop where
  inj : ∀ {x y : κ}, kv x = kv y → x = y
  check : ∀ (w : World) (em : Bool) (x : κ), (Instr.checkKey em 10000 kt (kv x)).run P w = .ok () w
  find : ∀ (w : World) (x : κ) (es : List MapEntry), good w x → (∀ e ∈ es, ∃ y, good w y ∧ e.key = kv y) →
    ((Instr.findKey kt (kv x) es).run P w = .ok none w ∧ ∀ e ∈ es, e.key ≠ kv x) ∨ ∃ j e, (Instr.findKey kt (kv x) es).run P w = .ok (some (j, e.val)) w ∧ es[j]? = some e ∧ e.key = kv x
  stays : ∀ (w : World) (x : κ), (Instr.keyThatStays (kv x) (kv x)).run P w = .ok (kv x) w
theorem KeyRun.at {P : Program} {kt : TypeId} {κ : Type} {kv : κ → Value} (K : KeyRun P kt kv) : KeyAt P kt kv fun _ _ => True :=
  ⟨K.inj, K.check, fun w x es _ h => K.find w x es fun e he => by
    obtain ⟨y, -, h2⟩ := h e he
    exact ⟨y, h2⟩, K.stays⟩
/-- A pointer to the block b's begin. -/
abbrev ptV (b : Nat) : Value := .pointer (some ⟨b, 0, none⟩)
/-- A block that is some struct's. -/
def IsRow (w : World) (b : Nat) : Prop := ∃ cs t, w.heap[b]? = some (.cells cs t (0, 0))
theorem ptAt {P : Program} {kt e : TypeId} {j : TypeInfo} (hk : P.underlying kt = some (.pointer e)) (hte : P.info? e = some j) (hsz : j.size ≠ 0) : KeyAt P kt ptV IsRow where
  inj h := by injection h with e2; injection e2 with e3; injection e3
  check w em x := by
    unfold Instr.checkKey
    simp only [Sem.run_bind, run_underlying hk, Result.andThen]
    rfl
  find w x es hx hes := by
    have hq : ∀ y, IsRow w y → (Op.equal kt (ptV x) (ptV y)).run P w = .ok (decide (x = y)) w := fun y hy => by
      by_cases hxy : x = y
      · subst hxy
        have h : ∀ d : Nat, (Op.equalIn (d + 1) kt (ptV x) (ptV x)).run P w = .ok true w := fun d => by
          simp [Op.equalIn, run_underlying hk, sizeOf, typeInfo, hte, run_sameAddr_same]
        rw [decide_eq_true rfl]
        exact h 9999
      · obtain ⟨ca, ta, ha⟩ := hx
        obtain ⟨cb, tb, hb⟩ := hy
        have hne : (⟨x, 0, none⟩ : Addr) ≠ ⟨y, 0, none⟩ := fun e1 => hxy (by injection e1)
        have h : ∀ d : Nat, (Op.equalIn (d + 1) kt (ptV x) (ptV y)).run P w = .ok false w := fun d => by
          simp [Op.equalIn, run_underlying hk, sizeOf, typeInfo, hte, hsz, run_sameAddr_other w hne ha hb]
        rw [decide_eq_false hxy]
        exact h 9999
    have hask : ∀ (es : List MapEntry) (i : Nat), (∀ e ∈ es, ∃ y, IsRow w y ∧ e.key = ptV y) →
        ((Instr.findAsking kt (ptV x) es i).run P w = .ok none w ∧ ∀ e ∈ es, e.key ≠ ptV x) ∨ ∃ j e, (Instr.findAsking kt (ptV x) es i).run P w = .ok (some (i + j, e.val)) w ∧ es[j]? = some e ∧ e.key = ptV x := by
      intro es
      induction es with
      | nil => exact fun i _ => .inl ⟨rfl, fun e he => by cases he⟩
      | cons e0 l ih =>
        intro i hl
        obtain ⟨y, hy, hey⟩ := hl e0 (List.mem_cons_self ..)
        have h1 := hq y hy
        by_cases hxy : x = y
        · refine .inr ⟨0, e0, ?_, rfl, by rw [hey, hxy]⟩
          rw [decide_eq_true hxy] at h1
          simp [Instr.findAsking, hey, h1, Result.andThen]
        · rw [decide_eq_false hxy] at h1
          have h2 : (Instr.findAsking kt (ptV x) (e0 :: l) i).run P w = (Instr.findAsking kt (ptV x) l (i + 1)).run P w := by
            simp [Instr.findAsking, hey, h1, Result.andThen]
          rw [h2]
          rcases ih (i + 1) (fun e he => hl e (List.mem_cons_of_mem _ he)) with ⟨h3, h4⟩ | ⟨j, e, h3, h4, h5⟩
          · refine .inl ⟨h3, fun e he => ?_⟩
            rcases List.mem_cons.1 he with rfl | he
            · rw [hey]
              exact fun e1 => hxy (by injection e1 with e2; injection e2 with e3; injection e3 with e4; exact e4.symm)
            · exact h4 e he
          · exact .inr ⟨j + 1, e, by rw [h3, show i + (j + 1) = i + 1 + j from by omega], by simpa using h4, h5⟩
    have hnow : (Instr.findKey kt (ptV x) es).run P w = (Instr.findAsking kt (ptV x) es).run P w := by
      cases es with
      | nil => simp [Instr.findKey, run_underlying hk, Instr.findNow, Instr.findAsking, Result.andThen]
      | cons e0 l => simp [Instr.findKey, run_underlying hk, Instr.findNow, Instr.sameNow, Result.andThen]
    rw [hnow]
    rcases hask es 0 hes with h | ⟨j, e, h1, h2⟩
    · exact .inl h
    · exact .inr ⟨j, e, by rw [h1, Nat.zero_add], h2⟩
  stays w x := by simp [Instr.keyThatStays, Instr.sameBits]

section
variable {κ ν : Type} {kv : κ → Value} {vv : ν → Value}
def mhE (kv : κ → Value) (vv : ν → Value) (T : List ((κ × ν) × Nat)) : List MapEntry := T.map fun t => ⟨kv t.1.1, vv t.1.2, t.2⟩
/-- Block b is just this map, with these births and clock. -/
structure MhT (kv : κ → Value) (vv : ν → Value) (w : World) (b : Nat) (T : List ((κ × ν) × Nat)) (c : Nat) : Prop where
  at_ : w.heap[b]? = some (.map (mhE kv vv T).toArray c)
  keys : (T.map fun t => t.1.1).Nodup
  born : (T.map (·.2)).Nodup
  lt : ∀ t ∈ T, t.2 < c
/-- Block b is just this map. -/
def Mh (kv : κ → Value) (vv : ν → Value) (w : World) (b : Nat) (L : List (κ × ν)) : Prop := ∃ T c, MhT kv vv w b T c ∧ T.map (·.1) = L
variable {w w' : World} {b : Nat} {L : List (κ × ν)} {T : List ((κ × ν) × Nat)} {c : Nat}
theorem MhT.of (h : MhT kv vv w b T c) (h' : w'.heap[b]? = w.heap[b]?) : MhT kv vv w' b T c := ⟨h'.trans h.at_, h.keys, h.born, h.lt⟩
theorem MhT.ltb (h : MhT kv vv w b T c) : b < w.heap.size := (Array.getElem?_eq_some_iff.1 h.at_).1
theorem Mh.of (h : Mh kv vv w b L) (h' : w'.heap[b]? = w.heap[b]?) : Mh kv vv w' b L := by
  obtain ⟨T, c, h1, h2⟩ := h
  exact ⟨T, c, h1.of h', h2⟩
theorem Mh.obj (h : Mh kv vv w b L) : ∃ es c, w.heap[b]? = some (.map es c) := by
  obtain ⟨T, c, h1, -⟩ := h
  exact ⟨_, _, h1.at_⟩
theorem Mh.lt (h : Mh kv vv w b L) : b < w.heap.size := by
  obtain ⟨T, c, h1, -⟩ := h
  exact h1.ltb
theorem Mh.nodup (h : Mh kv vv w b L) : (L.map (·.1)).Nodup := by
  obtain ⟨T, c, h1, rfl⟩ := h
  rw [List.map_map]
  exact h1.keys
theorem Mh.new (w : World) : Mh kv vv (w.alloc (.map #[] 0)) w.heap.size [] := ⟨[], 0, ⟨heap_alloc_new w _, List.nodup_nil, List.nodup_nil, fun t h => by cases h⟩, rfl⟩
theorem Mh.alloc (h : Mh kv vv w b L) (o : Obj) : Mh kv vv (w.alloc o) b L := h.of (Below.heap_alloc w o b h.lt)
theorem Mh.drew (h : Mh kv vv w b L) : Mh kv vv w.drew b L := h.of rfl
theorem Mh.drewN (h : Mh kv vv w b L) (n : Nat) : Mh kv vv (w.drewN n) b L := h.of rfl
theorem Mh.below {B : Nat} (h : Mh kv vv w b L) (hb : Below B w w') (hg : b < B) : Mh kv vv w' b L := h.of (hb.block b hg)
theorem Mh.bS (h : Mh kv vv w b L) (hb : Below w.heap.size w w') : Mh kv vv w' b L := h.below hb h.lt
theorem Mh.grown {k : Option Nat} (h : Mh kv vv w b L) (hg : w.grownBy w' k) (hne : some b ≠ k) : Mh kv vv w' b L := h.of (hg.block b h.lt hne)
/-- A copy of the block. -/
theorem Mh.copy (h : Mh kv vv w b L) {es : Array MapEntry} {c : Nat} (hb : w.heap[b]? = some (.map es c)) {b' : Nat} (hb' : w'.heap[b']? = some (.map es c)) : Mh kv vv w' b' L := by
  obtain ⟨T, c', h1, h2⟩ := h
  exact ⟨T, c', ⟨hb'.trans (hb.symm.trans h1.at_), h1.keys, h1.born, h1.lt⟩, h2⟩

theorem mh_find {P : Program} {kt : TypeId} {good : World → κ → Prop} (K : KeyAt P kt kv good) (w : World) (k : κ) (T : List ((κ × ν) × Nat)) (hk : good w k) (hT : ∀ p ∈ T.map (·.1), good w p.1) :
    (k ∉ (T.map (·.1)).map (·.1) ∧ (Instr.findKey kt (kv k) (mhE kv vv T)).run P w = .ok none w) ∨ ∃ i v n, T[i]? = some ((k, v), n) ∧ (Instr.findKey kt (kv k) (mhE kv vv T)).run P w = .ok (some (i, vv v)) w := by
  rcases K.find w k (mhE kv vv T) hk (fun e he => by
    obtain ⟨t, ht, rfl⟩ := List.mem_map.1 he
    exact ⟨t.1.1, hT _ (List.mem_map.2 ⟨t, ht, rfl⟩), rfl⟩) with ⟨h1, h2⟩ | ⟨j, e, h1, h2, h3⟩
  · refine .inl ⟨fun hk => ?_, h1⟩
    rw [List.map_map] at hk
    obtain ⟨t, ht, rfl⟩ := List.mem_map.1 hk
    exact h2 _ (List.mem_map.2 ⟨t, ht, rfl⟩) rfl
  · rw [mhE, List.getElem?_map, Option.map_eq_some_iff] at h2
    obtain ⟨t, ht, rfl⟩ := h2
    have hk := K.inj (show kv t.1.1 = kv k from h3)
    subst hk
    exact .inr ⟨j, t.1.2, t.2, ht, h1⟩
theorem run_mhLen {P : Program} {w : World} {t kt e : TypeId} (ht : P.underlying t = some (.map kt e)) (hb : Mh kv vv w b L) (ty : TypeId) :
    (Builtin.len_ #[t] ty #[.map (some b)]).run P w = .ok (.int .i64 L.length) w := by
  obtain ⟨T, c, h1, rfl⟩ := hb
  simp [Builtin.len_, run_underlying ht, MapKept.run_getObj_map h1.at_, goInt, Result.andThen, mhE]
/-! ### range over a map that stands -/
/-- An iterator in block r over the map in block b: what it has handed out. -/
def Rh (kv : κ → Value) (vv : ν → Value) (w : World) (b r : Nat) (L D : List (κ × ν)) : Prop :=
  ∃ (T : List ((κ × ν) × Nat)) (c : Nat) (Q : List ((κ × ν) × Nat)), MhT kv vv w b T c ∧ T.map (·.1) = L ∧ w.heap[r]? = some (.mapIter (some b) c (Q.map (·.2)).toArray c) ∧ (Q.map (·.2)).Nodup ∧ (∀ t ∈ Q, t ∈ T) ∧ Q.map (·.1) = D
variable {r : Nat} {D : List (κ × ν)}
theorem Rh.map (h : Rh kv vv w b r L D) : Mh kv vv w b L := by
  obtain ⟨T, c, Q, h1, h2, -⟩ := h
  exact ⟨T, c, h1, h2⟩
theorem Rh.sub (h : Rh kv vv w b r L D) {p : κ × ν} (hp : p ∈ D) : p ∈ L := by
  obtain ⟨T, c, Q, h1, rfl, h3, h4, h5, rfl⟩ := h
  obtain ⟨t, ht, rfl⟩ := List.mem_map.1 hp
  exact List.mem_map.2 ⟨t, h5 t ht, rfl⟩
theorem Rh.ltr (h : Rh kv vv w b r L D) : r < w.heap.size := by
  obtain ⟨T, c, Q, h1, h2, h3, -⟩ := h
  exact (Array.getElem?_eq_some_iff.1 h3).1
theorem Rh.of (h : Rh kv vv w b r L D) (hb : w'.heap[b]? = w.heap[b]?) (hr : w'.heap[r]? = w.heap[r]?) : Rh kv vv w' b r L D := by
  obtain ⟨T, c, Q, h1, h2, h3, h4⟩ := h
  exact ⟨T, c, Q, h1.of hb, h2, hr.trans h3, h4⟩
theorem Rh.below {B : Nat} (h : Rh kv vv w b r L D) (hb : Below B w w') (hg : b < B) (hr : r < B) : Rh kv vv w' b r L D := h.of (hb.block b hg) (hb.block r hr)
theorem Rh.bS (h : Rh kv vv w b r L D) (hb : Below w.heap.size w w') : Rh kv vv w' b r L D := h.below hb h.map.lt h.ltr
theorem Rh.grown {k : Option Nat} (h : Rh kv vv w b r L D) (hg : w.grownBy w' k) (hne : some b ≠ k) (hnr : some r ≠ k) : Rh kv vv w' b r L D := h.of (hg.block b h.map.lt hne) (hg.block r h.ltr hnr)
theorem Rh.ne (h : Rh kv vv w b r L D) : r ≠ b := fun e => by
  obtain ⟨T, c, Q, h1, h2, h3, -⟩ := h
  rw [e, h1.at_] at h3
  cases h3
theorem Rh.isIter (h : Rh kv vv w b r L D) : ∃ m s l c, w.heap[r]? = some (.mapIter m s l c) := by
  obtain ⟨T, c, Q, h1, h2, h3, -⟩ := h
  exact ⟨_, _, _, _, h3⟩
/-- The start of a range: the block, and the run. -/
theorem Rh.start (h : Mh kv vv w b L) : ∃ c, (∀ {P : Program} {t kt e : TypeId}, P.underlying t = some (.map kt e) → (Instr.range t (.map (some b))).run P w = .ok (.pointer (some ⟨w.heap.size, 0, none⟩)) (w.alloc (.mapIter (some b) c #[] c))) ∧
    Rh kv vv (w.alloc (.mapIter (some b) c #[] c)) b w.heap.size L [] := by
  obtain ⟨T, c, h1, h2⟩ := h
  exact ⟨c, fun ht => run_range_map w _ _ _ b _ _ ht h1.at_, T, c, [], h1.of (Below.heap_alloc w _ b h1.ltb), h2, heap_alloc_new w _, List.nodup_nil, (fun t h => by cases h), rfl⟩
theorem nodup_of_map {α β : Type} {f : α → β} : ∀ {l : List α}, (l.map f).Nodup → l.Nodup
  | [], _ => List.nodup_nil
  | x :: l, h => by
    obtain ⟨h1, h2⟩ := List.nodup_cons.1 h
    exact List.nodup_cons.2 ⟨fun hx => h1 (List.mem_map.2 ⟨x, hx, rfl⟩), nodup_of_map h2⟩
theorem inj_of_nodup {α β : Type} {f : α → β} : ∀ {l : List α} {x y : α}, (l.map f).Nodup → x ∈ l → y ∈ l → f x = f y → x = y
  | [], _, _, _, h, _, _ => by cases h
  | z :: l, x, y, h, hx, hy, e => by
    obtain ⟨h1, h2⟩ := List.nodup_cons.1 h
    rcases List.mem_cons.1 hx with e1 | hx1 <;> rcases List.mem_cons.1 hy with e2 | hy1
    · rw [e1, e2]
    · exact absurd (List.mem_map.2 ⟨y, hy1, by rw [← e, e1]⟩) h1
    · exact absurd (List.mem_map.2 ⟨x, hx1, by rw [e, e2]⟩) h1
    · exact inj_of_nodup h2 hx1 hy1 e
theorem len_le_sub {α : Type} [DecidableEq α] : ∀ {l m : List α}, l.Nodup → l ⊆ m → l.length ≤ m.length
  | [], _, _, _ => Nat.zero_le _
  | x :: l, m, h, hs => by
    obtain ⟨h1, h2⟩ := List.nodup_cons.1 h
    have hx : x ∈ m := hs (List.mem_cons_self ..)
    have h3 : l ⊆ m.erase x := fun y hy => (List.mem_erase_of_ne (show y ≠ x from fun e => h1 (by rw [← e]; exact hy))).2 (hs (List.mem_cons_of_mem _ hy))
    have h4 := len_le_sub h2 h3
    rw [List.length_erase_of_mem hx] at h4
    have := List.length_pos_of_mem hx
    rw [List.length_cons]
    omega
/-- The last handed out, read. -/
theorem Rh.entry {P : Program} {k : κ} {v : ν} (h : Rh kv vv w b r L (D ++ [(k, v)])) : (Instr.entry (.pointer (some ⟨r, 0, none⟩))).run P w = .ok (.tuple #[kv k, vv v]) w := by
  obtain ⟨T, c, Q, h1, h2, h3, h4, h5, h6⟩ := h
  obtain ⟨Q1, Q2, rfl, h7, h8⟩ := List.map_eq_append_iff.1 h6
  obtain ⟨t, Q3, rfl, h9, h10⟩ := List.map_eq_cons_iff.1 h8
  cases List.map_eq_nil_iff.1 h10
  have hm : t ∈ T := h5 t (by simp)
  have h3' : w.heap[r]? = some (.mapIter (some b) c ((Q1.map (·.2)).toArray.push t.2) c) := by rw [h3]; simp
  have := run_entry_at (P := P) w r b c (Q1.map (·.2)).toArray (mhE kv vv T).toArray c ⟨kv t.1.1, vv t.1.2, t.2⟩ h3' h1.at_ (by
    show _ ∈ mhE kv vv T
    exact List.mem_map.2 ⟨t, hm, rfl⟩) (by
    show ((mhE kv vv T).map (·.born)).Nodup
    rw [mhE, List.map_map]
    exact h1.born)
  rw [h9] at this
  exact this
/-- The step. -/
theorem Rh.next {P : Program} (h : Rh kv vv w b r L D) (ty : TypeId) :
    (D.Perm L ∧ (Instr.next (.pointer (some ⟨r, 0, none⟩)) false ty).run P w = .ok (.tuple #[.bool false]) w) ∨
    ∃ k v w', (k, v) ∈ L ∧ (k, v) ∉ D ∧ (Instr.next (.pointer (some ⟨r, 0, none⟩)) false ty).run P w = .ok (.tuple #[.bool true, kv k, vv v]) w' ∧ Rh kv vv w' b r L (D ++ [(k, v)]) ∧ D.length + 1 ≤ L.length ∧ w.grownBy w' (some r) ∧ w'.heap.size = w.heap.size := by
  obtain ⟨T, c, Q, h1, h2, h3, h4, h5, h6⟩ := h
  have hold : ∀ x ∈ (mhE kv vv T).toArray.toList, x.born < c := fun x hx => by
    obtain ⟨t, ht, rfl⟩ := List.mem_map.1 (show x ∈ mhE kv vv T from hx)
    exact h1.lt t ht
  rcases run_next_at (P := P) w ty r b c c _ _ _ h3 h1.at_ hold (Nat.le_refl _) with ⟨h0, hrun⟩ | ⟨e, he, w1, hal, hrun⟩
  · refine .inl ⟨?_, hrun⟩
    have hs := all_seen _ _ h0
    have hp : (Q.map (·.2)).Perm (T.map (·.2)) := by
      rw [List.perm_ext_iff_of_nodup h4 h1.born]
      intro i
      constructor
      · intro hi
        obtain ⟨t, ht, rfl⟩ := List.mem_map.1 hi
        exact List.mem_map.2 ⟨t, h5 t ht, rfl⟩
      · intro hi
        obtain ⟨t, ht, rfl⟩ := List.mem_map.1 hi
        have := hs ⟨kv t.1.1, vv t.1.2, t.2⟩ (by
          show _ ∈ mhE kv vv T
          exact List.mem_map.2 ⟨t, ht, rfl⟩)
        simpa using this
    have hpQ : Q.Perm T := by
      have e1 : ∀ t, t ∈ Q ↔ t ∈ T := fun t => ⟨h5 t, fun ht => by
        have h7 := hp.mem_iff.2 (List.mem_map.2 ⟨t, ht, rfl⟩ : t.2 ∈ T.map (·.2))
        obtain ⟨q, hq, e⟩ := List.mem_map.1 h7
        have := inj_of_nodup h1.born (h5 q hq) ht e
        exact this ▸ hq⟩
      exact (List.perm_ext_iff_of_nodup (nodup_of_map h4) (nodup_of_map h1.born)).2 e1
    rw [← h6, ← h2]
    exact hpQ.map _
  · obtain ⟨hem, hes⟩ := mem_left he
    obtain ⟨t, ht, rfl⟩ := List.mem_map.1 (show e ∈ mhE kv vv T from hem)
    have hr1 : w1.heap[r]? = some (.mapIter (some b) c (Q.map (·.2)).toArray c) := by rcases hal with rfl | rfl <;> exact h3
    have hb1 : w1.heap[b]? = some (.map (mhE kv vv T).toArray c) := by rcases hal with rfl | rfl <;> exact h1.at_
    have hset := heap_set (o' := .mapIter (some b) c ((Q.map (·.2)).toArray.push t.2) c) hr1
    have hne : b ≠ r := fun e1 => by
      rw [← e1, h1.at_] at h3
      cases h3
    have hnot : t.2 ∉ Q.map (·.2) := by
      have : (Q.map (·.2)).toArray.contains t.2 = false := hes
      simpa using this
    have hnd : ((Q ++ [t]).map (·.2)).Nodup := by
      rw [List.map_append, List.nodup_append]
      exact ⟨h4, by simp, fun a ha a' ha' e1 => by simp at ha'; subst ha'; exact hnot (e1 ▸ ha)⟩
    have hsub : ∀ x ∈ Q ++ [t], x ∈ T := fun x hx => by
      rcases List.mem_append.1 hx with hx | hx
      · exact h5 x hx
      · simp at hx
        subst hx
        exact ht
    have hQT : (Q ++ [t]).length ≤ T.length := by
      have h7 : ((Q ++ [t]).map (·.2)) ⊆ T.map (·.2) := fun x hx => by
        obtain ⟨y, hy, rfl⟩ := List.mem_map.1 hx
        exact List.mem_map.2 ⟨y, hsub y hy, rfl⟩
      have := len_le_sub hnd h7
      simpa using this
    have hmemL : t.1 ∈ L := by rw [← h2]; exact List.mem_map.2 ⟨t, ht, rfl⟩
    have hnotD : t.1 ∉ D := fun hd => by
      rw [← h6] at hd
      obtain ⟨q, hq, e1⟩ := List.mem_map.1 hd
      have := inj_of_nodup (f := fun t : (κ × ν) × Nat => t.1.1) h1.keys (h5 q hq) ht (by show q.1.1 = t.1.1; rw [e1])
      exact hnot (List.mem_map.2 ⟨q, hq, by rw [this]⟩)
    refine .inr ⟨t.1.1, t.1.2, _, hmemL, hnotD, hrun, ⟨T, c, Q ++ [t], ⟨(hset.2 b hne).trans hb1, h1.keys, h1.born, h1.lt⟩, h2, ?_, hnd, hsub, ?_⟩, ?_, ?_, ?_⟩
    · rw [show (setBlock w1 r _).heap[r]? = _ from hset.1]
      simp
    · rw [List.map_append, h6]
      rfl
    · rw [← h6, ← h2]
      simpa using hQT
    · rcases hal with rfl | rfl <;> exact ⟨rfl, rfl, rfl, by simp [setBlock], fun i _ hi => hset.2 i (fun e1 => hi (by rw [e1]))⟩
    · rcases hal with rfl | rfl <;> simp [setBlock]

section
variable [DecidableEq κ]
def mgDel (k : κ) (L : List (κ × ν)) : List (κ × ν) := L.filter fun p => !decide (p.1 = k)
theorem mgDel_new {k : κ} {L : List (κ × ν)} (h : k ∉ L.map (·.1)) : mgDel k L = L := by
  rw [mgDel, List.filter_eq_self]
  intro p hp
  rw [decide_eq_false (fun e => h (List.mem_map.2 ⟨p, hp, e⟩))]
  rfl
theorem mgDel_old {k : κ} : ∀ {L : List (κ × ν)} {i : Nat} {u : ν}, (L.map (·.1)).Nodup → L[i]? = some (k, u) → mgDel k L = L.eraseIdx i
  | [], i, _, _, h => by simp at h
  | p :: l, 0, u, hn, h => by
    simp at h
    subst h
    obtain ⟨h1, h2⟩ := List.nodup_cons.1 hn
    rw [mgDel, List.filter_cons]
    simp only [decide_true, Bool.not_true, List.eraseIdx_cons_zero]
    exact mgDel_new h1
  | p :: l, i + 1, u, hn, h => by
    obtain ⟨h1, h2⟩ := List.nodup_cons.1 hn
    simp at h
    rw [mgDel, List.filter_cons, if_pos (by
      rw [decide_eq_false (fun e => h1 (List.mem_map.2 ⟨_, List.mem_of_getElem? h, e.symm⟩))]
      rfl)]
    rw [List.eraseIdx_cons_succ, ← mgDel_old h2 h]
    rfl
theorem mgDel_nodup {k : κ} {L : List (κ × ν)} (h : (L.map (·.1)).Nodup) : ((mgDel k L).map (·.1)).Nodup := (List.filter_sublist.map _).nodup h
theorem mgGet_put {k k' : κ} {v : ν} {L : List (κ × ν)} : mgGet k' (mgPut k v L) = if k' = k then some v else mgGet k' L := by
  induction L with
  | nil =>
    by_cases h : k = k'
    · simp [mgPut, mgGet, h]
    · simp [mgPut, mgGet, h, Ne.symm h]
  | cons p l ih =>
    rw [mgPut]
    by_cases h : p.1 = k
    · rw [if_pos h]
      by_cases h' : k' = k
      · subst h'
        simp [mgGet]
      · have h2 : ¬k = k' := fun e => h' e.symm
        simp [mgGet, h, h', h2]
    · rw [if_neg h]
      by_cases h2 : p.1 = k'
      · have : ¬k' = k := fun e => h (h2.trans e)
        simp [mgGet, h2, this]
      · have e1 : ∀ (X : List (κ × ν)), mgGet k' (p :: X) = mgGet k' X := fun X => by simp [mgGet, h2]
        rw [e1, e1, ih]
theorem mgGet_del {k k' : κ} {L : List (κ × ν)} : mgGet k' (mgDel k L) = if k' = k then none else mgGet k' L := by
  induction L with
  | nil => simp [mgDel, mgGet]
  | cons p l ih =>
    rw [mgDel] at ih ⊢
    rw [List.filter_cons]
    by_cases h : p.1 = k
    · rw [if_neg (by simp [h]), ih]
      by_cases h' : k' = k
      · rw [if_pos h', if_pos h']
      · have h2 : ¬k = k' := fun e => h' e.symm
        rw [if_neg h', if_neg h']
        simp [mgGet, h, h2]
    · rw [if_pos (by simp [h])]
      by_cases h2 : p.1 = k'
      · have : ¬k' = k := fun e => h (h2.trans e)
        simp [mgGet, h2, this]
      · have e1 : ∀ (X : List (κ × ν)), mgGet k' (p :: X) = mgGet k' X := fun X => by simp [mgGet, h2]
        rw [e1, e1, ih]
theorem run_mhLook {P : Program} {w : World} {t kt e : TypeId} (K : KeyRun P kt kv) (ht : P.underlying t = some (.map kt e)) {z : Value} (hz : (zeroValue e).run P w = .ok z w) (hb : Mh kv vv w b L) (k : κ) (c : Bool) :
    (Instr.lookup t (.map (some b)) (kv k) c).run P w = .ok (if c then .tuple #[((mgGet k L).map vv).getD z, .bool (mgGet k L).isSome] else ((mgGet k L).map vv).getD z) w := by
  have hnd := hb.nodup
  obtain ⟨T, cl, h1, rfl⟩ := hb
  rcases mh_find (vv := vv) K.at w k T trivial (fun _ _ => trivial) with ⟨hk, hf⟩ | ⟨i, v, n, hi, hf⟩
  · rw [mgGet_none hk]
    simp [Instr.lookup, run_underlying ht, MapKept.run_getObj_map h1.at_, K.check, hf, hz, Result.andThen]
  · rw [mgGet_some (v := v) hnd (List.mem_map.2 ⟨_, List.mem_of_getElem? hi, rfl⟩)]
    simp [Instr.lookup, run_underlying ht, MapKept.run_getObj_map h1.at_, K.check, hf, Result.andThen]
/-- The world with another object in block b. -/
abbrev putObj (w : World) (b : Nat) (o : Obj) : World := { w with heap := w.heap.setIfInBounds b o }
theorem putObj_grown (w : World) (b : Nat) (o : Obj) : w.grownBy (putObj w b o) (some b) := ⟨rfl, rfl, rfl, by simp, fun i _ hne => by
  show (w.heap.setIfInBounds b _)[i]? = _
  rw [Array.getElem?_setIfInBounds, if_neg (fun e => hne (by rw [e]))]⟩
theorem run_mhPutAt {P : Program} {w : World} {t kt e : TypeId} {good : World → κ → Prop} (K : KeyAt P kt kv good) (ht : P.underlying t = some (.map kt e)) (hb : Mh kv vv w b L) (k : κ) (v : ν) (hok : good w k) (hoL : ∀ p ∈ L, good w p.1) :
    ∃ es c, (Instr.mapUpdate t (.map (some b)) (kv k) (vv v)).run P w = .ok () (putObj w b (.map es c)) ∧ Mh kv vv (putObj w b (.map es c)) b (mgPut k v L) := by
  have hnd := hb.nodup
  have hlt := hb.lt
  obtain ⟨T, cl, h1, rfl⟩ := hb
  rcases mh_find (vv := vv) K w k T hok hoL with ⟨hk, hf⟩ | ⟨i, u, n, hi, hf⟩
  · refine ⟨(mhE kv vv (T ++ [((k, v), cl)])).toArray, cl + 1, ?_, T ++ [((k, v), cl)], cl + 1, ⟨by simp [hlt], ?_, ?_, ?_⟩, ?_⟩
    · have h0 := h1.at_
      have hE : mhE kv vv (T ++ [((k, v), cl)]) = mhE kv vv T ++ [⟨kv k, vv v, cl⟩] := by simp [mhE]
      rw [hE]
      generalize mhE kv vv T = X at h0 hf hE
      simp [Instr.mapUpdate, run_underlying ht, MapKept.run_getObj_map h0, K.check, hf, MapKept.run_setObj_map _ h0, Result.andThen]
    · rw [List.map_append, List.nodup_append]
      refine ⟨h1.keys, by simp, fun a ha a' ha' e1 => ?_⟩
      simp at ha'
      subst ha'
      subst e1
      exact hk (by rw [List.map_map]; exact ha)
    · rw [List.map_append, List.nodup_append]
      refine ⟨h1.born, by simp, fun a ha a' ha' e1 => ?_⟩
      simp at ha'
      subst ha'
      obtain ⟨t, ht, rfl⟩ := List.mem_map.1 ha
      have := h1.lt t ht
      omega
    · intro t ht
      rcases List.mem_append.1 ht with ht | ht
      · have := h1.lt t ht
        omega
      · simp at ht
        subst ht
        simp
    · rw [mgPut_new hk, List.map_append]
      rfl
  · have hiL : (T.map (·.1))[i]? = some (k, u) := by rw [List.getElem?_map, hi]; rfl
    have hil : i < T.length := (List.getElem?_eq_some_iff.1 hi).1
    have hg : T[i] = ((k, u), n) := (List.getElem?_eq_some_iff.1 hi).2
    have hk1 : (T.set i ((k, v), n)).map (fun t => t.1.1) = T.map fun t => t.1.1 := by
      apply List.ext_getElem?
      intro j
      simp only [List.getElem?_map, List.getElem?_set]
      by_cases hj : i = j
      · subst hj
        simp [hil, hg]
      · simp [hj]
    have hk2 : (T.set i ((k, v), n)).map (·.2) = T.map (·.2) := by
      apply List.ext_getElem?
      intro j
      simp only [List.getElem?_map, List.getElem?_set]
      by_cases hj : i = j
      · subst hj
        simp [hil, hg]
      · simp [hj]
    have hi' : (mhE kv vv T)[i]? = some ⟨kv k, vv u, n⟩ := by rw [mhE, List.getElem?_map, hi]; rfl
    have hm : ((mhE kv vv T).modify i fun e => { key := kv k, val := vv v, born := e.born }) = mhE kv vv (T.set i ((k, v), n)) := by
      apply List.ext_getElem?
      intro j
      rw [List.getElem?_modify]
      by_cases hij : i = j
      · subst hij
        rw [hi', mhE, List.getElem?_map, List.getElem?_set]
        simp [hil]
      · simp [hij, mhE, List.getElem?_set]
    refine ⟨(mhE kv vv (T.set i ((k, v), n))).toArray, cl, ?_, T.set i ((k, v), n), cl, ⟨by simp [hlt], by rw [hk1]; exact h1.keys, by rw [hk2]; exact h1.born, fun t ht => ?_⟩, ?_⟩
    · have hE : (mhE kv vv T).toArray.toList = mhE kv vv T := rfl
      have hi2 : (mhE kv vv T).toArray[i]? = some ⟨kv k, vv u, n⟩ := by simpa using hi'
      have h0 := h1.at_
      generalize (mhE kv vv (T.set i ((k, v), n))) = Y at hm ⊢
      generalize mhE kv vv T = X at h0 hf hE hi2 hm hi'
      simp [Instr.mapUpdate, run_underlying ht, MapKept.run_getObj_map h0, K.check, hf, hi', K.stays, MapKept.run_setObj_map _ h0, Result.andThen, hm]
    · have h9 : t.2 ∈ (T.set i ((k, v), n)).map (·.2) := List.mem_map.2 ⟨t, ht, rfl⟩
      rw [hk2] at h9
      obtain ⟨q, hq, e1⟩ := List.mem_map.1 h9
      rw [← e1]
      exact h1.lt q hq
    · rw [mgPut_old hnd hiL]
      apply List.ext_getElem?
      intro j
      simp only [List.getElem?_map, List.getElem?_set]
      by_cases hj : i = j
      · subst hj
        simp [hil]
      · simp [hj]
theorem run_mhPut {P : Program} {w : World} {t kt e : TypeId} (K : KeyRun P kt kv) (ht : P.underlying t = some (.map kt e)) (hb : Mh kv vv w b L) (k : κ) (v : ν) :
    ∃ es c, (Instr.mapUpdate t (.map (some b)) (kv k) (vv v)).run P w = .ok () (putObj w b (.map es c)) ∧ Mh kv vv (putObj w b (.map es c)) b (mgPut k v L) := run_mhPutAt K.at ht hb k v trivial fun _ _ => trivial
theorem run_mhDel {P : Program} {w : World} {t kt e : TypeId} (K : KeyRun P kt kv) (ht : P.underlying t = some (.map kt e)) (hb : Mh kv vv w b L) (k : κ) (ty : TypeId) :
    ∃ es c, (Builtin.delete_ #[t, kt] ty #[.map (some b), kv k]).run P w = .ok (.tuple #[]) (putObj w b (.map es c)) ∧ Mh kv vv (putObj w b (.map es c)) b (mgDel k L) := by
  have hnd := hb.nodup
  have hlt := hb.lt
  obtain ⟨T, cl, h1, rfl⟩ := hb
  rcases mh_find (vv := vv) K.at w k T trivial (fun _ _ => trivial) with ⟨hk, hf⟩ | ⟨i, u, n, hi, hf⟩
  · refine ⟨(mhE kv vv T).toArray, cl, ?_, T, cl, ⟨by simp [hlt], h1.keys, h1.born, h1.lt⟩, (mgDel_new hk).symm⟩
    simp [Builtin.delete_, run_underlying ht, MapKept.run_getObj_map h1.at_, K.check, hf, MapKept.run_setObj_map _ h1.at_, Result.andThen]
  · have hiL : (T.map (·.1))[i]? = some (k, u) := by rw [List.getElem?_map, hi]; rfl
    have hil : i < T.length := (List.getElem?_eq_some_iff.1 hi).1
    have hsub : (mhE kv vv T).eraseIdx i = mhE kv vv (T.eraseIdx i) := by simp [mhE, map_eraseIdx]
    refine ⟨(mhE kv vv (T.eraseIdx i)).toArray, cl, ?_, T.eraseIdx i, cl, ⟨by simp [hlt], ?_, ?_, fun t ht => h1.lt t ((List.eraseIdx_sublist _ _).subset ht)⟩, ?_⟩
    · have hE : (mhE kv vv T).toArray.toList = mhE kv vv T := rfl
      have h0 := h1.at_
      generalize mhE kv vv (T.eraseIdx i) = Y at hsub ⊢
      generalize mhE kv vv T = X at h0 hf hE hsub
      simp [Builtin.delete_, run_underlying ht, MapKept.run_getObj_map h0, K.check, hf, MapKept.run_setObj_map _ h0, Result.andThen, hsub]
    · exact ((List.eraseIdx_sublist _ _).map _).nodup h1.keys
    · exact ((List.eraseIdx_sublist _ _).map _).nodup h1.born
    · rw [mgDel_old hnd hiL, map_eraseIdx]
theorem wpList_mhPutAt {P : Program} (w : World) {ops : Array Oper} {rest : List Oper} {o : Oper} {a : Act} {Q : Exit → Act → World → Prop}
    (hg : o.guard = none) (m x y : Operand) (t : TypeId) (hop : o.op = Op.mapUpdate t m x y) {kt e : TypeId} {good : World → κ → Prop} (K : KeyAt P kt kv good) (ht : P.underlying t = some (.map kt e))
    (b : Nat) (L : List (κ × ν)) (hm : a.eval m = .map (some b)) (hb : Mh kv vv w b L) (k : κ) (v : ν) (hx : a.eval x = kv k) (hv : a.eval y = vv v) (hok : good w k) (hoL : ∀ p ∈ L, good w p.1)
    (hK : ∀ w', Mh kv vv w' b (mgPut k v L) → w.grownBy w' (some b) → w'.heap.size = w.heap.size → wpList P ops Q rest (a.put o.dst undef) w') :
    wpList P ops Q (o :: rest) a w := by
  refine wpList_plain hg fun K' hK' => ?_
  obtain ⟨es, c, hrun, h2⟩ := run_mhPutAt K ht hb k v hok hoL
  unfold Oper.wp
  simp [execOp, hop, hm, hx, hv, hrun, Result.andThen]
  exact hK' _ _ (hK _ h2 (putObj_grown w b _) (by simp))
theorem wpList_mhPut {P : Program} (w : World) {ops : Array Oper} {rest : List Oper} {o : Oper} {a : Act} {Q : Exit → Act → World → Prop}
    (hg : o.guard = none) (m x y : Operand) (t : TypeId) (hop : o.op = Op.mapUpdate t m x y) {kt e : TypeId} (K : KeyRun P kt kv) (ht : P.underlying t = some (.map kt e))
    (b : Nat) (L : List (κ × ν)) (hm : a.eval m = .map (some b)) (hb : Mh kv vv w b L) (k : κ) (v : ν) (hx : a.eval x = kv k) (hv : a.eval y = vv v)
    (hK : ∀ w', Mh kv vv w' b (mgPut k v L) → w.grownBy w' (some b) → w'.heap.size = w.heap.size → wpList P ops Q rest (a.put o.dst undef) w') :
    wpList P ops Q (o :: rest) a w := wpList_mhPutAt w hg m x y t hop K.at ht b L hm hb k v hx hv trivial (fun _ _ => trivial) hK
theorem wpList_mhIns {P : Program} (w : World) {ops : Array Oper} {rest : List Oper} {o : Oper} {a : Act} {Q : Exit → Act → World → Prop}
    (hg : o.guard = none) (m x y : Operand) (t : TypeId) (hop : o.op = Op.insert t m x y) {kt e : TypeId} (K : KeyRun P kt kv) (ht : P.underlying t = some (.map kt e))
    (b : Nat) (L : List (κ × ν)) (hm : a.eval m = .map (some b)) (hb : Mh kv vv w b L) (k : κ) (v : ν) (hx : a.eval x = kv k) (hv : a.eval y = vv v)
    (hK : ∀ w', Mh kv vv w' b (mgPut k v L) → w.grownBy w' (some b) → w'.heap.size = w.heap.size → wpList P ops Q rest (a.put o.dst undef) w') :
    wpList P ops Q (o :: rest) a w := by
  refine wpList_plain hg fun K' hK' => ?_
  obtain ⟨es, c, hrun, h2⟩ := run_mhPut K ht hb k v
  unfold Oper.wp
  simp [execOp, hop, hm, hx, hv, hrun, Result.andThen]
  exact hK' _ _ (hK _ h2 (putObj_grown w b _) (by simp))
theorem wpList_mhDel {P : Program} (w : World) {ops : Array Oper} {rest : List Oper} {o : Oper} {a : Act} {Q : Exit → Act → World → Prop}
    (hg : o.guard = none) (m x : Operand) (t kt : TypeId) (hop : o.op = Op.call { callee := Callee.builtin Builtin.delete, args := #[m, x], argTypes := #[t, kt] }) {e : TypeId} (K : KeyRun P kt kv) (ht : P.underlying t = some (.map kt e))
    (b : Nat) (L : List (κ × ν)) (hm : a.eval m = .map (some b)) (hb : Mh kv vv w b L) (k : κ) (hx : a.eval x = kv k)
    (hK : ∀ w', Mh kv vv w' b (mgDel k L) → w.grownBy w' (some b) → w'.heap.size = w.heap.size → wpList P ops Q rest (a.put o.dst (.tuple #[])) w') :
    wpList P ops Q (o :: rest) a w := by
  refine wpList_plain hg fun K' hK' => ?_
  obtain ⟨es, c, hrun, h2⟩ := run_mhDel K ht hb k o.type
  unfold Oper.wp
  simp [execOp, hop, resolve, invoke, builtin, hm, hx, hrun, Result.andThen]
  exact hK' _ _ (hK _ h2 (putObj_grown w b _) (by simp))
end
end
end Go.Proofs.Ytchpekidnbdpdaa


/- Layer 21, plain: spans under one another as a forest: each one's way from its root, what it is moved to along that way; the document's passes move each so. -/
namespace Go.Proofs.Ytchpekidnbdpdaa
open Go.RowKit

theorem nodup_len {α : Type} [DecidableEq α] : ∀ {l m : List α}, l.Nodup → (∀ x ∈ l, x ∈ m) → l.length ≤ m.length
  | [], _, _, _ => Nat.zero_le _
  | x :: l, m, hn, hs => by
    obtain ⟨h1, h2⟩ := List.nodup_cons.1 hn
    have hx := hs x (List.mem_cons_self ..)
    have := nodup_len (m := m.erase x) h2 fun y hy => (List.mem_erase_of_ne fun e => h1 (by rw [← e]; exact hy)).2 (hs y (List.mem_cons_of_mem _ hy))
    rw [List.length_erase_of_mem hx] at this
    have h0 : 0 < m.length := List.length_pos_of_mem hx
    rw [List.length_cons]
    omega
theorem nodup_lt {l : List Nat} {n : Nat} (hn : l.Nodup) (h : ∀ x ∈ l, x < n) : l.length ≤ n := by
  have := nodup_len (m := List.range n) hn fun x hx => List.mem_range.2 (h x hx)
  rwa [List.length_range] at this

/-- Where an ID stands. -/
def posA (o : List Ad) (id : Nat) : Option Nat := o.findIdx? fun a => decide (a.s.id = id)
/-- The way to the i-th, from its root on. -/
def pth (o : List Ad) : Nat → Nat → Option (List Nat)
  | 0, _ => none
  | k + 1, i => match o[i]? with
    | none => none
    | some x => if x.up = 0 then some [i] else match posA o x.up with
      | none => none
      | some j => (pth o k j).map (· ++ [i])
/-- What the i-th is moved to. -/
def fng (o : List Ad) : Nat → Nat → Option Ad
  | 0, _ => none
  | k + 1, i => match o[i]? with
    | none => none
    | some x => if x.up = 0 then some x else match posA o x.up with
      | none => none
      | some j => (fng o k j).map (mvAd x)

theorem pth_zero (o : List Ad) (i : Nat) : pth o 0 i = none := rfl
theorem pth_root {o : List Ad} {k i : Nat} {x : Ad} (h : o[i]? = some x) (hu : x.up = 0) : pth o (k + 1) i = some [i] := by simp only [pth, h]; rw [if_pos hu]
theorem pth_up {o : List Ad} {k i j : Nat} {x : Ad} (h : o[i]? = some x) (hu : x.up ≠ 0) (hp : posA o x.up = some j) : pth o (k + 1) i = (pth o k j).map (· ++ [i]) := by simp only [pth, h]; rw [if_neg hu, hp]
theorem fng_root {o : List Ad} {k i : Nat} {x : Ad} (h : o[i]? = some x) (hu : x.up = 0) : fng o (k + 1) i = some x := by simp only [fng, h]; rw [if_pos hu]
theorem fng_up {o : List Ad} {k i j : Nat} {x : Ad} (h : o[i]? = some x) (hu : x.up ≠ 0) (hp : posA o x.up = some j) : fng o (k + 1) i = (fng o k j).map (mvAd x) := by simp only [fng, h]; rw [if_neg hu, hp]
/-- A way's last step. -/
theorem pth_inv {o : List Ad} {k i : Nat} {p : List Nat} (h : pth o (k + 1) i = some p) :
    ∃ x, o[i]? = some x ∧ ((x.up = 0 ∧ p = [i]) ∨ (x.up ≠ 0 ∧ ∃ j q, posA o x.up = some j ∧ pth o k j = some q ∧ p = q ++ [i])) := by
  cases hx : o[i]? with
  | none => simp only [pth, hx] at h; cases h
  | some x =>
    refine ⟨x, rfl, ?_⟩
    by_cases hu : x.up = 0
    · rw [pth_root hx hu] at h; exact .inl ⟨hu, (Option.some.inj h).symm⟩
    · cases hj : posA o x.up with
      | none => simp only [pth, hx] at h; rw [if_neg hu, hj] at h; cases h
      | some j =>
        rw [pth_up hx hu hj] at h
        cases hq : pth o k j with
        | none => rw [hq] at h; cases h
        | some q => rw [hq] at h; exact .inr ⟨hu, j, q, rfl, hq, (Option.some.inj h).symm⟩
theorem pth_mono {o : List Ad} : ∀ {k i : Nat} {p : List Nat}, pth o k i = some p → ∀ k', k ≤ k' → pth o k' i = some p
  | 0, _, _, h, _, _ => by cases h
  | k + 1, i, p, h, k', hk => by
    obtain ⟨k2, rfl⟩ : ∃ k2, k' = k2 + 1 := ⟨k' - 1, by omega⟩
    obtain ⟨x, hx, ⟨hu, rfl⟩ | ⟨hu, j, q, hj, hq, rfl⟩⟩ := pth_inv h
    · exact pth_root hx hu
    · rw [pth_up hx hu hj, pth_mono hq k2 (by omega)]; rfl
theorem pth_det {o : List Ad} {k k' i : Nat} {p p' : List Nat} (h : pth o k i = some p) (h' : pth o k' i = some p') : p = p' := by
  have a := pth_mono h (max k k') (Nat.le_max_left ..)
  have b := pth_mono h' (max k k') (Nat.le_max_right ..)
  rw [a] at b
  exact Option.some.inj b
theorem pth_len {o : List Ad} : ∀ {k i : Nat} {p : List Nat}, pth o k i = some p → p.length ≤ k ∧ pth o p.length i = some p ∧ p.getLast? = some i ∧ p ≠ []
  | 0, _, _, h => by cases h
  | k + 1, i, p, h => by
    obtain ⟨x, hx, ⟨hu, rfl⟩ | ⟨hu, j, q, hj, hq, rfl⟩⟩ := pth_inv h
    · exact ⟨by simp, pth_root hx hu, rfl, by simp⟩
    · obtain ⟨h1, h2, h3, h4⟩ := pth_len hq
      refine ⟨by simp; omega, ?_, by simp, by simp⟩
      rw [List.length_append, List.length_singleton, pth_up hx hu hj, h2]; rfl
/-- Each first part of a way is a way. -/
theorem pth_take {o : List Ad} : ∀ {k i : Nat} {p : List Nat}, pth o k i = some p → ∀ t, t < p.length → ∃ j, p[t]? = some j ∧ pth o (t + 1) j = some (p.take (t + 1))
  | 0, _, _, h, _, _ => by cases h
  | k + 1, i, p, h, t, ht => by
    have hl := pth_len h
    obtain ⟨x, hx, ⟨hu, rfl⟩ | ⟨hu, j, q, hj, hq, rfl⟩⟩ := pth_inv h
    · obtain rfl : t = 0 := by simp at ht; omega
      exact ⟨i, rfl, pth_root hx hu⟩
    · by_cases h1 : t < q.length
      · obtain ⟨j', a, b⟩ := pth_take hq t h1
        exact ⟨j', by rw [List.getElem?_append_left h1]; exact a, by rw [List.take_append_of_le_length (by omega)]; exact b⟩
      · have : t = q.length := by simp at ht; omega
        subst this
        refine ⟨i, by simp, ?_⟩
        rw [List.take_of_length_le (by simp)]
        have := hl.2.1
        simpa using this
theorem pth_lt {o : List Ad} {k i : Nat} {p : List Nat} (h : pth o k i = some p) : ∀ x ∈ p, x < o.length := by
  intro x hx
  obtain ⟨t, ht, e⟩ := List.getElem_of_mem hx
  obtain ⟨j, a, b⟩ := pth_take h t ht
  rw [List.getElem?_eq_getElem ht, e] at a
  cases a
  obtain ⟨y, hy, _⟩ := pth_inv b
  exact (List.getElem?_eq_some_iff.1 hy).1
theorem pth_nodup {o : List Ad} {k i : Nat} {p : List Nat} (h : pth o k i = some p) : p.Nodup := by
  rw [List.nodup_iff_pairwise_ne, List.pairwise_iff_getElem]
  intro s t hs ht hst e
  obtain ⟨j, a, b⟩ := pth_take h s hs
  obtain ⟨j', a', b'⟩ := pth_take h t ht
  rw [List.getElem?_eq_getElem hs] at a
  rw [List.getElem?_eq_getElem ht] at a'
  cases a; cases a'
  rw [e] at b
  have := congrArg List.length (pth_det b b')
  simp at this
  omega
/-- A way goes through no more than there are. -/
theorem pth_all {o : List Ad} {k i : Nat} {p : List Nat} (h : pth o k i = some p) : p.length ≤ o.length ∧ pth o o.length i = some p := by
  have h1 := nodup_lt (pth_nodup h) (pth_lt h)
  exact ⟨h1, pth_mono (pth_len h).2.1 _ h1⟩
theorem fng_pth {o : List Ad} : ∀ (k i : Nat), (fng o k i).isSome = (pth o k i).isSome
  | 0, _ => rfl
  | k + 1, i => by
    cases hx : o[i]? with
    | none => simp only [pth, fng, hx]; rfl
    | some x =>
      by_cases hu : x.up = 0
      · rw [pth_root hx hu, fng_root hx hu]; rfl
      · cases hj : posA o x.up with
        | none => simp only [pth, fng, hx]; rw [if_neg hu, hj, if_neg hu]; rfl
        | some j => rw [pth_up hx hu hj, fng_up hx hu hj, Option.isSome_map, Option.isSome_map]; exact fng_pth k j
theorem fng_mono {o : List Ad} : ∀ {k i : Nat} {v : Ad}, fng o k i = some v → ∀ k', k ≤ k' → fng o k' i = some v
  | 0, _, _, h, _, _ => by cases h
  | k + 1, i, v, h, k', hk => by
    obtain ⟨k2, rfl⟩ : ∃ k2, k' = k2 + 1 := ⟨k' - 1, by omega⟩
    cases hx : o[i]? with
    | none => simp only [fng, hx] at h; cases h
    | some x =>
      by_cases hu : x.up = 0
      · rw [fng_root hx hu] at h ⊢; exact h
      · cases hj : posA o x.up with
        | none => simp only [fng, hx] at h; rw [if_neg hu, hj] at h; cases h
        | some j =>
          rw [fng_up hx hu hj] at h ⊢
          cases hq : fng o k j with
          | none => rw [hq] at h; cases h
          | some q => rw [hq] at h; rw [fng_mono hq k2 (by omega)]; exact h
theorem fng_det {o : List Ad} {k k' i : Nat} {p p' : Ad} (h : fng o k i = some p) (h' : fng o k' i = some p') : p = p' := by
  have a := fng_mono h (max k k') (Nat.le_max_left ..)
  have b := fng_mono h' (max k k') (Nat.le_max_right ..)
  rw [a] at b
  exact Option.some.inj b
/-- What is moved keeps its ID, and whom it is under. -/
theorem fng_keep {o : List Ad} {k i : Nat} {v x : Ad} (h : fng o k i = some v) (hx : o[i]? = some x) : v.s.id = x.s.id ∧ v.up = x.up ∧ v.flag = x.flag ∧ v.s.parent = x.s.parent := by
  cases k with
  | zero => cases h
  | succ k =>
    by_cases hu : x.up = 0
    · rw [fng_root hx hu] at h; cases h; exact ⟨rfl, rfl, rfl, rfl⟩
    · cases hj : posA o x.up with
      | none => simp only [fng, hx] at h; rw [if_neg hu, hj] at h; cases h
      | some j =>
        rw [fng_up hx hu hj] at h
        cases hq : fng o k j with
        | none => rw [hq] at h; cases h
        | some q => rw [hq] at h; cases h; exact ⟨rfl, rfl, rfl, rfl⟩
/-- All moved that can be. -/
def finA (o : List Ad) (i : Nat) (x : Ad) : Ad := (fng o o.length i).getD x
def fins (o : List Ad) : List Ad := o.mapIdx (finA o)
theorem fins_len (o : List Ad) : (fins o).length = o.length := List.length_mapIdx ..
theorem fins_at {o : List Ad} {i : Nat} {x : Ad} (h : o[i]? = some x) : (fins o)[i]? = some (finA o i x) := by rw [fins, List.getElem?_mapIdx, h]; rfl
theorem finA_of {o : List Ad} {k i : Nat} {v x : Ad} (h : fng o k i = some v) : finA o i x = v := by
  have h1 := fng_pth (o := o) k i
  rw [h] at h1
  cases hp : pth o k i with
  | none => rw [hp] at h1; cases h1
  | some p =>
    have h2 := (pth_all hp).2
    have h3 := fng_pth (o := o) o.length i
    rw [h2] at h3
    cases hq : fng o o.length i with
    | none => rw [hq] at h3; cases h3
    | some v' => rw [finA, hq]; exact fng_det hq h
theorem finA_no {o : List Ad} {i : Nat} {x : Ad} (h : pth o o.length i = none) : finA o i x = x := by
  have h1 := fng_pth (o := o) o.length i
  rw [h] at h1
  cases hq : fng o o.length i with
  | none => rw [finA, hq]; rfl
  | some v => rw [hq] at h1; cases h1

/-- IDs are each there once. -/
def OneId (o : List Ad) : Prop := (o.map (·.s.id)).Nodup
theorem posA_lt {o : List Ad} {id j : Nat} (h : posA o id = some j) : ∃ y, o[j]? = some y ∧ y.s.id = id := by
  obtain ⟨h1, h2, h3⟩ := List.findIdx?_eq_some_iff_getElem.1 h
  exact ⟨_, List.getElem?_eq_getElem h1, of_decide_eq_true h2⟩
theorem oneId_at {o : List Ad} (h : OneId o) {i j : Nat} {x y : Ad} (hx : o[i]? = some x) (hy : o[j]? = some y) (e : x.s.id = y.s.id) : i = j := by
  obtain ⟨h1, e1⟩ := List.getElem?_eq_some_iff.1 hx
  obtain ⟨h2, e2⟩ := List.getElem?_eq_some_iff.1 hy
  have hn : (o.map (·.s.id)).Nodup := h
  rw [List.nodup_iff_pairwise_ne, List.pairwise_iff_getElem] at hn
  rcases Nat.lt_trichotomy i j with h3 | h3 | h3
  · exact absurd (by rw [List.getElem_map, List.getElem_map, e1, e2, e]) (hn i j (by simpa using h1) (by simpa using h2) h3)
  · exact h3
  · exact absurd (by rw [List.getElem_map, List.getElem_map, e1, e2, e]) (hn j i (by simpa using h2) (by simpa using h1) h3)
theorem posA_of {o : List Ad} (h : OneId o) {j : Nat} {y : Ad} (hy : o[j]? = some y) : posA o y.s.id = some j := by
  cases hp : posA o y.s.id with
  | none =>
    have := List.findIdx?_eq_none_iff.1 hp y (List.mem_of_getElem? hy)
    simp at this
  | some k =>
    obtain ⟨z, hz, e⟩ := posA_lt hp
    rw [oneId_at h hz hy e]

/-- What the document's passes keep: what is done is moved, what is not is as it was. -/
structure AjI (o : List Ad) (st : AjS) : Prop where
  lo : st.o.length = o.length
  ld : st.d.length = o.length
  yes : ∀ i : Nat, st.d[i]? = some true → ∃ k v, fng o k i = some v ∧ st.o[i]? = some v
  no : ∀ i : Nat, st.d[i]? = some false → st.o[i]? = o[i]?
theorem AjI.start (o : List Ad) : AjI o ⟨o, List.replicate o.length false⟩ :=
  ⟨rfl, by simp, fun i h => (by
    obtain ⟨h1, h2⟩ := List.getElem?_eq_some_iff.1 h
    rw [List.getElem_replicate] at h2; cases h2), fun i _ => rfl⟩
/-- IDs and Ups are as they were. -/
theorem AjI.ids {o : List Ad} {st : AjS} (h : AjI o st) {i : Nat} {y : Ad} (hy : st.o[i]? = some y) : ∃ x, o[i]? = some x ∧ y.s.id = x.s.id ∧ y.up = x.up := by
  have hi : i < o.length := by rw [← h.lo]; exact (List.getElem?_eq_some_iff.1 hy).1
  have hx := List.getElem?_eq_getElem hi
  have hd : i < st.d.length := by rw [h.ld]; exact hi
  have hd' := List.getElem?_eq_getElem hd
  cases hb : st.d[i] with
  | true =>
    rw [hb] at hd'
    obtain ⟨k, v, h1, h2⟩ := h.yes i hd'
    rw [hy] at h2; cases h2
    obtain ⟨a, b, _⟩ := fng_keep h1 hx
    exact ⟨_, hx, a, b⟩
  | false =>
    rw [hb] at hd'
    have := h.no i hd'
    rw [hy] at this
    exact ⟨y, this.symm, rfl, rfl⟩
theorem AjI.mark {o : List Ad} {st : AjS} (h : AjI o st) {i k : Nat} {v : Ad} (hi : i < o.length) (hf : fng o k i = some v) : AjI o ⟨st.o.set i v, st.d.set i true⟩ := by
  refine ⟨by simp [h.lo], by simp [h.ld], fun t ht => ?_, fun t ht => ?_⟩
  · by_cases e : t = i
    · subst e
      exact ⟨k, v, hf, by show (st.o.set t v)[t]? = _; rw [List.getElem?_set_self (by rw [h.lo]; exact hi)]⟩
    · have ht' : st.d[t]? = some true := by
        have : (st.d.set i true)[t]? = some true := ht
        rwa [List.getElem?_set_ne (Ne.symm e)] at this
      obtain ⟨k', v', a, b⟩ := h.yes t ht'
      exact ⟨k', v', a, by show (st.o.set i v)[t]? = _; rw [List.getElem?_set_ne (Ne.symm e)]; exact b⟩
  · by_cases e : t = i
    · subst e
      have : (st.d.set t true)[t]? = some false := ht
      rw [List.getElem?_set_self (by rw [h.ld]; exact hi)] at this
      cases this
    · have ht' : st.d[t]? = some false := by
        have : (st.d.set i true)[t]? = some false := ht
        rwa [List.getElem?_set_ne (Ne.symm e)] at this
      show (st.o.set i v)[t]? = _
      rw [List.getElem?_set_ne (Ne.symm e)]
      exact h.no t ht'
theorem ajK_not {i k : Nat} {st : AjS} (h : ∀ x y, st.o[k]? = some y → st.o[i]? = some x → st.d[k]? = some true → y.s.id ≠ x.up) : ajK i st k = st := by
  unfold ajK
  split
  · rename_i y x h1 h2 h3
    rw [if_neg (h x y h1 h2 h3)]
  · rfl
theorem ajK_yes {i k : Nat} {st : AjS} {x y : Ad} (hy : st.o[k]? = some y) (hx : st.o[i]? = some x) (hd : st.d[k]? = some true) (h : y.s.id = x.up) : ajK i st k = ⟨st.o.set i (mvAd x y), st.d.set i true⟩ := by
  unfold ajK; rw [hy, hx, hd]; simp only; rw [if_pos h]

/-- The inner loop for one that is not done: it looks for whom it is under. -/
theorem aj_look {o : List Ad} (ho : OneId o) {i : Nat} {x : Ad} (hx : o[i]? = some x) (hu : x.up ≠ 0) : ∀ (m : Nat) (st : AjS), AjI o st → st.d[i]? = some false → m ≤ o.length →
    ∃ st', (List.range m).foldl (ajK i) st = st' ∧ AjI o st' ∧ (∀ t : Nat, t ≠ i → st'.d[t]? = st.d[t]?) ∧
      ((st' = st ∧ ∀ j, posA o x.up = some j → j < m → st.d[j]? = some false) ∨ (st'.d[i]? = some true ∧ ∃ j, posA o x.up = some j ∧ j < m))
  | 0, st, h, hd, _ => ⟨st, rfl, h, fun _ _ => rfl, .inl ⟨rfl, fun j _ hj => by omega⟩⟩
  | m + 1, st, h, hd, hm => by
    obtain ⟨st1, e1, h1, k1, h2⟩ := aj_look ho hx hu m st h hd (by omega)
    rw [List.range_succ, List.foldl_append, e1]
    show ∃ st', ajK i st1 m = st' ∧ _
    have hi : i < o.length := (List.getElem?_eq_some_iff.1 hx).1
    rcases h2 with ⟨rfl, h2⟩ | ⟨h2, j, hj, hjm⟩
    · have hxi : st1.o[i]? = some x := by rw [h1.no i hd, hx]
      obtain ⟨y, hy⟩ : ∃ y, st1.o[m]? = some y := ⟨_, List.getElem?_eq_getElem (by rw [h1.lo]; omega)⟩
      obtain ⟨b, hb⟩ : ∃ b, st1.d[m]? = some b := ⟨_, List.getElem?_eq_getElem (by rw [h1.ld]; omega)⟩
      obtain ⟨x0, hx0, q1, q2⟩ := h1.ids hy
      by_cases he : y.s.id = x.up
      · have hp : posA o x.up = some m := by rw [← he, q1]; exact posA_of ho hx0
        cases b with
        | true =>
          refine ⟨_, ajK_yes hy hxi hb he, ?_, fun t ht => List.getElem?_set_ne (Ne.symm ht), .inr ⟨List.getElem?_set_self (by rw [h1.ld]; exact hi), m, hp, by omega⟩⟩
          obtain ⟨k, v, hv, hv2⟩ := h1.yes m hb
          rw [hy] at hv2; cases hv2
          exact h1.mark hi (k := k + 1) (by rw [fng_up hx hu hp, hv]; rfl)
        | false =>
          refine ⟨st1, ajK_not fun x' y' a1 a2 a3 => (by rw [hb] at a3; cases a3), h1, fun _ _ => rfl, .inl ⟨rfl, fun j hj hjm => ?_⟩⟩
          rw [hp] at hj; cases hj
          exact hb
      · refine ⟨st1, ajK_not fun x' y' a1 a2 a3 => ?_, h1, fun _ _ => rfl, .inl ⟨rfl, fun j hj hjm => ?_⟩⟩
        · rw [hy] at a1; rw [hxi] at a2; cases a1; cases a2; exact he
        · by_cases e : j = m
          · exfalso
            subst e
            obtain ⟨z, hz, hzi⟩ := posA_lt hj
            rw [hx0] at hz; cases hz
            exact he (q1.trans hzi)
          · exact h2 j hj (by omega)
    · refine ⟨st1, ajK_not fun x' y' a1 a2 a3 e => ?_, h1, k1, .inr ⟨h2, j, hj, by omega⟩⟩
      obtain ⟨x0, hx0, q1, q2⟩ := h1.ids a2
      obtain ⟨y0, hy0, r1, r2⟩ := h1.ids a1
      rw [hx] at hx0; cases hx0
      have : posA o x.up = some m := by rw [← q2, ← e, r1]; exact posA_of ho hy0
      rw [hj] at this; cases this
      omega
/-- What a pass makes of one. -/
theorem aj_one {o : List Ad} (ho : OneId o) {i : Nat} (hi : i < o.length) {st : AjS} (h : AjI o st) {n : Nat} (hn : n = o.length) :
    AjI o (ajI n st i) ∧ (∀ t : Nat, st.d[t]? = some true → (ajI n st i).d[t]? = some true) ∧
      (∀ x, o[i]? = some x → (x.up = 0 ∨ ∃ j, posA o x.up = some j ∧ st.d[j]? = some true) → (ajI n st i).d[i]? = some true) := by
  subst hn
  obtain ⟨x, hx⟩ : ∃ x, o[i]? = some x := ⟨_, List.getElem?_eq_getElem hi⟩
  obtain ⟨y, hy⟩ : ∃ y, st.o[i]? = some y := ⟨_, List.getElem?_eq_getElem (by rw [h.lo]; exact hi)⟩
  obtain ⟨b, hb⟩ : ∃ b, st.d[i]? = some b := ⟨_, List.getElem?_eq_getElem (by rw [h.ld]; exact hi)⟩
  obtain ⟨x0, hx0, q1, q2⟩ := h.ids hy
  rw [hx] at hx0; cases hx0
  cases b with
  | true =>
    have e : ajI o.length st i = st := by unfold ajI; rw [hy, hb]
    rw [e]
    exact ⟨h, fun _ ht => ht, fun _ _ _ => hb⟩
  | false =>
    have hyx : st.o[i]? = some x := by rw [h.no i hb, hx]
    rw [hy] at hyx; cases hyx
    by_cases hu : x.up = 0
    · have e : ajI o.length st i = ⟨st.o, st.d.set i true⟩ := by unfold ajI; rw [hy, hb]; simp only; rw [if_pos hu]
      rw [e]
      have hm := h.mark hi (k := 1) (v := x) (fng_root hx hu)
      have e2 : st.o.set i x = st.o := List.ext_getElem? fun t => by
        by_cases ht : t = i
        · subst ht; rw [List.getElem?_set_self (by rw [h.lo]; exact hi), hy]
        · rw [List.getElem?_set_ne (Ne.symm ht)]
      rw [e2] at hm
      have hii : (st.d.set i true)[i]? = some true := List.getElem?_set_self (by rw [h.ld]; exact hi)
      refine ⟨hm, fun t ht => ?_, fun _ _ _ => hii⟩
      by_cases e3 : t = i
      · subst e3; exact hii
      · show (st.d.set i true)[t]? = _; rw [List.getElem?_set_ne (Ne.symm e3)]; exact ht
    · have e : ajI o.length st i = (List.range o.length).foldl (ajK i) st := by unfold ajI; rw [hy, hb]; simp only; rw [if_neg hu]
      obtain ⟨st', e1, h1, k1, h2⟩ := aj_look ho hx hu o.length st h hb (Nat.le_refl _)
      rw [e, e1]
      refine ⟨h1, fun t ht => ?_, fun z hz hz2 => ?_⟩
      · by_cases e3 : t = i
        · subst e3; rw [hb] at ht; cases ht
        · rw [k1 t e3]; exact ht
      · rw [hx] at hz; cases hz
        rcases hz2 with hz2 | ⟨j, hj, hjd⟩
        · exact absurd hz2 hu
        · rcases h2 with ⟨rfl, h2⟩ | ⟨h2, -⟩
          · obtain ⟨y2, hy2, _⟩ := posA_lt hj
            rw [h2 j hj (List.getElem?_eq_some_iff.1 hy2).1] at hjd
            cases hjd
          · exact h2
/-- One pass: whoever is under one that is done is done behind it. -/
theorem aj_pass {o : List Ad} (ho : OneId o) : ∀ (m : Nat) (st : AjS), AjI o st → m ≤ o.length →
    AjI o ((List.range m).foldl (ajI o.length) st) ∧ (∀ t : Nat, st.d[t]? = some true → ((List.range m).foldl (ajI o.length) st).d[t]? = some true) ∧
      (∀ (i : Nat) x, i < m → o[i]? = some x → (x.up = 0 ∨ ∃ j, posA o x.up = some j ∧ st.d[j]? = some true) → ((List.range m).foldl (ajI o.length) st).d[i]? = some true)
  | 0, st, h, _ => ⟨h, fun _ ht => ht, fun i _ hi => by omega⟩
  | m + 1, st, h, hm => by
    obtain ⟨a, b, c⟩ := aj_pass ho m st h (by omega)
    rw [List.range_succ, List.foldl_append]
    generalize (List.range m).foldl (ajI o.length) st = st1 at a b c ⊢
    show AjI o (ajI o.length st1 m) ∧ (∀ t : Nat, _ → (ajI o.length st1 m).d[t]? = _) ∧ (∀ i x, _ → _ → _ → (ajI o.length st1 m).d[i]? = _)
    obtain ⟨a', b', c'⟩ := aj_one ho (show m < o.length by omega) a rfl
    refine ⟨a', fun t ht => b' t (b t ht), fun i x hi hx hz => ?_⟩
    by_cases e : i = m
    · subst e
      refine c' x hx ?_
      rcases hz with hz | ⟨j, hj, hjd⟩
      · exact .inl hz
      · exact .inr ⟨j, hj, b j hjd⟩
    · exact b' i (c i x (by omega) hx hz)
theorem aj_rounds {o : List Ad} (ho : OneId o) : ∀ (N : Nat), AjI o ((List.range N).foldl (ajN o.length) ⟨o, List.replicate o.length false⟩) ∧
      ∀ i p, pth o N i = some p → ((List.range N).foldl (ajN o.length) ⟨o, List.replicate o.length false⟩).d[i]? = some true
  | 0 => ⟨AjI.start o, fun i p h => by cases h⟩
  | N + 1 => by
    obtain ⟨a, b⟩ := aj_rounds ho N
    rw [List.range_succ, List.foldl_append]
    generalize (List.range N).foldl (ajN o.length) ⟨o, List.replicate o.length false⟩ = st1 at a b ⊢
    show AjI o ((List.range o.length).foldl (ajI o.length) st1) ∧ ∀ i p, _ → ((List.range o.length).foldl (ajI o.length) st1).d[i]? = _
    obtain ⟨a', b', c'⟩ := aj_pass ho o.length st1 a (Nat.le_refl _)
    refine ⟨a', fun i p hp => ?_⟩
    obtain ⟨x, hx, ⟨hu, rfl⟩ | ⟨hu, j, q, hj, hq, rfl⟩⟩ := pth_inv hp
    · exact c' i x (List.getElem?_eq_some_iff.1 hx).1 hx (.inl hu)
    · exact c' i x (List.getElem?_eq_some_iff.1 hx).1 hx (.inr ⟨j, hj, b j q hq⟩)
/-- **The document's passes move each that has a way, and no other.** -/
theorem ajAll_fins {o : List Ad} (ho : OneId o) : (ajAll o).o = fins o := by
  obtain ⟨a, b⟩ := aj_rounds ho o.length
  have e : ajAll o = (List.range o.length).foldl (ajN o.length) ⟨o, List.replicate o.length false⟩ := rfl
  rw [← e] at a b
  refine List.ext_getElem? fun i => ?_
  by_cases hi : i < o.length
  · obtain ⟨x, hx⟩ : ∃ x, o[i]? = some x := ⟨_, List.getElem?_eq_getElem hi⟩
    rw [fins_at hx]
    obtain ⟨d, hd⟩ : ∃ d, (ajAll o).d[i]? = some d := ⟨_, List.getElem?_eq_getElem (by rw [a.ld]; exact hi)⟩
    cases d with
    | true =>
      obtain ⟨k, v, h1, h2⟩ := a.yes i hd
      rw [h2, finA_of h1]
    | false =>
      rw [a.no i hd, hx]
      cases hp : pth o o.length i with
      | none => rw [finA_no hp]
      | some p => rw [b i p hp] at hd; cases hd
  · rw [List.getElem?_eq_none (by rw [a.lo]; omega), List.getElem?_eq_none (by rw [fins_len]; omega)]
end Go.Proofs.Ytchpekidnbdpdaa

