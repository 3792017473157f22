/- Edges, plain: the document's add and a map say the same. -/
import Derived.Test.YthaiplhjekkooaaDeC
import Derived.Test.YthaiplhjekkooaaDeG
import Derived.Test.YthaiplhjekkooaaDeH
namespace Go.Proofs.Ythaiplhjekkooaa
open Go.RowKit

def mkEd (p : Ek × Nat) : Ed := ⟨p.1.b, p.1.f, p.1.t, p.2⟩
theorem edK_mk (p : Ek × Nat) : edK (mkEd p) = p.1 := rfl
theorem mk_inj {p q : Ek × Nat} (h : mkEd p = mkEd q) : p = q := by
  obtain ⟨⟨b, f, t⟩, n⟩ := p
  obtain ⟨⟨b', f', t'⟩, n'⟩ := q
  simp [mkEd] at h
  obtain ⟨h1, h2, h3, h4⟩ := h
  subst h1 h2 h3 h4
  rfl
theorem mk_un (e : Ed) : mkEd (edK e, e.n) = e := rfl
def StrEd (l : List Ed) : Prop := l.Pairwise fun a b => edLt a b = true
theorem edLt_key {a b c d : Ed} (h1 : edK a = edK c) (h2 : edK b = edK d) : edLt a b = edLt c d := by
  rw [Bool.eq_iff_iff, edLt_cmp, edLt_cmp, h1, h2]
theorem edLt_irr (a : Ed) : edLt a a = false := by
  rw [Bool.eq_false_iff]
  intro h
  rw [edLt_cmp, (ekCmp_cmp.eq _ _).2 rfl] at h
  cases h
theorem edLt_tr {a b c : Ed} (h1 : edLt a b = true) (h2 : edLt b c = true) : edLt a c = true := by
  rw [edLt_cmp] at *
  exact ekCmp_cmp.tr _ _ _ h1 h2
theorem edLt_ne {a b : Ed} (h : edLt a b = true) : edK a ≠ edK b := fun e => by
  rw [edLt_cmp, (ekCmp_cmp.eq _ _).2 e] at h
  cases h
theorem edLt_tri {a b : Ed} (h1 : edLt a b = false) (h2 : edLt b a = false) : edK a = edK b := by
  rw [Bool.eq_false_iff] at h1 h2
  have n1 : ekCmp (edK a) (edK b) ≠ -1 := fun h => h1 ((edLt_cmp _ _).2 h)
  have n2 : ekCmp (edK b) (edK a) ≠ -1 := fun h => h2 ((edLt_cmp _ _).2 h)
  have r := ekCmp_cmp.rng (edK a) (edK b)
  have n := ekCmp_cmp.neg (edK a) (edK b)
  exact (ekCmp_cmp.eq _ _).1 (by omega)
/-- The number at a key. -/
def edNum (l : List Ed) (k : Ek) : Nat := ((l.find? fun e => decide (edK e = k)).map (·.n)).getD 0
theorem edNum_cons (a : Ed) (l : List Ed) (k : Ek) : edNum (a :: l) k = if edK a = k then a.n else edNum l k := by
  unfold edNum
  rw [List.find?_cons]
  by_cases h : edK a = k
  · rw [decide_eq_true h, if_pos h]; rfl
  · rw [decide_eq_false h, if_neg h]
theorem edNum_none {l : List Ed} {k : Ek} (h : ∀ e ∈ l, edK e ≠ k) : edNum l k = 0 := by
  induction l with
  | nil => rfl
  | cons a l ih =>
    rw [edNum_cons, if_neg (h a (List.mem_cons_self ..))]
    exact ih fun e he => h e (List.mem_cons_of_mem _ he)
theorem edNum_mem {l : List Ed} {e : Ed} (hs : StrEd l) (h : e ∈ l) : edNum l (edK e) = e.n := by
  induction l with
  | nil => cases h
  | cons a l ih =>
    obtain ⟨h1, h2⟩ := List.pairwise_cons.1 hs
    rw [edNum_cons]
    rcases List.mem_cons.1 h with rfl | h
    · rw [if_pos rfl]
    · rw [if_neg (edLt_ne (h1 e h))]
      exact ih h2 h
theorem addE_cons (x a : Ed) (l : List Ed) : addE x (a :: l) = if edLt a x = true then (a :: (addE x l).1, (addE x l).2) else
    if edLt x a = true then (x :: a :: l, decide (x.n ≤ 4611686018427387904)) else if 4611686018427387904 < x.n ∨ 4611686018427387904 - x.n < a.n then (a :: l, false) else (⟨a.b, a.f, a.t, a.n + x.n⟩ :: l, true) := by
  by_cases h : edLt a x = true
  · rw [if_pos h]
    unfold addE
    rw [addPos, if_pos h]
    simp only [List.getElem?_cons_succ, List.take_succ_cons, List.drop_succ_cons, List.set_cons_succ]
    cases l[addPos x l]? with
    | none => rfl
    | some y =>
      simp only []
      by_cases h1 : edLt x y = true
      · rw [if_pos h1, if_pos h1]; rfl
      · rw [if_neg h1, if_neg h1]
        by_cases h2 : 4611686018427387904 < x.n ∨ 4611686018427387904 - x.n < y.n
        · rw [if_pos h2, if_pos h2]
        · rw [if_neg h2, if_neg h2]
  · rw [if_neg h]
    unfold addE
    rw [addPos, if_neg h]
    rfl
theorem addE_flag {x : Ed} : ∀ {l : List Ed}, StrEd l → (addE x l).2 = decide (edNum l (edK x) + x.n ≤ 4611686018427387904)
  | [], _ => by
    show decide (x.n ≤ _) = decide (0 + x.n ≤ _)
    rw [Nat.zero_add]
  | a :: l, hs => by
    obtain ⟨h1, h2⟩ := List.pairwise_cons.1 hs
    rw [addE_cons]
    by_cases h : edLt a x = true
    · rw [if_pos h, edNum_cons, if_neg (edLt_ne h)]
      exact addE_flag h2
    · rw [if_neg h]
      by_cases h3 : edLt x a = true
      · rw [if_pos h3, edNum_none (k := edK x) (fun e he => by
          rcases List.mem_cons.1 he with rfl | he
          · exact (edLt_ne h3).symm
          · exact (edLt_ne (edLt_tr h3 (h1 e he))).symm), Nat.zero_add]
      · rw [if_neg h3, edNum_cons, if_pos (edLt_tri (Bool.eq_false_iff.2 h) (Bool.eq_false_iff.2 h3))]
        by_cases h4 : 4611686018427387904 < x.n ∨ 4611686018427387904 - x.n < a.n
        · rw [if_pos h4]
          exact (decide_eq_false (by omega)).symm
        · rw [if_neg h4]
          exact (decide_eq_true (by omega)).symm
theorem addE_mem {x : Ed} : ∀ {l : List Ed}, StrEd l → edNum l (edK x) + x.n ≤ 4611686018427387904 → ∀ e, e ∈ (addE x l).1 ↔ (e ∈ l ∧ edK e ≠ edK x) ∨ e = mkEd (edK x, edNum l (edK x) + x.n)
  | [], _, _, e => by
    show e ∈ [x] ↔ _
    rw [List.mem_singleton]
    have : mkEd (edK x, edNum [] (edK x) + x.n) = x := by
      show mkEd (edK x, 0 + x.n) = x
      rw [Nat.zero_add]
      rfl
    rw [this]
    simp
  | a :: l, hs, ho, e => by
    obtain ⟨h1, h2⟩ := List.pairwise_cons.1 hs
    rw [addE_cons]
    rw [edNum_cons] at ho ⊢
    by_cases h : edLt a x = true
    · rw [if_pos h]
      rw [if_neg (edLt_ne h)] at ho ⊢
      have ih := addE_mem h2 ho e
      simp only [List.mem_cons, ih]
      constructor
      · rintro (rfl | ⟨h3, h4⟩ | h3)
        · exact .inl ⟨.inl rfl, edLt_ne h⟩
        · exact .inl ⟨.inr h3, h4⟩
        · exact .inr h3
      · rintro (⟨rfl | h3, h4⟩ | h3)
        · exact .inl rfl
        · exact .inr (.inl ⟨h3, h4⟩)
        · exact .inr (.inr h3)
    · rw [if_neg h]
      by_cases h3 : edLt x a = true
      · have hno : ∀ e ∈ a :: l, edK e ≠ edK x := fun e he => by
          rcases List.mem_cons.1 he with rfl | he
          · exact (edLt_ne h3).symm
          · exact (edLt_ne (edLt_tr h3 (h1 e he))).symm
        have h0 := edNum_none hno
        rw [edNum_cons] at h0
        rw [if_pos h3, h0, Nat.zero_add, mk_un, List.mem_cons]
        constructor
        · rintro (rfl | h4)
          · exact .inr rfl
          · exact .inl ⟨h4, hno e h4⟩
        · rintro (⟨h4, _⟩ | h4)
          · exact .inr h4
          · exact .inl h4
      · have hk := edLt_tri (Bool.eq_false_iff.2 h) (Bool.eq_false_iff.2 h3)
        rw [if_pos hk] at ho ⊢
        rw [if_neg h3, if_neg (by omega)]
        have hm : (⟨a.b, a.f, a.t, a.n + x.n⟩ : Ed) = mkEd (edK x, a.n + x.n) := by rw [← hk]; rfl
        rw [hm, List.mem_cons, List.mem_cons]
        constructor
        · rintro (h4 | h4)
          · exact .inr h4
          · exact .inl ⟨.inr h4, fun e1 => edLt_ne (h1 e h4) (hk.trans e1.symm)⟩
        · rintro (⟨rfl | h4, h5⟩ | h4)
          · exact absurd hk h5
          · exact .inr h4
          · exact .inl h4
theorem addE_str {x : Ed} : ∀ {l : List Ed}, StrEd l → edNum l (edK x) + x.n ≤ 4611686018427387904 → StrEd (addE x l).1
  | [], _, _ => List.pairwise_singleton _ _
  | a :: l, hs, ho => by
    obtain ⟨h1, h2⟩ := List.pairwise_cons.1 hs
    rw [addE_cons]
    rw [edNum_cons] at ho
    by_cases h : edLt a x = true
    · rw [if_pos h]
      rw [if_neg (edLt_ne h)] at ho
      refine List.pairwise_cons.2 ⟨fun e he => ?_, addE_str h2 ho⟩
      rcases (addE_mem h2 ho e).1 he with ⟨h3, _⟩ | h3
      · exact h1 e h3
      · rw [← h]
        exact edLt_key rfl (by rw [h3]; rfl)
    · rw [if_neg h]
      by_cases h3 : edLt x a = true
      · rw [if_pos h3]
        refine List.pairwise_cons.2 ⟨fun e he => ?_, hs⟩
        rcases List.mem_cons.1 he with rfl | he
        · exact h3
        · exact edLt_tr h3 (h1 e he)
      · have hk := edLt_tri (Bool.eq_false_iff.2 h) (Bool.eq_false_iff.2 h3)
        rw [if_pos hk] at ho
        rw [if_neg h3, if_neg (by omega)]
        exact List.pairwise_cons.2 ⟨fun e he => (edLt_key rfl rfl).trans (h1 e he), h2⟩
/-! ### a map and a list say the same -/
theorem mgPut_mem {κ ν : Type} [DecidableEq κ] {k : κ} {v : ν} : ∀ {L : List (κ × ν)}, (L.map (·.1)).Nodup → ∀ p, p ∈ mgPut k v L ↔ (p ∈ L ∧ p.1 ≠ k) ∨ p = (k, v)
  | [], _, p => by simp [mgPut]
  | q :: l, hn, p => by
    obtain ⟨h1, h2⟩ := List.nodup_cons.1 hn
    rw [mgPut]
    by_cases h : q.1 = k
    · rw [if_pos h, List.mem_cons, List.mem_cons]
      constructor
      · rintro (h3 | h3)
        · exact .inr h3
        · exact .inl ⟨.inr h3, fun e => h1 (List.mem_map.2 ⟨p, h3, e.trans h.symm⟩)⟩
      · rintro (⟨rfl | h3, h4⟩ | h3)
        · exact absurd h h4
        · exact .inr h3
        · exact .inl h3
    · rw [if_neg h, List.mem_cons, List.mem_cons, mgPut_mem h2 p]
      constructor
      · rintro (rfl | ⟨h3, h4⟩ | h3)
        · exact .inl ⟨.inl rfl, h⟩
        · exact .inl ⟨.inr h3, h4⟩
        · exact .inr h3
      · rintro (⟨rfl | h3, h4⟩ | h3)
        · exact .inl rfl
        · exact .inr (.inl ⟨h3, h4⟩)
        · exact .inr (.inr h3)
structure Same (M : List (Ek × Nat)) (out : List Ed) : Prop where
  nd : (M.map (·.1)).Nodup
  st : StrEd out
  mem : ∀ p, p ∈ M ↔ mkEd p ∈ out
theorem Same.nil : Same [] [] := ⟨List.nodup_nil, List.Pairwise.nil, fun p => by simp⟩
theorem Same.num {M : List (Ek × Nat)} {out : List Ed} (h : Same M out) (k : Ek) : (mgGet k M).getD 0 = edNum out k := by
  cases hg : mgGet k M with
  | some v =>
    have h1 := (h.mem _).1 (mgGet_mem hg)
    have h2 := edNum_mem h.st h1
    exact h2.symm
  | none =>
    symm
    refine edNum_none fun e he hk => ?_
    have h1 := (h.mem (edK e, e.n)).2 he
    rw [hk] at h1
    rw [mgGet_some h.nd h1] at hg
    cases hg
theorem Same.step {M : List (Ek × Nat)} {out : List Ed} {x : Ed} (h : Same M out) (ho : edNum out (edK x) + x.n ≤ 4611686018427387904) : Same (addK (edK x) x.n M) (addE x out).1 := by
  refine ⟨mgPut_nodup h.nd, addE_str h.st ho, fun p => ?_⟩
  rw [addK, mgPut_mem h.nd, addE_mem h.st ho, h.num, h.mem, Nat.min_eq_left (by omega), Nat.min_eq_left (by omega)]
  refine or_congr Iff.rfl ⟨fun e => by rw [e], fun e => mk_inj e⟩
def BadM (M : List (Ek × Nat)) : Prop := ∃ p ∈ M, 4611686018427387904 < p.2
theorem BadM.step {M : List (Ek × Nat)} {k : Ek} {n : Nat} (hn : (M.map (·.1)).Nodup) (h : BadM M) : BadM (addK k n M) := by
  obtain ⟨p, hp, hlt⟩ := h
  by_cases hk : p.1 = k
  · refine ⟨(k, min ((mgGet k M).getD 0) 4611686018427387905 + min n 4611686018427387905), (mgPut_mem hn _).2 (.inr rfl), ?_⟩
    rw [mgGet_some hn (show (k, p.2) ∈ M by rw [← hk]; exact hp)]
    show _ < min p.2 _ + _
    omega
  · exact ⟨p, (mgPut_mem hn _).2 (.inl ⟨hp, hk⟩), hlt⟩
theorem Same.bad {M : List (Ek × Nat)} {out : List Ed} {x : Ed} (h : Same M out) (ho : ¬ edNum out (edK x) + x.n ≤ 4611686018427387904) : BadM (addK (edK x) x.n M) := by
  refine ⟨(edK x, _), (mgPut_mem h.nd _).2 (.inr rfl), ?_⟩
  rw [h.num]
  show _ < min _ _ + min _ _
  omega
/-- All of them added, in turn. -/
def addAll : List Ed → List Ed → Option (List Ed)
  | [], out => some out
  | x :: xs, out => if (addE x out).2 = true then addAll xs (addE x out).1 else none
def mgAll (xs : List Ed) (M : List (Ek × Nat)) : List (Ek × Nat) := xs.foldl (fun M x => addK (edK x) x.n M) M
theorem mgAll_bad {xs : List Ed} : ∀ {M : List (Ek × Nat)}, (M.map (·.1)).Nodup → BadM M → BadM (mgAll xs M) := by
  induction xs with
  | nil => intro M _ h; exact h
  | cons x xs ih => intro M hn h; exact ih (mgPut_nodup hn) (h.step hn)
theorem mgAll_nodup {xs : List Ed} : ∀ {M : List (Ek × Nat)}, (M.map (·.1)).Nodup → ((mgAll xs M).map (·.1)).Nodup := by
  induction xs with
  | nil => intro M h; exact h
  | cons x xs ih => intro M hn; exact ih (mgPut_nodup hn)
theorem mgAll_snoc (xs : List Ed) (x : Ed) (M : List (Ek × Nat)) : mgAll (xs ++ [x]) M = addK (edK x) x.n (mgAll xs M) := by simp [mgAll]
theorem mgAll_len (xs : List Ed) : ∀ (M : List (Ek × Nat)), (mgAll xs M).length ≤ M.length + xs.length := by
  induction xs with
  | nil => intro M; exact Nat.le_refl _
  | cons x xs ih =>
    intro M
    have h1 := ih (addK (edK x) x.n M)
    have h2 := mgPut_len_le (k := edK x) (v := min ((mgGet (edK x) M).getD 0) 4611686018427387905 + min x.n 4611686018427387905) M
    have h3 : (addK (edK x) x.n M).length ≤ M.length + 1 := h2
    show (mgAll xs (addK (edK x) x.n M)).length ≤ _
    simp only [List.length_cons]
    omega
/-- What is in a list that all were added to. -/
def AllSaid (r : Option (List Ed)) (M : List (Ek × Nat)) : Prop :=
  match r with
  | some o => Same M o ∧ ∀ e ∈ o, e.n ≤ 4611686018427387904
  | none => BadM M
theorem addAll_same {xs : List Ed} : ∀ {M : List (Ek × Nat)} {out : List Ed}, Same M out → (∀ e ∈ out, e.n ≤ 4611686018427387904) → AllSaid (addAll xs out) (mgAll xs M) := by
  induction xs with
  | nil => intro M out h hf; exact ⟨h, hf⟩
  | cons x xs ih =>
    intro M out h hf
    rw [addAll, addE_flag h.st]
    by_cases ho : edNum out (edK x) + x.n ≤ 4611686018427387904
    · rw [if_pos (decide_eq_true ho)]
      refine ih (h.step ho) fun e he => ?_
      rcases (addE_mem h.st ho e).1 he with ⟨h1, _⟩ | h1
      · exact hf e h1
      · rw [h1]; exact ho
    · rw [if_neg (by simp; omega)]
      show BadM (mgAll xs (addK (edK x) x.n M))
      exact mgAll_bad (mgPut_nodup h.nd) (h.bad ho)
/-- Sorted, and the map's: the list. -/
theorem Same.sorted {M : List (Ek × Nat)} {out l : List Ed} (h : Same M out) (hp : l.Perm (M.map mkEd)) (hs : SortEd l) : l = out := by
  have hkl : (l.map edK).Perm (M.map (·.1)) := by
    have := hp.map edK
    rw [List.map_map] at this
    exact this
  have hnd : (l.map edK).Nodup := hkl.nodup_iff.2 h.nd
  have hstr : StrEd l := by
    have h1 := List.pairwise_map.1 hnd
    refine (List.Pairwise.and hs h1).imp ?_
    rintro a b ⟨h2, h3⟩
    rw [edLt_cmp]
    have r := ekCmp_cmp.rng (edK a) (edK b)
    have : ekCmp (edK a) (edK b) ≠ 0 := fun e => h3 ((ekCmp_cmp.eq _ _).1 e)
    omega
  have hnl : l.Nodup := hstr.imp fun h e => by rw [e, edLt_irr] at h; cases h
  have hno : out.Nodup := h.st.imp fun h e => by rw [e, edLt_irr] at h; cases h
  have hperm : l.Perm out := (List.perm_ext_iff_of_nodup hnl hno).2 fun e => by
    rw [hp.mem_iff, List.mem_map]
    constructor
    · rintro ⟨p, h1, rfl⟩
      exact (h.mem p).1 h1
    · intro h1
      exact ⟨(edK e, e.n), (h.mem _).2 h1, rfl⟩
  exact List.Perm.eq_of_pairwise (le := fun a b => edLt a b = true) (fun a b _ _ h1 h2 => by
    have := edLt_tr h1 h2
    rw [edLt_irr] at this
    cases this) hstr h.st hperm
end Go.Proofs.Ythaiplhjekkooaa
