/- Edges merged, plain: sums over keys; what Merge and Between of edges that may be tell. -/
import Derived.Test.YthaiplhjekkooaaDeS
namespace Go.Proofs.Ythaiplhjekkooaa

/-- The calls at the keys that P takes. -/
def totP (P : Ek → Bool) : List Ed → Nat
  | [] => 0
  | e :: l => (if P (edK e) = true then e.n else 0) + totP P l
abbrev tot (l : List Ed) : Nat := totP (fun _ => true) l
theorem totP_append (P : Ek → Bool) : ∀ (a b : List Ed), totP P (a ++ b) = totP P a + totP P b
  | [], b => by simp [totP]
  | e :: a, b => by rw [List.cons_append, totP, totP, totP_append P a b, Nat.add_assoc]
theorem totP_le (P : Ek → Bool) : ∀ (l : List Ed), totP P l ≤ tot l
  | [] => Nat.le_refl _
  | e :: l => by
    have := totP_le P l
    show (if P (edK e) = true then e.n else 0) + totP P l ≤ (if true = true then e.n else 0) + tot l
    rw [if_pos rfl]
    split <;> omega
theorem edNum_le : ∀ (l : List Ed) (k : Ek), edNum l k ≤ tot l
  | [], k => by simp [edNum]
  | e :: l, k => by
    have := edNum_le l k
    rw [edNum_cons]
    show _ ≤ (if true = true then e.n else 0) + tot l
    rw [if_pos rfl]
    split <;> omega
theorem totP_add {P : Ek → Bool} {x : Ed} : ∀ {l : List Ed}, StrEd l → edNum l (edK x) + x.n ≤ 4611686018427387904 → totP P (addE x l).1 = totP P l + (if P (edK x) = true then x.n else 0)
  | [], _, _ => by
    rw [show (addE x []).1 = [x] from rfl]
    simp [totP]
  | a :: l, hs, hn => by
    have hs2 := (List.pairwise_cons.1 hs).2
    rw [addE_cons]
    by_cases h1 : edLt a x = true
    · rw [if_pos h1]
      have hne := edLt_ne h1
      rw [edNum_cons, if_neg hne] at hn
      have ih := totP_add (P := P) hs2 hn
      show totP P (a :: (addE x l).1) = _
      rw [totP, ih, totP]
      omega
    · rw [if_neg h1]
      by_cases h2 : edLt x a = true
      · rw [if_pos h2]
        show totP P (x :: a :: l) = _
        rw [totP, Nat.add_comm]
      · rw [if_neg h2]
        have hk := edLt_tri (a := a) (b := x) (by simpa using h1) (by simpa using h2)
        rw [edNum_cons, if_pos hk] at hn
        rw [if_neg (by omega)]
        show totP P (⟨a.b, a.f, a.t, a.n + x.n⟩ :: l) = _
        rw [totP, totP, show edK ⟨a.b, a.f, a.t, a.n + x.n⟩ = edK a from rfl, hk]
        show (if P (edK x) = true then a.n + x.n else 0) + _ = _
        split <;> omega
def keys (l : List Ed) : List Ek := l.map edK
theorem addE_keys {x : Ed} {l : List Ed} (hs : StrEd l) (hn : edNum l (edK x) + x.n ≤ 4611686018427387904) (k : Ek) : k ∈ keys (addE x l).1 ↔ k ∈ keys l ∨ k = edK x := by
  unfold keys
  rw [List.mem_map, List.mem_map]
  constructor
  · rintro ⟨e, he, rfl⟩
    rcases (addE_mem hs hn e).1 he with ⟨h1, _⟩ | h1
    · exact .inl ⟨e, h1, rfl⟩
    · exact .inr (by rw [h1]; rfl)
  · intro h
    by_cases hk : k = edK x
    · exact ⟨_, (addE_mem hs hn _).2 (.inr rfl), by rw [hk]; rfl⟩
    · rcases h with ⟨e, he, rfl⟩ | h
      · exact ⟨e, (addE_mem hs hn e).2 (.inl ⟨he, hk⟩), rfl⟩
      · exact absurd h hk
theorem addE_lenU (x : Ed) (l : List Ed) : (addE x l).1.length ≤ l.length + 1 := by
  have h1 : (l.take (addPos x l) ++ x :: l.drop (addPos x l)).length ≤ l.length + 1 := by
    simp only [List.length_append, List.length_cons, List.length_take, List.length_drop]; omega
  unfold addE
  cases hy : l[addPos x l]? with
  | none => exact h1
  | some y =>
    simp only []
    split
    · exact h1
    · split
      · exact Nat.le_succ _
      · rw [List.length_set]; exact Nat.le_succ _
theorem addAll_tot : ∀ {xs out : List Ed}, StrEd out → tot out + tot xs ≤ 4611686018427387904 →
    ∃ o, addAll xs out = some o ∧ StrEd o ∧ (∀ P, totP P o = totP P out + totP P xs) ∧ (∀ k, k ∈ keys o ↔ k ∈ keys out ∨ k ∈ keys xs) ∧ o.length ≤ out.length + xs.length
  | [], out, hs, _ => ⟨out, rfl, hs, fun P => rfl, fun k => by simp [keys], Nat.le_refl _⟩
  | x :: xs, out, hs, ht => by
    have htx : tot (x :: xs) = x.n + tot xs := by show (if true = true then x.n else 0) + tot xs = _; rw [if_pos rfl]
    have hn : edNum out (edK x) + x.n ≤ 4611686018427387904 := by have := edNum_le out (edK x); omega
    have hadd := fun P => totP_add (P := P) hs hn
    have h2 : tot (addE x out).1 + tot xs ≤ 4611686018427387904 := by
      have := hadd (fun _ => true)
      rw [if_pos rfl] at this
      have e : tot (addE x out).1 = tot out + x.n := this
      omega
    obtain ⟨o, h3, h4, h5, h6, h7⟩ := addAll_tot (xs := xs) (addE_str hs hn) h2
    refine ⟨o, by rw [addAll, addE_flag hs, if_pos (decide_eq_true hn), h3], h4, fun P => ?_, fun k => ?_, ?_⟩
    · rw [h5, hadd, totP]
      omega
    · rw [h6, addE_keys hs hn]
      unfold keys
      rw [List.map_cons, List.mem_cons]
      constructor
      · rintro ((h | h) | h)
        · exact .inl h
        · exact .inr (.inl h)
        · exact .inr (.inr h)
      · rintro (h | h | h)
        · exact .inl (.inl h)
        · exact .inl (.inr h)
        · exact .inr h
    · have := addE_lenU x out
      rw [List.length_cons]
      omega
theorem totP_key : ∀ {l : List Ed}, StrEd l → ∀ k, totP (fun j => decide (j = k)) l = edNum l k
  | [], _, k => by simp [totP, edNum]
  | a :: l, hs, k => by
    obtain ⟨h1, h2⟩ := List.pairwise_cons.1 hs
    rw [totP, edNum_cons, totP_key h2]
    by_cases hk : edK a = k
    · rw [if_pos (decide_eq_true hk), if_pos hk]
      have : edNum l k = 0 := edNum_none fun e he h => edLt_ne (h1 e he) (hk.trans h.symm)
      omega
    · rw [if_neg (by simp [hk]), if_neg hk]
      omega
/-- Sorted lists of the same keys and sums are the same. -/
theorem same_of {l m : List Ed} (hl : StrEd l) (hm : StrEd m) (hk : ∀ k, k ∈ keys l ↔ k ∈ keys m) (ht : ∀ P, totP P l = totP P m) : l = m := by
  have hin : ∀ {l m : List Ed}, StrEd l → StrEd m → (∀ k, k ∈ keys l → k ∈ keys m) → (∀ P, totP P l = totP P m) → ∀ e ∈ l, e ∈ m := by
    intro l m hl hm hk ht e he
    obtain ⟨e', he', hke⟩ := List.mem_map.1 (hk (edK e) (List.mem_map.2 ⟨e, he, rfl⟩))
    have h1 := edNum_mem hl he
    have h2 := edNum_mem hm he'
    have h3 := ht (fun j => decide (j = edK e))
    rw [totP_key hl, totP_key hm] at h3
    rw [hke] at h2
    have h4 : e.n = e'.n := by omega
    rw [← mk_un e, h4, ← hke, mk_un]
    exact he'
  have hnl : l.Nodup := hl.imp fun h e => by rw [e, edLt_irr] at h; cases h
  have hnm : m.Nodup := hm.imp fun h e => by rw [e, edLt_irr] at h; cases h
  have hperm : l.Perm m := (List.perm_ext_iff_of_nodup hnl hnm).2 fun e => ⟨hin hl hm (fun k => (hk k).1) ht e, hin hm hl (fun k => (hk k).2) (fun P => (ht P).symm) e⟩
  exact List.Perm.eq_of_pairwise (le := fun a b => edLt a b = true) (fun a b _ _ h1 h2 => by
    have := edLt_tr h1 h2
    rw [edLt_irr] at this
    cases this) hl hm hperm
theorem edWrong_iff {l : List Ed} {i : Nat} {x : Ed} (hx : l[i]? = some x) : edWrong l i = false ↔ edFine x = true ∧ ∀ k p, i = k + 1 → l[k]? = some p → edLt p x = true := by
  rw [edWrong, hx]
  simp only [Bool.or_eq_false_iff, Bool.not_eq_false']
  refine and_congr Iff.rfl ?_
  cases i with
  | zero => exact ⟨fun _ k p h => (by cases h), fun _ => rfl⟩
  | succ k =>
    simp only []
    constructor
    · intro h k' p hk hp
      cases hk
      rw [hp] at h
      simp only [decide_eq_false_iff_not] at h
      rw [edLt_cmp]
      have := ekCmp_cmp.rng (edK p) (edK x)
      omega
    · intro h
      cases hp : l[k]? with
      | none => rfl
      | some p =>
        have := (edLt_cmp p x).1 (h k p rfl hp)
        simp only [decide_eq_false_iff_not]
        omega
/-- Edges that may be. -/
theorem edChk_iff (l : List Ed) : edChk l = 0 ↔ (∀ e ∈ l, edFine e = true) ∧ StrEd l := by
  have h0 : edChk l = 0 ↔ ∀ i, i < l.length → edWrong l i = false := by
    unfold edChk
    constructor
    · intro h i hi
      cases hw : edWrong l i with
      | false => rfl
      | true => rw [if_pos (edWrong_at hw hi)] at h; cases h
    · intro h
      rw [if_neg]
      intro hw
      rw [edWrongTo, List.any_eq_true] at hw
      obtain ⟨j, hj, hw⟩ := hw
      rw [h j (List.mem_range.1 hj)] at hw
      cases hw
  rw [h0]
  constructor
  · intro h
    refine ⟨fun e he => ?_, ?_⟩
    · obtain ⟨i, hi, hx⟩ := List.getElem_of_mem he
      exact ((edWrong_iff (by rw [List.getElem?_eq_getElem hi, hx])).1 (h i hi)).1
    · have hcons : ∀ k (hk : k + 1 < l.length), edLt (l[k]'(by omega)) l[k + 1] = true := fun k hk =>
        ((edWrong_iff (List.getElem?_eq_getElem hk)).1 (h (k + 1) hk)).2 k _ rfl (List.getElem?_eq_getElem (by omega))
      have hall : ∀ d i (hi : i + d + 1 < l.length), edLt (l[i]'(by omega)) l[i + d + 1] = true := by
        intro d
        induction d with
        | zero => exact fun i hi => hcons i hi
        | succ d ih => exact fun i hi => edLt_tr (ih i (by omega)) (hcons (i + d + 1) hi)
      refine List.pairwise_iff_getElem.2 fun i j hi hj hij => ?_
      obtain ⟨d, rfl⟩ : ∃ d, j = i + d + 1 := ⟨j - i - 1, by omega⟩
      exact hall d i hj
  · rintro ⟨hf, hs⟩ i hi
    refine (edWrong_iff (List.getElem?_eq_getElem hi)).2 ⟨hf _ (List.getElem_mem hi), fun k p hk hp => ?_⟩
    subst hk
    obtain ⟨hk', rfl⟩ := List.getElem?_eq_some_iff.1 hp
    exact List.pairwise_iff_getElem.1 hs k (k + 1) hk' hi (by omega)
theorem edFine_key {x e : Ed} (hx : edFine x = true) (hf : e.f = x.f) (ht : e.t = x.t) (hn : 1 ≤ e.n) : edFine e = true := by
  unfold edFine at hx ⊢
  rw [hf, ht]
  simp only [Bool.and_eq_true, decide_eq_true_eq] at hx ⊢
  exact ⟨hx.1, hn⟩
theorem fine_pos {x : Ed} (hx : edFine x = true) : 1 ≤ x.n := by
  unfold edFine at hx
  simp only [Bool.and_eq_true, decide_eq_true_eq] at hx
  exact hx.2
theorem tot_mem {P : Ek → Bool} : ∀ {l : List Ed} {e : Ed}, e ∈ l → P (edK e) = true → e.n ≤ totP P l
  | [], e, h, _ => by cases h
  | a :: l, e, h, hP => by
    rw [totP]
    rcases List.mem_cons.1 h with rfl | h
    · rw [if_pos hP]; omega
    · have := tot_mem h hP
      omega
/-- All that addOut of fine edges of few calls tells. -/
theorem addOut_fine {xs : List Ed} (hf : ∀ e ∈ xs, edFine e = true) (ht : tot xs ≤ 4611686018427387904) :
    ∃ o, addOut xs = (o, 0) ∧ edChk o = 0 ∧ StrEd o ∧ (∀ P, totP P o = totP P xs) ∧ (∀ k, k ∈ keys o ↔ k ∈ keys xs) ∧ o.length ≤ xs.length := by
  obtain ⟨o, h1, h2, h3, h4, h5⟩ := addAll_tot (xs := xs) (out := []) List.Pairwise.nil (by simpa [totP] using ht)
  have h3' : ∀ P, totP P o = totP P xs := fun P => by rw [h3]; simp [totP]
  have h4' : ∀ k, k ∈ keys o ↔ k ∈ keys xs := fun k => by rw [h4]; simp [keys]
  refine ⟨o, by rw [addOut, h1], (edChk_iff o).2 ⟨fun e he => ?_, h2⟩, h2, h3', h4', by simpa using h5⟩
  obtain ⟨x, hx, hk⟩ := List.mem_map.1 ((h4' (edK e)).1 (List.mem_map.2 ⟨e, he, rfl⟩))
  have hfx := hf x hx
  refine edFine_key hfx (congrArg Ek.f hk).symm (congrArg Ek.t hk).symm ?_
  have e1 := edNum_mem h2 he
  have e2 := totP_key h2 (edK e)
  rw [h3'] at e2
  have e3 := tot_mem (P := fun j => decide (j = edK e)) hx (by rw [hk]; simp)
  have e4 := fine_pos hfx
  omega
/-- Edges that may be, of T calls at most. -/
structure Okl (l : List Ed) (T : Nat) : Prop where
  chk : edChk l = 0
  few : tot l ≤ T
theorem Okl.fine {l : List Ed} {T : Nat} (h : Okl l T) : ∀ e ∈ l, edFine e = true := ((edChk_iff l).1 h.chk).1
theorem Okl.str {l : List Ed} {T : Nat} (h : Okl l T) : StrEd l := ((edChk_iff l).1 h.chk).2
theorem merge_ok {a b : List Ed} {S T : Nat} (ha : Okl a S) (hb : Okl b T) (hst : S + T ≤ 4611686018427387904) :
    ∃ x, mergeOut a b = (x, 0) ∧ Okl x (S + T) ∧ (∀ P, totP P x = totP P a + totP P b) ∧ (∀ k, k ∈ keys x ↔ k ∈ keys a ∨ k ∈ keys b) ∧ x.length ≤ a.length + b.length := by
  have h1 := ha.few
  have h2 := hb.few
  obtain ⟨x, e1, e2, e3, e4, e5, e6⟩ := addOut_fine (xs := a ++ b) (fun e he => (List.mem_append.1 he).elim (ha.fine e) (hb.fine e)) (by rw [tot, totP_append]; simp only [tot] at h1 h2; omega)
  refine ⟨x, by rw [mergeOut_ok ha.chk hb.chk, e1], ⟨e2, by rw [tot, e4, totP_append]; simp only [tot] at h1 h2; omega⟩, fun P => by rw [e4, totP_append], fun k => by rw [e5]; simp [keys], by simpa using e6⟩
def inB (p q : Nat) (k : Ek) : Bool := decide (p ≤ k.b) && decide (k.b ≤ q)
theorem tot_bet (p q : Nat) : ∀ (l : List Ed), tot (l.filterMap (betE p q)) = totP (inB p q) l
  | [] => rfl
  | e :: l => by
    have ih := tot_bet p q l
    by_cases h : p ≤ e.b ∧ e.b ≤ q
    · have hb : inB p q (edK e) = true := by simp [inB, edK, h]
      rw [List.filterMap_cons, betE, if_pos h]
      show (if true = true then e.n else 0) + tot (l.filterMap (betE p q)) = (if inB p q (edK e) = true then e.n else 0) + totP (inB p q) l
      rw [ih, if_pos rfl, if_pos hb]
    · have hb : ¬ inB p q (edK e) = true := by
        intro hc
        rw [inB, Bool.and_eq_true, decide_eq_true_eq, decide_eq_true_eq] at hc
        exact h hc
      rw [List.filterMap_cons, betE, if_neg h]
      show tot (l.filterMap (betE p q)) = (if inB p q (edK e) = true then e.n else 0) + totP (inB p q) l
      rw [ih, if_neg hb, Nat.zero_add]
theorem bet_ok {l : List Ed} {T p q : Nat} (h : Okl l T) (hT : T ≤ 4611686018427387904) : ∃ m, betOut l p q = (m, 0) ∧ Okl m T ∧ tot m = totP (inB p q) l ∧ m.length ≤ l.length := by
  have hfm : ∀ e ∈ l.filterMap (betE p q), edFine e = true := fun e he => by
    obtain ⟨x, hx, hb⟩ := List.mem_filterMap.1 he
    unfold betE at hb
    split at hb
    · cases hb
      exact edFine_key (h.fine x hx) rfl rfl (fine_pos (h.fine x hx))
    · cases hb
  have h1 := tot_bet p q l
  have h2 := totP_le (inB p q) l
  have h3 := h.few
  obtain ⟨m, e1, e2, e3, e4, e5, e6⟩ := addOut_fine hfm (by rw [h1]; omega)
  refine ⟨m, by rw [betOut, if_neg (by simp [h.chk]), e1], ⟨e2, ?_⟩, ?_, Nat.le_trans e6 (List.length_filterMap_le _ _)⟩
  · have := e4 (fun _ => true)
    show totP _ m ≤ T
    rw [this]
    show tot _ ≤ T
    rw [h1]
    omega
  · rw [← h1]
    exact e4 _
theorem merge_comm {a b : List Ed} {S T : Nat} (ha : Okl a S) (hb : Okl b T) (hst : S + T ≤ 4611686018427387904) : mergeOut b a = mergeOut a b := by
  obtain ⟨x, e1, e2, e3, e4, -⟩ := merge_ok ha hb hst
  obtain ⟨y, f1, f2, f3, f4, -⟩ := merge_ok hb ha (by omega)
  rw [e1, f1, same_of f2.str e2.str (fun k => by rw [e4, f4]; exact or_comm) (fun P => by rw [e3, f3, Nat.add_comm])]
theorem merge_assoc {a b c x z : List Ed} {S T U : Nat} (ha : Okl a S) (hb : Okl b T) (hc : Okl c U) (hst : S + T + U ≤ 4611686018427387904) (hx : mergeOut a b = (x, 0)) (hz : mergeOut b c = (z, 0)) : mergeOut a z = mergeOut x c := by
  obtain ⟨x', e1, e2, e3, e4, -⟩ := merge_ok ha hb (by omega)
  obtain ⟨z', f1, f2, f3, f4, -⟩ := merge_ok hb hc (by omega)
  rw [hx] at e1
  rw [hz] at f1
  cases e1
  cases f1
  obtain ⟨p, g1, g2, g3, g4, -⟩ := merge_ok e2 hc (by omega)
  obtain ⟨q, h1, h2, h3, h4, -⟩ := merge_ok ha f2 (by omega)
  rw [g1, h1, same_of h2.str g2.str (fun k => by rw [h4, f4, g4, e4]; exact or_assoc.symm) (fun P => by rw [h3, f3, g3, e3, Nat.add_assoc])]
end Go.Proofs.Ythaiplhjekkooaa
