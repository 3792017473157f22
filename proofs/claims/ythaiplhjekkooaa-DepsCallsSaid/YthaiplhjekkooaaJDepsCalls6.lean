/- Texts of the proof of DepsCallsSaid, joined: DeP Open0 SpO AdO AdI EdI. -/
import Derived.Test.YthaiplhjekkooaaJDepsCalls5
import Derived.Test.YthaiplhjekkooaaJDepsCalls1
import Derived.Test.YthaiplhjekkooaaRows
import Derived.ProofKit
import Derived.OpenShut
import Derived.ShutString
import Derived.ChangeOld
import Derived.Deep.Slices
import Derived.Lib.SmallJoins
import Derived.Test.YthaiplhjekkooaaJDepsCalls4
import Derived.Test.YthaiplhjekkooaaJDepsCalls3
/- Edges, plain: the code's and the document's are one. -/
namespace Go.Proofs.Ythaiplhjekkooaa
open Go.RowKit

theorem snoc_ind {α : Type} {p : List α → Prop} (h0 : p []) (h1 : ∀ l x, p l → p (l ++ [x])) (l : List α) : p l := by
  have h : ∀ m : List α, p m.reverse := by
    intro m
    induction m with
    | nil => exact h0
    | cons x m ih => rw [List.reverse_cons]; exact h1 _ _ ih
  have := h l.reverse
  rwa [List.reverse_reverse] at this
def onO {α β : Type} (f : β → α → β) (o : β) : Option α → β
  | some y => f o y
  | none => o
theorem atTo_keys (l : List AE) : ∀ k, k ∈ (atTo l).map (·.1) ↔ k ∈ l.map (·.a.s.id) := by
  induction l using snoc_ind with
  | h0 => intro k; simp [atTo]
  | h1 l x ih =>
    intro k
    rw [atTo_snoc, mgPut_keys]
    by_cases h : x.a.s.id ∈ (atTo l).map (·.1)
    · rw [if_pos h, ih, List.map_append, List.mem_append]
      constructor
      · exact .inl
      · rintro (h1 | h1)
        · exact h1
        · simp at h1
          rw [h1]
          exact (ih _).1 h
    · rw [if_neg h, List.mem_append, List.map_append, List.mem_append, ih]
      simp
theorem atTo_le (l : List AE) : (atTo l).length ≤ l.length := by
  induction l using snoc_ind with
  | h0 => simp [atTo]
  | h1 l x ih =>
    rw [atTo_snoc]
    have := mgPut_len_le (k := x.a.s.id) (v := x) (atTo l)
    simp
    omega
theorem atTo_len_snoc (l : List AE) (x : AE) : (atTo (l ++ [x])).length = l.length + 1 ↔ (atTo l).length = l.length ∧ x.a.s.id ∉ l.map (·.a.s.id) := by
  have h1 := congrArg List.length (mgPut_keys (k := x.a.s.id) (v := x) (atTo l))
  have h2 := atTo_le l
  rw [← atTo_snoc] at h1
  simp only [List.length_map] at h1
  by_cases h : x.a.s.id ∈ (atTo l).map (·.1)
  · rw [if_pos h] at h1
    simp only [List.length_map] at h1
    have h3 := (atTo_keys l _).1 h
    constructor
    · intro h4; omega
    · rintro ⟨_, h4⟩; exact absurd h3 h4
  · rw [if_neg h] at h1
    simp only [List.length_append, List.length_map, List.length_cons, List.length_nil] at h1
    have h3 : x.a.s.id ∉ l.map (·.a.s.id) := fun h4 => h ((atTo_keys l _).2 h4)
    constructor
    · intro h4; exact ⟨by omega, h3⟩
    · rintro ⟨h4, _⟩; omega
theorem atTo_map {l : List AE} (h : (atTo l).length = l.length) : (l.map (·.a.s.id)).Nodup ∧ atTo l = l.map fun e => (e.a.s.id, e) := by
  induction l using snoc_ind with
  | h0 => exact ⟨List.nodup_nil, rfl⟩
  | h1 l x ih =>
    rw [List.length_append, List.length_singleton] at h
    obtain ⟨h1, h2⟩ := (atTo_len_snoc l x).1 h
    obtain ⟨h3, h4⟩ := ih h1
    refine ⟨?_, ?_⟩
    · rw [List.map_append, List.nodup_append]
      exact ⟨h3, by simp, fun a ha b hb e => by simp at hb; subst hb; exact h2 (e ▸ ha)⟩
    · rw [atTo_snoc, mgPut_new (fun hk => h2 ((atTo_keys l _).1 hk)), h4, List.map_append]
      rfl
theorem dupTo_iff {l : List AE} {x : Ad} : ∀ {i : Nat}, i ≤ l.length → (dupTo (ads l) x i = true ↔ x.s.id ∈ (l.take i).map (·.a.s.id))
  | 0, _ => by simp [dupTo]
  | i + 1, hi => by
    obtain ⟨y, hy⟩ : ∃ y, l[i]? = some y := ⟨_, List.getElem?_eq_getElem hi⟩
    rw [dupTo_succ (ads_get hy), take_snoc hy, List.map_append, List.mem_append, Bool.or_eq_true, dupTo_iff (i := i) (by omega), decide_eq_true_eq]
    simp [eq_comm]
theorem edBad_iff {l : List AE} : ∀ {i : Nat}, i ≤ l.length → (edBadTo (ads l) i = true ↔ ((atTo (l.take i)).length ≠ i ∨ (l.take i).any negA = true))
  | 0, _ => by simp [edBadTo, atTo]
  | i + 1, hi => by
    obtain ⟨y, hy⟩ : ∃ y, l[i]? = some y := ⟨_, List.getElem?_eq_getElem hi⟩
    have hlt : (l.take i).length = i := by rw [List.length_take]; omega
    have h1 := atTo_len_snoc (l.take i) y
    rw [hlt] at h1
    have h2 : edBadAt (ads l) i = (decide (y.a.s.start < 0) || dupTo (ads l) y.a i) := by rw [edBadAt, ads_get hy]
    rw [edBadTo_succ, h2, Bool.or_eq_true, Bool.or_eq_true, edBad_iff (i := i) (by omega), dupTo_iff (i := i) (by omega), take_snoc hy, ne_eq, ne_eq, h1, List.any_append, Bool.or_eq_true]
    have h3 : ([y].any negA = true) ↔ decide (y.a.s.start < 0) = true := by simp [negA]
    rw [h3]
    by_cases a1 : (atTo (l.take i)).length = i <;> by_cases a2 : y.a.s.id ∈ (l.take i).map (·.a.s.id) <;> by_cases a3 : (l.take i).any negA = true <;> by_cases a4 : decide (y.a.s.start < 0) = true <;> simp_all
theorem foldl_range_get {α β : Type} (f : β → α → β) : ∀ (l : List α) (s : β), (List.range l.length).foldl (fun o k => onO f o l[k]?) s = l.foldl f s := by
  intro l
  induction l using snoc_ind with
  | h0 => intro s; rfl
  | h1 l x ih =>
    intro s
    rw [List.length_append, List.length_singleton, List.range_succ, List.foldl_append, List.foldl_append, ← ih]
    have hc : ∀ (n : Nat) (s : β), n ≤ l.length → (List.range n).foldl (fun o k => onO f o (l ++ [x])[k]?) s = (List.range n).foldl (fun o k => onO f o l[k]?) s := by
      intro n
      induction n with
      | zero => intro s _; rfl
      | succ n ihn =>
        intro s hn
        rw [List.range_succ, List.foldl_append, List.foldl_append, ihn _ (by omega)]
        simp [List.getElem?_append_left (show n < l.length by omega)]
    rw [hc _ _ (Nat.le_refl _)]
    simp [onO]
theorem foldl_only {β : Type} (f : β → AE → β) (u : Nat) : ∀ (l : List AE) (o : β), (l.map (·.a.s.id)).Nodup → (∀ o y, y.a.s.id ≠ u → f o y = o) →
    l.foldl f o = match l.find? (fun y => decide (y.a.s.id = u)) with | some y => f o y | none => o
  | [], o, _, _ => rfl
  | y :: l, o, hn, hf => by
    obtain ⟨h1, h2⟩ := List.nodup_cons.1 hn
    rw [List.foldl_cons, List.find?_cons]
    by_cases h : y.a.s.id = u
    · rw [decide_eq_true h]
      have : ∀ (m : List AE) (o : β), (∀ z ∈ m, z.a.s.id ≠ u) → m.foldl f o = o := by
        intro m
        induction m with
        | nil => intro o _; rfl
        | cons z m ih => intro o hz; rw [List.foldl_cons, hf _ _ (hz z (List.mem_cons_self ..))]; exact ih _ fun q hq => hz q (List.mem_cons_of_mem _ hq)
      exact this l _ fun z hz e => h1 (List.mem_map.2 ⟨z, hz, e.trans h.symm⟩)
    · rw [decide_eq_false h, hf _ _ h]
      exact foldl_only f u l o h2 hf
theorem spErr_all : ∀ {l : List Sp}, spErr l = 0 → ∀ s ∈ l, spChk s = 0
  | [], _, s, h => by cases h
  | x :: l, h, s, hs => by
    rw [spErr] at h
    by_cases h1 : spChk x = 0
    · rw [if_neg (by simp [h1])] at h
      rcases List.mem_cons.1 hs with rfl | hs
      · exact h1
      · exact spErr_all h s hs
    · rw [if_pos h1] at h
      exact absurd h h1
theorem spChk_id {s : Sp} (h : spChk s = 0) : s.id ≠ 0 := by
  intro h0
  unfold spChk headB at h
  simp [h0] at h
  split at h <;> cases h
theorem edRow_call {l : List AE} {size : Int} {x : AE} {i : Nat} {out : List Ed} (hx : l[i]? = some x) (hl : (atTo l).length = l.length) (hs : spErr (l.map (·.a.s)) = 0) :
    edRow size (ads l) out i = match callC size (atTo l) x with | some e => (addE e out).1 | none => out := by
  obtain ⟨hnd, hat⟩ := atTo_map hl
  rw [edRow, ads_get hx]
  show (List.range (ads l).length).foldl (edAt size (ads l) x.a) out = _
  have e1 := foldl_range_get (fun o (y : AE) => edStep size x.a y.a o) l out
  have e2 : (fun o k => onO (fun o (y : AE) => edStep size x.a y.a o) o l[k]?) = edAt size (ads l) x.a := by
    funext o k
    rw [edAt, ads, List.getElem?_map]
    cases l[k]? <;> rfl
  rw [e2] at e1
  rw [ads_len, e1, foldl_only (fun o y => edStep size x.a y.a o) x.a.up l out hnd (fun o y hy => by rw [edStep, if_neg (fun h => hy h.2.1)])]
  have hget : mgGet x.a.up (atTo l) = l.find? (fun y => decide (y.a.s.id = x.a.up)) := by
    rw [hat, mgGet]
    clear hat hnd hl e1 e2 hx hs
    induction l with
    | nil => rfl
    | cons y l ih =>
      rw [List.map_cons, List.find?_cons, List.find?_cons]
      by_cases h : y.a.s.id = x.a.up
      · simp [h]
      · simp only [decide_eq_false h]
        exact ih
  rw [callC, hget]
  cases hf : l.find? (fun y => decide (y.a.s.id = x.a.up)) with
  | none => rfl
  | some y =>
    have hid0 := List.find?_some hf
    have hid : y.a.s.id = x.a.up := by simpa using hid0
    have hy := List.mem_of_find?_eq_some hf
    have h0 : x.a.up ≠ 0 := by rw [← hid]; exact spChk_id (spErr_all hs _ (List.mem_map.2 ⟨y, hy, rfl⟩))
    simp only [edStep]
    by_cases hsv : y.a.s.service = x.a.s.service
    · simp [hsv]
    · simp [hsv, hid, h0]
theorem edRows_calls {l : List AE} {size : Int} (hl : (atTo l).length = l.length) (hs : spErr (l.map (·.a.s)) = 0) :
    (List.range (ads l).length).foldl (edRow size (ads l)) [] = (callsC size l).foldl (fun o e => (addE e o).1) [] := by
  have h1 := foldl_range_get (fun o (x : AE) => match callC size (atTo l) x with | some e => (addE e o).1 | none => o) l []
  have h2 : ∀ (n : Nat), n ≤ l.length → (List.range n).foldl (edRow size (ads l)) [] = (List.range n).foldl (fun o k => onO (fun o (x : AE) => match callC size (atTo l) x with | some e => (addE e o).1 | none => o) o l[k]?) [] := by
    intro n
    induction n with
    | zero => intro _; rfl
    | succ n ih =>
      intro hn
      obtain ⟨x, hx⟩ : ∃ x, l[n]? = some x := ⟨_, List.getElem?_eq_getElem hn⟩
      rw [List.range_succ, List.foldl_append, List.foldl_append, ih (by omega)]
      simp only [List.foldl_cons, List.foldl_nil, hx]
      exact edRow_call hx hl hs
  rw [ads_len, h2 _ (Nat.le_refl _), h1, callsC]
  generalize ([] : List Ed) = o
  generalize atTo l = M
  clear h1 h2 hl hs
  induction l generalizing o with
  | nil => rfl
  | cons x l ih =>
    rw [List.foldl_cons, List.filterMap_cons]
    cases callC size M x with
    | none => exact ih o
    | some e => exact ih _
theorem addAll_some {xs : List Ed} : ∀ {out o : List Ed}, addAll xs out = some o → o = xs.foldl (fun o e => (addE e o).1) out := by
  induction xs with
  | nil => intro out o h; exact (Option.some.inj h).symm
  | cons x xs ih =>
    intro out o h
    rw [addAll] at h
    split at h
    · exact ih h
    · cases h
/-- What the code hands back is what the document says. -/
theorem edgC_out {l : List AE} {size : Int} {w w' : World} {e : Ending} (hl : l.length ≤ 200) (h : EdgC l size w e w') : EdsPost w (edOut (ads l) size) e w' := by
  obtain ⟨hb, h⟩ := h
  have hbad := edBad_iff (l := l) (Nat.le_refl _)
  rw [List.take_of_length_le (Nat.le_refl _)] at hbad
  have hsp : (ads l).map (·.s) = l.map (·.a.s) := by simp [ads]
  rcases h with ⟨h1, rfl⟩ | ⟨h1, h⟩
  · have : edOut (ads l) size = ([], 2) := by
      unfold edOut
      rcases h1 with h1 | h1
      · rw [if_pos h1]
      · by_cases hz : size < 1
        · rw [if_pos hz]
        · rw [if_neg hz, ads_len, if_pos (hbad.2 h1)]
    rw [this]
    exact EdsPost.no hb
  · have hz : ¬ size < 1 := fun h2 => h1 (.inl h2)
    have hnb : ¬ edBadTo (ads l) l.length = true := fun h2 => h1 (.inr (hbad.1 h2))
    have hlen : (atTo l).length = l.length := by
      by_cases h2 : (atTo l).length = l.length
      · exact h2
      · exact absurd (.inr (.inl h2)) h1
    rcases h with ⟨h2, rfl⟩ | ⟨h2, A, c, n, out, hp, hs, hn, rfl, hown⟩
    · have : edOut (ads l) size = ([], spErr (l.map (·.a.s))) := by
        unfold edOut
        rw [if_neg hz, ads_len, if_neg hnb, hsp, if_pos h2]
      rw [this]
      exact EdsPost.no hb
    · have hone : ∀ e ∈ callsC size l, e.n = 1 := fun e he => by
        obtain ⟨z, _, hz⟩ := List.mem_filterMap.1 he
        exact callC_one hz
      have hcl : (callsC size l).length ≤ 200 := Nat.le_trans (List.length_filterMap_le _ _) hl
      have hfew := mgAll_few (xs := callsC size l) (M := []) (c := 0) hone (fun p hp => by cases hp) List.nodup_nil
      have hsame := addAll_same (xs := callsC size l) Same.nil (fun e he => by cases he)
      have heq : edOut (ads l) size = (out, 0) := by
        unfold edOut
        rw [if_neg hz, ads_len, if_neg hnb, hsp, if_neg (by simp [h2])]
        congr 1
        have h3 := edRows_calls (size := size) hlen h2
        rw [ads_len] at h3
        rw [h3]
        cases ha : addAll (callsC size l) [] with
        | none =>
          rw [ha] at hsame
          obtain ⟨p, hp, hlt⟩ := hsame
          have := hfew p hp
          omega
        | some o =>
          rw [ha] at hsame
          rw [hsame.1.sorted hp hs]
          exact (addAll_some ha).symm
      rw [heq]
      refine ⟨A, c, ?_, ?_, hb⟩
      · show _ = Ending.returned (.tuple #[.slice A out.length c, .int .i64 0])
        rw [hn]
      · show w'.ownsRow _ _ _ (.slice A out.length c) out.length _
        rw [hn]
        exact hown
end Go.Proofs.Ythaiplhjekkooaa

/- What comes in: what each statement's row asks. -/
namespace Go.Proofs.Ythaiplhjekkooaa
open Go.ChangeShapes Go.WideShapes Go.ChangeAt Go.RowKit

theorem ownKnob_none : ownKnob Try.prog.godebug = none := by kernel_rfl
theorem laidOut : laidOutB Try.prog = true := by kernel_rfl

end Go.Proofs.Ythaiplhjekkooaa

/- Spans that came in. -/
namespace Go.Proofs.Ythaiplhjekkooaa
open Go.ChangeShapes Go.WideShapes Go.ChangeAt Go.RowKit

theorem list_of {α : Type} (P : Nat → α → Prop) : ∀ (n : Nat), (∀ i, i < n → ∃ x, P i x) → ∃ l : List α, l.length = n ∧ ∀ i x, l[i]? = some x → P i x
  | 0, _ => ⟨[], rfl, fun i x h => by simp at h⟩
  | n + 1, h => by
    obtain ⟨l, hl, hp⟩ := list_of P n fun i hi => h i (by omega)
    obtain ⟨x, hx⟩ := h n (by omega)
    refine ⟨l ++ [x], by simp [hl], fun i y hy => ?_⟩
    by_cases hi : i < l.length
    · rw [List.getElem?_append_left hi] at hy
      exact hp i y hy
    · have hin : i = n := by
        have := (List.getElem?_eq_some_iff.1 hy).1
        simp at this
        omega
      subst hin
      rw [List.getElem?_append_right (by omega), hl, Nat.sub_self] at hy
      simp at hy
      subst hy
      exact hx
/-- Tags that came in. -/
structure InT (w : World) (A : Option Addr) (n c : Nat) (l : List Tg) : Prop where
  rd : RbT w w.heap.size A l
  len : l.length = n
  cap : n ≤ c
  max : c ≤ maxLen
set_option maxRecDepth 100000 in
theorem open_tag {H : Type} {enc : TypeId × Value → H} {W : World} {base : Nat} {held : Bool} {cs : List Value} {fuel : Nat} {y : DataW H × List MemPlace} {a : Addr} {b0 : Nat}
    (hc : W.cells? b0 a 2 = some cs) (h : DataW.trod enc Try.prog W base (fun _ => true) held fuel 90 cs = some y) : ∃ x : Tg, W.cell? a = some (.string x.key) ∧ W.cell? (a.add 1) = some (.string x.val) := by
  obtain ⟨xs, n, _, _, hlen, hyl, hf⟩ := DataW.trod_struct Try.underlying90 h
  obtain ⟨_, hcl, hat⟩ := World.cells?_some hc
  match cs, hcl with
  | [v0, v1], _ =>
    match xs, hyl with
    | [y0, y1], _ =>
      have cS : Try.prog.cellsOf 9 = 1 := by kernel_rfl
      have h0 : DataW.trod enc Try.prog W base (fun _ => true) held n 9 (([v0, v1].drop 0).take (Try.prog.cellsOf 9)) = some y0 := hf 0 _ rfl
      have h1 : DataW.trod enc Try.prog W base (fun _ => true) held n 9 (([v0, v1].drop 1).take (Try.prog.cellsOf 9)) = some y1 := hf 1 _ rfl
      rw [cS] at h0 h1
      simp only [List.drop_zero, List.drop_succ_cons, List.take_succ_cons, List.take_zero] at h0 h1
      obtain ⟨k, hk, -, -⟩ := DataW.trod_string Try.underlying9 h0
      obtain ⟨v, hv, -, -⟩ := DataW.trod_string Try.underlying9 h1
      simp at hk hv
      subst hk hv
      refine ⟨⟨k, v⟩, ?_, hat 1 (by omega)⟩
      have := hat 0 (by omega)
      simpa [Addr.add] using this
set_option maxRecDepth 100000 in
theorem open_fT {H : Type} {enc : TypeId × Value → H} {W : World} {base : Nat} {held : Bool} {v : Value} {fuel : Nat} {x : DataW H × List MemPlace}
    (h : DataW.trod enc Try.prog W base (fun _ => true) held fuel 41 [v] = some x) : ∃ A n c l, v = .slice A n c ∧ InT W A n c l := by
  rcases Deep.open_slice Try.underlying41 h with ⟨hcs, _⟩ | ⟨a, len, cap, m, n, D, Pl, hcs, hb, hl, hm, hmm, hx, hi⟩
  · simp at hcs
    subst hcs
    exact ⟨none, 0, 0, [], rfl, ⟨Rd.nil, rfl, Nat.le_refl _, by simp [maxLen]⟩⟩
  · simp at hcs
    subst hcs
    rw [if_pos rfl] at hmm
    subst hmm
    have hC : Try.prog.cellsOf 90 = 2 := by kernel_rfl
    rw [hC] at hi
    obtain ⟨l, hwl, hw⟩ := list_of (fun i (x : Tg) => W.cell? (a.add (i * 2)) = some (.string x.key) ∧ W.cell? ((a.add (i * 2)).add 1) = some (.string x.val)) len fun i hil => by
      obtain ⟨cs', hc, ht⟩ := hi i (by omega)
      exact open_tag hc ht
    refine ⟨some a, len, m, l, rfl, ⟨?_, hwl, hl, hm⟩⟩
    intro hne
    have hpos : 0 < len := by
      rcases Nat.eq_zero_or_pos len with h0 | h0
      · rw [← hwl] at h0
        rw [List.eq_nil_of_length_eq_zero h0] at hne
        exact absurd rfl hne
      · exact h0
    obtain ⟨x0, hx0⟩ : ∃ x0, l[0]? = some x0 := ⟨_, List.getElem?_eq_getElem (by omega)⟩
    obtain ⟨b, off, spot⟩ := a
    have h0 := (hw 0 x0 hx0).1
    simp only [Nat.zero_mul, Addr.add] at h0
    have hspot : spot = none := by simpa using World.cell?_spot h0
    subst hspot
    refine ⟨b, off, rfl, World.block_lt_of_cell? W ⟨b, off, none⟩ (by simpa using h0), fun j u hu => ?_⟩
    have hj : j < l.length * 2 := by
      have := (List.getElem?_eq_some_iff.1 hu).1
      rwa [tgs_length] at this
    obtain ⟨x1, hx1⟩ : ∃ x1, l[j / 2]? = some x1 := ⟨_, List.getElem?_eq_getElem (by omega)⟩
    obtain ⟨g1, g2⟩ := hw (j / 2) x1 hx1
    obtain ⟨t1, t2⟩ := tgs_get hx1
    rcases Nat.mod_two_eq_zero_or_one j with hr | hr
    · have e : j / 2 * 2 = j := by omega
      rw [e] at t1 g1
      rw [hu] at t1
      rw [Option.some.inj t1]
      rw [Addr.add_lit] at g1
      exact g1
    · have e : j / 2 * 2 + 1 = j := by omega
      rw [e] at t2
      rw [hu] at t2
      rw [Option.some.inj t2]
      rw [Addr.add_lit, Addr.add_lit] at g2
      rw [← e, ← Nat.add_assoc]
      exact g2
def Sp.I64 (s : Sp) : Prop := (-9223372036854775808 ≤ s.kind ∧ s.kind ≤ 9223372036854775807) ∧ (-9223372036854775808 ≤ s.start ∧ s.start ≤ 9223372036854775807) ∧ -9223372036854775808 ≤ s.length ∧ s.length ≤ 9223372036854775807
theorem i64_ofS {s : Int} (h : (Lit.int .i64 s).wf = true) : -9223372036854775808 ≤ s ∧ s ≤ 9223372036854775807 := by
  simp [Lit.wf, IntKind.min, IntKind.max, IntKind.signed, IntKind.bits] at h
  omega
/-- A span that came in. -/
structure InSp (w : World) (s : Sp) (A : Option Addr) (n c : Nat) : Prop where
  tags : InT w A n c s.tags
  u64 : s.U64
  service : s.service.size ≤ maxLen
  name : s.name.size ≤ maxLen
  i64 : s.I64
theorem u64_of {s : Int} (h : (Lit.int .u64 s).wf = true) : 0 ≤ s ∧ s < 18446744073709551616 := by
  simp [Lit.wf, IntKind.min, IntKind.max, IntKind.signed, IntKind.bits] at h
  omega
theorem array11 {cs : Array Value} (h : cs.size = 11) : ∃ a b c d e f g i j k l, cs = #[a, b, c, d, e, f, g, i, j, k, l] := by
  obtain ⟨l⟩ := cs
  match l, h with
  | [a, b, c, d, e, f, g, i, j, k, l], _ => exact ⟨a, b, c, d, e, f, g, i, j, k, l, rfl⟩
set_option maxRecDepth 100000 in
theorem open_spCells {H : Type} {enc : TypeId × Value → H} {W : World} {base : Nat} {held : Bool} {c0 c1 c2 c3 c4 c5 c6 c7 c8 c9 c10 : Value} {fuel : Nat} {x : DataW H × List MemPlace}
    (h : DataW.trod enc Try.prog W base (fun _ => true) held fuel 43 [c0, c1, c2, c3, c4, c5, c6, c7, c8, c9, c10] = some x) :
    ∃ (s : Sp) (A : Option Addr) (n c : Nat), [c0, c1, c2, c3, c4, c5, c6, c7, c8, c9, c10] = (spC s A n c).toList ∧ InSp W s A n c := by
  obtain ⟨xs, n, _, _, hlen, hyl, hf⟩ := DataW.trod_struct Try.underlying43 h
  match xs, hyl with
  | [y0, y1, y2, y3, y4, y5, y6, y7, y8, y9], _ =>
    have cT : Try.prog.cellsOf 40 = 2 := by kernel_rfl
    have cU : Try.prog.cellsOf 29 = 1 := by kernel_rfl
    have cS : Try.prog.cellsOf 9 = 1 := by kernel_rfl
    have cI : Try.prog.cellsOf 3 = 1 := by kernel_rfl
    have cJ : Try.prog.cellsOf 2 = 1 := by kernel_rfl
    have cB : Try.prog.cellsOf 4 = 1 := by kernel_rfl
    have cL : Try.prog.cellsOf 41 = 1 := by kernel_rfl
    obtain ⟨cs, hcs⟩ : ∃ cs, [c0, c1, c2, c3, c4, c5, c6, c7, c8, c9, c10] = cs := ⟨_, rfl⟩
    rw [hcs] at hf
    have h0 : DataW.trod enc Try.prog W base (fun _ => true) held n 40 ((cs.drop 0).take (Try.prog.cellsOf 40)) = some y0 := hf 0 _ rfl
    have h1 : DataW.trod enc Try.prog W base (fun _ => true) held n 29 ((cs.drop 2).take (Try.prog.cellsOf 29)) = some y1 := hf 1 _ rfl
    have h2 : DataW.trod enc Try.prog W base (fun _ => true) held n 29 ((cs.drop 3).take (Try.prog.cellsOf 29)) = some y2 := hf 2 _ rfl
    have h3 : DataW.trod enc Try.prog W base (fun _ => true) held n 9 ((cs.drop 4).take (Try.prog.cellsOf 9)) = some y3 := hf 3 _ rfl
    have h4 : DataW.trod enc Try.prog W base (fun _ => true) held n 9 ((cs.drop 5).take (Try.prog.cellsOf 9)) = some y4 := hf 4 _ rfl
    have h5 : DataW.trod enc Try.prog W base (fun _ => true) held n 3 ((cs.drop 6).take (Try.prog.cellsOf 3)) = some y5 := hf 5 _ rfl
    have h6 : DataW.trod enc Try.prog W base (fun _ => true) held n 2 ((cs.drop 7).take (Try.prog.cellsOf 2)) = some y6 := hf 6 _ rfl
    have h7 : DataW.trod enc Try.prog W base (fun _ => true) held n 2 ((cs.drop 8).take (Try.prog.cellsOf 2)) = some y7 := hf 7 _ rfl
    have h8 : DataW.trod enc Try.prog W base (fun _ => true) held n 4 ((cs.drop 9).take (Try.prog.cellsOf 4)) = some y8 := hf 8 _ rfl
    have h9 : DataW.trod enc Try.prog W base (fun _ => true) held n 41 ((cs.drop 10).take (Try.prog.cellsOf 41)) = some y9 := hf 9 _ rfl
    subst hcs
    rw [cT] at h0
    rw [cU] at h1 h2
    rw [cS] at h3 h4
    rw [cI] at h5
    rw [cJ] at h6 h7
    rw [cB] at h8
    rw [cL] at h9
    simp only [List.drop_zero, List.drop_succ_cons, List.take_succ_cons, List.take_zero] at h0 h1 h2 h3 h4 h5 h6 h7 h8 h9
    obtain ⟨zs, m, _, _, _, hzl, hg⟩ := DataW.trod_struct Try.underlying40 h0
    match zs, hzl with
    | [z0, z1], _ =>
      have g0 : DataW.trod enc Try.prog W base (fun _ => true) held m 29 (([c0, c1].drop 0).take (Try.prog.cellsOf 29)) = some z0 := hg 0 _ rfl
      have g1 : DataW.trod enc Try.prog W base (fun _ => true) held m 29 (([c0, c1].drop 1).take (Try.prog.cellsOf 29)) = some z1 := hg 1 _ rfl
      rw [cU] at g0 g1
      simp only [List.drop_zero, List.drop_succ_cons, List.take_succ_cons, List.take_zero] at g0 g1
      obtain ⟨q0, e0, -, w0⟩ := DataW.trod_int Try.underlying29 g0
      obtain ⟨q1, e1, -, w1⟩ := DataW.trod_int Try.underlying29 g1
      obtain ⟨q2, e2, -, w2⟩ := DataW.trod_int Try.underlying29 h1
      obtain ⟨q3, e3, -, w3⟩ := DataW.trod_int Try.underlying29 h2
      obtain ⟨q4, e4, -, w4⟩ := DataW.trod_string Try.underlying9 h3
      obtain ⟨q5, e5, -, w5⟩ := DataW.trod_string Try.underlying9 h4
      obtain ⟨q6, e6, -, w6⟩ := DataW.trod_int (k := .i64) (by kernel_rfl) h5
      obtain ⟨q7, e7, -, w7⟩ := DataW.trod_int Try.underlying2 h6
      obtain ⟨q8, e8, -, w8⟩ := DataW.trod_int Try.underlying2 h7
      obtain ⟨q9, e9, -⟩ := DataW.trod_bool Try.underlying4 h8
      obtain ⟨A, nt, ct, l, e10, hT⟩ := open_fT h9
      simp at e0 e1 e2 e3 e4 e5 e6 e7 e8 e9
      subst e0 e1 e2 e3 e4 e5 e6 e7 e8 e9 e10
      have r0 := u64_of w0
      have r1 := u64_of w1
      have r2 := u64_of w2
      have r3 := u64_of w3
      have u0 : q0.toNat < 18446744073709551616 := by omega
      have u1 : q1.toNat < 18446744073709551616 := by omega
      have u2 : q2.toNat < 18446744073709551616 := by omega
      have u3 : q3.toNat < 18446744073709551616 := by omega
      refine ⟨⟨q0.toNat, q1.toNat, q2.toNat, q3.toNat, q4, q5, q6, q7, q8, q9, l⟩, A, nt, ct, ?_, hT, ⟨u0, u1, u2, u3⟩, w4, w5, i64_ofS w6, i64_ofS w7, i64_ofS w8⟩
      simp only [spC, Int.toNat_of_nonneg r0.1, Int.toNat_of_nonneg r1.1, Int.toNat_of_nonneg r2.1, Int.toNat_of_nonneg r3.1]
set_option maxRecDepth 100000 in
theorem open_inSp {H : Type} {enc : TypeId × Value → H} {W : World} {base b0 : Nat} {r : Reach} {held : Bool} {v : Value} {d : DataW H} {p : List MemPlace} (hv : Value.okWide Try.prog W r b0 43 v)
    (h : DataW.Trod enc Try.prog W base (fun _ => true) held 43 v d p) : ∃ (s : Sp) (A : Option Addr) (n c : Nat), v = spV s A n c ∧ InSp W s A n c := by
  obtain ⟨cs, rfl, hsz⟩ := okWide_struct Try.underlying43 hv
  have hC : Try.prog.cellsOf 43 = 11 := by kernel_rfl
  obtain ⟨c0, c1, c2, c3, c4, c5, c6, c7, c8, c9, c10, rfl⟩ := array11 (hsz.trans hC)
  obtain ⟨fuel, hf⟩ := h
  obtain ⟨s, A, n, c, e, hi⟩ := open_spCells hf
  refine ⟨s, A, n, c, ?_, hi⟩
  rw [spV]
  congr 1
  exact Array.toList_inj.1 e
end Go.Proofs.Ythaiplhjekkooaa

/- Adjusted spans that came in. -/
namespace Go.Proofs.Ythaiplhjekkooaa
open Go.ChangeShapes Go.WideShapes Go.ChangeAt Go.RowKit

structure InAd (w : World) (a : Ad) (A : Option Addr) (n c : Nat) : Prop where
  sp : InSp w a.s A n c
  ok : a.Ok
theorem i64_ofK {s : Int} (h : (Lit.int .i64 s).wf = true) : -9223372036854775808 ≤ s ∧ s ≤ 9223372036854775807 := by
  simp [Lit.wf, IntKind.min, IntKind.max, IntKind.signed, IntKind.bits] at h
  omega
theorem array14 {cs : Array Value} (h : cs.size = 14) : ∃ a b c d e f g i j k l m n o, cs = #[a, b, c, d, e, f, g, i, j, k, l, m, n, o] := by
  obtain ⟨l⟩ := cs
  match l, h with
  | [a, b, c, d, e, f, g, i, j, k, l, m, n, o], _ => exact ⟨a, b, c, d, e, f, g, i, j, k, l, m, n, o, rfl⟩
set_option maxRecDepth 100000 in
theorem open_adCells {H : Type} {enc : TypeId × Value → H} {W : World} {base : Nat} {held : Bool} {c0 c1 c2 c3 c4 c5 c6 c7 c8 c9 c10 c11 c12 c13 : Value} {fuel : Nat} {x : DataW H × List MemPlace}
    (h : DataW.trod enc Try.prog W base (fun _ => true) held fuel 45 [c0, c1, c2, c3, c4, c5, c6, c7, c8, c9, c10, c11, c12, c13] = some x) :
    ∃ (a : Ad) (A : Option Addr) (n c : Nat), [c0, c1, c2, c3, c4, c5, c6, c7, c8, c9, c10, c11, c12, c13] = (adC a A n c).toList ∧ InAd W a A n c := by
  obtain ⟨xs, n, _, _, hlen, hyl, hf⟩ := DataW.trod_struct Try.underlying45 h
  match xs, hyl with
  | [y0, y1, y2, y3], _ =>
    have cP : Try.prog.cellsOf 43 = 11 := by kernel_rfl
    have cU : Try.prog.cellsOf 29 = 1 := by kernel_rfl
    have cI : Try.prog.cellsOf 3 = 1 := by kernel_rfl
    have cJ : Try.prog.cellsOf 2 = 1 := by kernel_rfl
    obtain ⟨cs, hcs⟩ : ∃ cs, [c0, c1, c2, c3, c4, c5, c6, c7, c8, c9, c10, c11, c12, c13] = cs := ⟨_, rfl⟩
    rw [hcs] at hf
    have h0 : DataW.trod enc Try.prog W base (fun _ => true) held n 43 ((cs.drop 0).take (Try.prog.cellsOf 43)) = some y0 := hf 0 _ rfl
    have h1 : DataW.trod enc Try.prog W base (fun _ => true) held n 29 ((cs.drop 11).take (Try.prog.cellsOf 29)) = some y1 := hf 1 _ rfl
    have h2 : DataW.trod enc Try.prog W base (fun _ => true) held n 2 ((cs.drop 12).take (Try.prog.cellsOf 2)) = some y2 := hf 2 _ rfl
    have h3 : DataW.trod enc Try.prog W base (fun _ => true) held n 3 ((cs.drop 13).take (Try.prog.cellsOf 3)) = some y3 := hf 3 _ rfl
    subst hcs
    rw [cP] at h0
    rw [cU] at h1
    rw [cJ] at h2
    rw [cI] at h3
    simp only [List.drop_zero, List.drop_succ_cons, List.take_succ_cons, List.take_zero] at h0 h1 h2 h3
    obtain ⟨s, A, nt, ct, e, hs⟩ := open_spCells h0
    obtain ⟨q1, e1, -, w1⟩ := DataW.trod_int Try.underlying29 h1
    obtain ⟨q2, e2, -, w2⟩ := DataW.trod_int Try.underlying2 h2
    obtain ⟨q3, e3, -, -⟩ := DataW.trod_int (k := .i64) (by kernel_rfl) h3
    simp at e1 e2 e3
    subst e1 e2 e3
    have r1 := u64_of w1
    have u1 : q1.toNat < 18446744073709551616 := by omega
    have r2 := i64_ofK w2
    refine ⟨⟨s, q1.toNat, q2, q3⟩, A, nt, ct, ?_, hs, hs.u64, u1, r2.1, r2.2⟩
    simp only [adC, Int.toNat_of_nonneg r1.1]
    have e' : [c0, c1, c2, c3, c4, c5, c6, c7, c8, c9, c10, .int .u64 q1, .int .i64 q2, .int .i64 q3] = (spC s A nt ct).toList ++ [.int .u64 q1, .int .i64 q2, .int .i64 q3] := by rw [← e]; rfl
    exact e'
set_option maxRecDepth 100000 in
theorem open_inAd {H : Type} {enc : TypeId × Value → H} {W : World} {base b0 : Nat} {r : Reach} {held : Bool} {v : Value} {d : DataW H} {p : List MemPlace} (hv : Value.okWide Try.prog W r b0 45 v)
    (h : DataW.Trod enc Try.prog W base (fun _ => true) held 45 v d p) : ∃ (a : Ad) (A : Option Addr) (n c : Nat), v = adV a A n c ∧ InAd W a A n c := by
  obtain ⟨cs, rfl, hsz⟩ := okWide_struct Try.underlying45 hv
  have hC : Try.prog.cellsOf 45 = 14 := by kernel_rfl
  obtain ⟨c0, c1, c2, c3, c4, c5, c6, c7, c8, c9, c10, c11, c12, c13, rfl⟩ := array14 (hsz.trans hC)
  obtain ⟨fuel, hf⟩ := h
  obtain ⟨a, A, n, c, e, hi⟩ := open_adCells hf
  refine ⟨a, A, n, c, ?_, hi⟩
  rw [adV]
  congr 1
  exact Array.toList_inj.1 e
end Go.Proofs.Ythaiplhjekkooaa

/- What comes in: a list of adjusted spans. -/
namespace Go.Proofs.Ythaiplhjekkooaa
open Go.ChangeShapes Go.WideShapes Go.ChangeAt Go.RowKit

theorem InAd.ae {w : World} {a : Ad} {A : Option Addr} {n c : Nat} (h : InAd w a A n c) : AeOk w w.heap.size ⟨a, A, n, c⟩ :=
  ⟨h.sp.tags.rd, h.sp.tags.len, by have h1 := h.sp.tags.cap; have h2 := h.sp.tags.max; simp only [maxLen] at h2; show n ≤ _; omega, h.ok⟩
/-- Adjusted spans that came in. -/
structure InAs (w : World) (A : Option Addr) (n c : Nat) (l : List AE) : Prop where
  rd : RbA w w.heap.size A l
  len : l.length = n
  cap : n ≤ c
  max : c ≤ maxLen
  i64 : ∀ e ∈ l, e.a.s.I64
set_option maxRecDepth 100000 in
theorem open_inAs {H : Type} {enc : TypeId × Value → H} {W : World} {base b0 : Nat} {r : Reach} {held : Bool} {v : Value} {d : DataW H} {p : List MemPlace} (_hv : Value.okWide Try.prog W r b0 22 v)
    (h : DataW.Trod enc Try.prog W base (fun _ => true) held 22 v d p) : ∃ (A : Option Addr) (n c : Nat) (l : List AE), v = .slice A n c ∧ InAs W A n c l := by
  obtain ⟨aa, len, cap, rfl⟩ := okWide_slice Try.underlying22 _hv
  obtain ⟨fuel, hf⟩ := h
  rcases Deep.open_slice Try.underlying22 hf with ⟨hcs, _⟩ | ⟨a, len, cap, m, n, D, Pl, hcs, hb, hl, hm, hmm, hx, hi⟩
  · simp [Value.cells] at hcs
    obtain ⟨rfl, rfl, rfl⟩ := hcs
    exact ⟨none, 0, 0, [], rfl, ⟨RbA.nil, rfl, Nat.le_refl _, by simp [maxLen], fun e he => by cases he⟩⟩
  · simp [Value.cells] at hcs
    obtain ⟨rfl, rfl, rfl⟩ := hcs
    rw [if_pos rfl] at hmm
    subst hmm
    have hC : Try.prog.cellsOf 45 = 14 := by kernel_rfl
    rw [hC] at hi
    obtain ⟨l, hll, hw⟩ := list_of (fun i (e : AE) => (∀ j, j < 14 → W.cell? ((a.add (i * 14)).add j) = (aeC e)[j]?) ∧ AeOk W W.heap.size e ∧ e.a.s.I64) len fun i hil => by
      obtain ⟨cs', hc, ht⟩ := hi i (by omega)
      obtain ⟨_, hcl, hat⟩ := World.cells?_some hc
      match cs', hcl with
      | [c0, c1, c2, c3, c4, c5, c6, c7, c8, c9, c10, c11, c12, c13], _ =>
        obtain ⟨s, A, n, c, he, hin⟩ := open_adCells ht
        refine ⟨⟨s, A, n, c⟩, fun j hj => ?_, hin.ae, hin.sp.i64⟩
        have h1 := hat j hj
        rw [he] at h1
        exact h1
    refine ⟨some a, _, _, l, rfl, ⟨⟨?_, ?_⟩, hll, hl, hm, ?_⟩⟩
    · intro hne
      have hpos : 0 < l.length := by
        rcases Nat.eq_zero_or_pos l.length with h0 | h0
        · rw [List.eq_nil_of_length_eq_zero h0] at hne
          exact absurd rfl hne
        · exact h0
      obtain ⟨x0, hx0⟩ : ∃ x0, l[0]? = some x0 := ⟨_, List.getElem?_eq_getElem hpos⟩
      obtain ⟨b, off, spot⟩ := a
      have h0 := (hw 0 x0 hx0).1 0 (by omega)
      simp only [Nat.zero_mul, Addr.add] at h0
      have h1 : (aeC x0)[0]? = some (.int .u64 x0.a.s.hi) := rfl
      rw [h1] at h0
      have hspot : spot = none := by simpa using World.cell?_spot h0
      subst hspot
      refine ⟨b, off, rfl, World.block_lt_of_cell? W ⟨b, off, none⟩ (by simpa using h0), fun j u hu => ?_⟩
      have hj : j < l.length * 14 := by
        have := (List.getElem?_eq_some_iff.1 hu).1
        rwa [flatR_length aeC_length] at this
      obtain ⟨x1, hx1⟩ : ∃ x1, l[j / 14]? = some x1 := ⟨_, List.getElem?_eq_getElem (by omega)⟩
      have h2 := (hw (j / 14) x1 hx1).1 (j % 14) (Nat.mod_lt _ (by omega))
      have h3 := flatR_get aeC_length hx1 (j % 14) (Nat.mod_lt _ (by omega))
      rw [Addr.add_lit, Addr.add_lit, Nat.add_assoc, show j / 14 * 14 + j % 14 = j from by omega] at h2
      rw [show j / 14 * 14 + j % 14 = j from by omega] at h3
      rw [h2, ← h3, hu]
    · intro e he
      obtain ⟨i, hi, hxi⟩ := List.getElem_of_mem he
      exact (hw i e (by rw [List.getElem?_eq_getElem hi, hxi])).2.1
    · intro e he
      obtain ⟨i, hi, hxi⟩ := List.getElem_of_mem he
      exact (hw i e (by rw [List.getElem?_eq_getElem hi, hxi])).2.2
end Go.Proofs.Ythaiplhjekkooaa

/- What comes in: a list of edges. -/
namespace Go.Proofs.Ythaiplhjekkooaa
open Go.ChangeShapes Go.WideShapes Go.ChangeAt Go.RowKit

def Ed.Ok (e : Ed) : Prop := e.b < 18446744073709551616 ∧ e.n < 18446744073709551616 ∧ e.f.size ≤ maxLen ∧ e.t.size ≤ maxLen
/-- Edges that came in. -/
structure InEd (w : World) (A : Option Addr) (n c : Nat) (l : List Ed) : Prop where
  rd : RbD w w.heap.size A l
  len : l.length = n
  max : n ≤ 9223372036854775807
  ok : ∀ e ∈ l, e.Ok
set_option maxRecDepth 100000 in
theorem open_edCells {H : Type} {enc : TypeId × Value → H} {W : World} {base : Nat} {held : Bool} {c0 c1 c2 c3 : Value} {fuel : Nat} {x : DataW H × List MemPlace}
    (h : DataW.trod enc Try.prog W base (fun _ => true) held fuel 47 [c0, c1, c2, c3] = some x) :
    ∃ e : Ed, [c0, c1, c2, c3] = edC e ∧ e.Ok := by
  obtain ⟨xs, n, _, _, hlen, hyl, hf⟩ := DataW.trod_struct Try.underlying47 h
  match xs, hyl with
  | [y0, y1, y2, y3], _ =>
    have cU : Try.prog.cellsOf 29 = 1 := by kernel_rfl
    have cS : Try.prog.cellsOf 9 = 1 := by kernel_rfl
    obtain ⟨cs, hcs⟩ : ∃ cs, [c0, c1, c2, c3] = cs := ⟨_, rfl⟩
    rw [hcs] at hf
    have h0 : DataW.trod enc Try.prog W base (fun _ => true) held n 29 ((cs.drop 0).take (Try.prog.cellsOf 29)) = some y0 := hf 0 _ rfl
    have h1 : DataW.trod enc Try.prog W base (fun _ => true) held n 9 ((cs.drop 1).take (Try.prog.cellsOf 9)) = some y1 := hf 1 _ rfl
    have h2 : DataW.trod enc Try.prog W base (fun _ => true) held n 9 ((cs.drop 2).take (Try.prog.cellsOf 9)) = some y2 := hf 2 _ rfl
    have h3 : DataW.trod enc Try.prog W base (fun _ => true) held n 29 ((cs.drop 3).take (Try.prog.cellsOf 29)) = some y3 := hf 3 _ rfl
    subst hcs
    rw [cU] at h0 h3
    rw [cS] at h1 h2
    simp only [List.drop_zero, List.drop_succ_cons, List.take_succ_cons, List.take_zero] at h0 h1 h2 h3
    obtain ⟨q0, e0, -, w0⟩ := DataW.trod_int Try.underlying29 h0
    obtain ⟨q1, e1, -, w1⟩ := DataW.trod_string Try.underlying9 h1
    obtain ⟨q2, e2, -, w2⟩ := DataW.trod_string Try.underlying9 h2
    obtain ⟨q3, e3, -, w3⟩ := DataW.trod_int Try.underlying29 h3
    simp at e0 e1 e2 e3
    subst e0 e1 e2 e3
    have r0 := u64_of w0
    have r3 := u64_of w3
    refine ⟨⟨q0.toNat, q1, q2, q3.toNat⟩, ?_, by show q0.toNat < _; omega, by show q3.toNat < _; omega, w1, w2⟩
    simp only [edC, Int.toNat_of_nonneg r0.1, Int.toNat_of_nonneg r3.1]
set_option maxRecDepth 100000 in
theorem open_inEd {H : Type} {enc : TypeId × Value → H} {W : World} {base b0 : Nat} {r : Reach} {held : Bool} {v : Value} {d : DataW H} {p : List MemPlace} (_hv : Value.okWide Try.prog W r b0 25 v)
    (h : DataW.Trod enc Try.prog W base (fun _ => true) held 25 v d p) : ∃ (A : Option Addr) (n c : Nat) (l : List Ed), v = .slice A n c ∧ InEd W A n c l := by
  obtain ⟨aa, len, cap, rfl⟩ := okWide_slice Try.underlying25 _hv
  obtain ⟨fuel, hf⟩ := h
  rcases Deep.open_slice Try.underlying25 hf with ⟨hcs, _⟩ | ⟨a, len, cap, m, n, D, Pl, hcs, hb, hl, hm, hmm, hx, hi⟩
  · simp [Value.cells] at hcs
    obtain ⟨rfl, rfl, rfl⟩ := hcs
    exact ⟨none, 0, 0, [], rfl, ⟨Rd.nil, rfl, by omega, fun e he => by cases he⟩⟩
  · simp [Value.cells] at hcs
    obtain ⟨rfl, rfl, rfl⟩ := hcs
    rw [if_pos rfl] at hmm
    subst hmm
    have hC : Try.prog.cellsOf 47 = 4 := by kernel_rfl
    rw [hC] at hi
    obtain ⟨l, hll, hw⟩ := list_of (fun i (e : Ed) => (∀ j, j < 4 → W.cell? ((a.add (i * 4)).add j) = (edC e)[j]?) ∧ e.Ok) len fun i hil => by
      obtain ⟨cs', hc, ht⟩ := hi i (by omega)
      obtain ⟨_, hcl, hat⟩ := World.cells?_some hc
      match cs', hcl with
      | [c0, c1, c2, c3], _ =>
        obtain ⟨e, he, hin⟩ := open_edCells ht
        refine ⟨e, fun j hj => ?_, hin⟩
        have h1 := hat j hj
        rw [he] at h1
        exact h1
    refine ⟨some a, _, _, l, rfl, ⟨?_, hll, by simp only [maxLen] at hm; omega, ?_⟩⟩
    · intro hne
      have hpos : 0 < l.length := by
        rcases Nat.eq_zero_or_pos l.length with h0 | h0
        · rw [List.eq_nil_of_length_eq_zero h0] at hne
          exact absurd rfl hne
        · exact h0
      obtain ⟨x0, hx0⟩ : ∃ x0, l[0]? = some x0 := ⟨_, List.getElem?_eq_getElem hpos⟩
      obtain ⟨b, off, spot⟩ := a
      have h0 := (hw 0 x0 hx0).1 0 (by omega)
      simp only [Nat.zero_mul, Addr.add] at h0
      have h1 : (edC x0)[0]? = some (.int .u64 x0.b) := rfl
      rw [h1] at h0
      have hspot : spot = none := by simpa using World.cell?_spot h0
      subst hspot
      refine ⟨b, off, rfl, World.block_lt_of_cell? W ⟨b, off, none⟩ (by simpa using h0), fun j u hu => ?_⟩
      have hj : j < l.length * 4 := by
        have := (List.getElem?_eq_some_iff.1 hu).1
        rwa [eds_length] at this
      obtain ⟨x1, hx1⟩ : ∃ x1, l[j / 4]? = some x1 := ⟨_, List.getElem?_eq_getElem (by omega)⟩
      have h2 := (hw (j / 4) x1 hx1).1 (j % 4) (Nat.mod_lt _ (by omega))
      have h3 := flatR_get edC_length hx1 (j % 4) (Nat.mod_lt _ (by omega))
      rw [Addr.add_lit, Addr.add_lit, Nat.add_assoc, show j / 4 * 4 + j % 4 = j from by omega] at h2
      rw [show j / 4 * 4 + j % 4 = j from by omega] at h3
      rw [h2, ← h3, hu]
    · intro e he
      obtain ⟨i, hi, hxi⟩ := List.getElem_of_mem he
      exact (hw i e (by rw [List.getElem?_eq_getElem hi, hxi])).2
end Go.Proofs.Ythaiplhjekkooaa
