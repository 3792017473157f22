/- Texts of the proof of DepsNamesSaid, joined: DeP Open0. -/
import Derived.Test.YthaiplhjekkooaaJDepsNames5
import Derived.Test.YthaiplhjekkooaaJDepsNames1
import Derived.Test.YthaiplhjekkooaaRows
import Derived.ProofKit
import Derived.OpenShut
import Derived.ShutString
import Derived.ChangeOld
/- Edges, plain: the code's and the document's are one. -/
namespace Go.Proofs.Ythaiplhjekkooaa
open Go.RowKit

theorem snoc_ind {α : Type} {p : List α → Prop} (h0 : p []) (h1 : ∀ l x, p l → p (l ++ [x])) (l : List α) : p l := by
  have h : ∀ m : List α, p m.reverse := by
    intro m
    induction m with
    | nil => exact h0
    | cons x m ih => rw [List.reverse_cons]; exact h1 _ _ ih
  have := h l.reverse
  rwa [List.reverse_reverse] at this
def onO {α β : Type} (f : β → α → β) (o : β) : Option α → β
  | some y => f o y
  | none => o
theorem atTo_keys (l : List AE) : ∀ k, k ∈ (atTo l).map (·.1) ↔ k ∈ l.map (·.a.s.id) := by
  induction l using snoc_ind with
  | h0 => intro k; simp [atTo]
  | h1 l x ih =>
    intro k
    rw [atTo_snoc, mgPut_keys]
    by_cases h : x.a.s.id ∈ (atTo l).map (·.1)
    · rw [if_pos h, ih, List.map_append, List.mem_append]
      constructor
      · exact .inl
      · rintro (h1 | h1)
        · exact h1
        · simp at h1
          rw [h1]
          exact (ih _).1 h
    · rw [if_neg h, List.mem_append, List.map_append, List.mem_append, ih]
      simp
theorem atTo_le (l : List AE) : (atTo l).length ≤ l.length := by
  induction l using snoc_ind with
  | h0 => simp [atTo]
  | h1 l x ih =>
    rw [atTo_snoc]
    have := mgPut_len_le (k := x.a.s.id) (v := x) (atTo l)
    simp
    omega
theorem atTo_len_snoc (l : List AE) (x : AE) : (atTo (l ++ [x])).length = l.length + 1 ↔ (atTo l).length = l.length ∧ x.a.s.id ∉ l.map (·.a.s.id) := by
  have h1 := congrArg List.length (mgPut_keys (k := x.a.s.id) (v := x) (atTo l))
  have h2 := atTo_le l
  rw [← atTo_snoc] at h1
  simp only [List.length_map] at h1
  by_cases h : x.a.s.id ∈ (atTo l).map (·.1)
  · rw [if_pos h] at h1
    simp only [List.length_map] at h1
    have h3 := (atTo_keys l _).1 h
    constructor
    · intro h4; omega
    · rintro ⟨_, h4⟩; exact absurd h3 h4
  · rw [if_neg h] at h1
    simp only [List.length_append, List.length_map, List.length_cons, List.length_nil] at h1
    have h3 : x.a.s.id ∉ l.map (·.a.s.id) := fun h4 => h ((atTo_keys l _).2 h4)
    constructor
    · intro h4; exact ⟨by omega, h3⟩
    · rintro ⟨h4, _⟩; omega
theorem atTo_map {l : List AE} (h : (atTo l).length = l.length) : (l.map (·.a.s.id)).Nodup ∧ atTo l = l.map fun e => (e.a.s.id, e) := by
  induction l using snoc_ind with
  | h0 => exact ⟨List.nodup_nil, rfl⟩
  | h1 l x ih =>
    rw [List.length_append, List.length_singleton] at h
    obtain ⟨h1, h2⟩ := (atTo_len_snoc l x).1 h
    obtain ⟨h3, h4⟩ := ih h1
    refine ⟨?_, ?_⟩
    · rw [List.map_append, List.nodup_append]
      exact ⟨h3, by simp, fun a ha b hb e => by simp at hb; subst hb; exact h2 (e ▸ ha)⟩
    · rw [atTo_snoc, mgPut_new (fun hk => h2 ((atTo_keys l _).1 hk)), h4, List.map_append]
      rfl
theorem dupTo_iff {l : List AE} {x : Ad} : ∀ {i : Nat}, i ≤ l.length → (dupTo (ads l) x i = true ↔ x.s.id ∈ (l.take i).map (·.a.s.id))
  | 0, _ => by simp [dupTo]
  | i + 1, hi => by
    obtain ⟨y, hy⟩ : ∃ y, l[i]? = some y := ⟨_, List.getElem?_eq_getElem hi⟩
    rw [dupTo_succ (ads_get hy), take_snoc hy, List.map_append, List.mem_append, Bool.or_eq_true, dupTo_iff (i := i) (by omega), decide_eq_true_eq]
    simp [eq_comm]
theorem edBad_iff {l : List AE} : ∀ {i : Nat}, i ≤ l.length → (edBadTo (ads l) i = true ↔ ((atTo (l.take i)).length ≠ i ∨ (l.take i).any negA = true))
  | 0, _ => by simp [edBadTo, atTo]
  | i + 1, hi => by
    obtain ⟨y, hy⟩ : ∃ y, l[i]? = some y := ⟨_, List.getElem?_eq_getElem hi⟩
    have hlt : (l.take i).length = i := by rw [List.length_take]; omega
    have h1 := atTo_len_snoc (l.take i) y
    rw [hlt] at h1
    have h2 : edBadAt (ads l) i = (decide (y.a.s.start < 0) || dupTo (ads l) y.a i) := by rw [edBadAt, ads_get hy]
    rw [edBadTo_succ, h2, Bool.or_eq_true, Bool.or_eq_true, edBad_iff (i := i) (by omega), dupTo_iff (i := i) (by omega), take_snoc hy, ne_eq, ne_eq, h1, List.any_append, Bool.or_eq_true]
    have h3 : ([y].any negA = true) ↔ decide (y.a.s.start < 0) = true := by simp [negA]
    rw [h3]
    by_cases a1 : (atTo (l.take i)).length = i <;> by_cases a2 : y.a.s.id ∈ (l.take i).map (·.a.s.id) <;> by_cases a3 : (l.take i).any negA = true <;> by_cases a4 : decide (y.a.s.start < 0) = true <;> simp_all
theorem foldl_range_get {α β : Type} (f : β → α → β) : ∀ (l : List α) (s : β), (List.range l.length).foldl (fun o k => onO f o l[k]?) s = l.foldl f s := by
  intro l
  induction l using snoc_ind with
  | h0 => intro s; rfl
  | h1 l x ih =>
    intro s
    rw [List.length_append, List.length_singleton, List.range_succ, List.foldl_append, List.foldl_append, ← ih]
    have hc : ∀ (n : Nat) (s : β), n ≤ l.length → (List.range n).foldl (fun o k => onO f o (l ++ [x])[k]?) s = (List.range n).foldl (fun o k => onO f o l[k]?) s := by
      intro n
      induction n with
      | zero => intro s _; rfl
      | succ n ihn =>
        intro s hn
        rw [List.range_succ, List.foldl_append, List.foldl_append, ihn _ (by omega)]
        simp [List.getElem?_append_left (show n < l.length by omega)]
    rw [hc _ _ (Nat.le_refl _)]
    simp [onO]
theorem foldl_only {β : Type} (f : β → AE → β) (u : Nat) : ∀ (l : List AE) (o : β), (l.map (·.a.s.id)).Nodup → (∀ o y, y.a.s.id ≠ u → f o y = o) →
    l.foldl f o = match l.find? (fun y => decide (y.a.s.id = u)) with | some y => f o y | none => o
  | [], o, _, _ => rfl
  | y :: l, o, hn, hf => by
    obtain ⟨h1, h2⟩ := List.nodup_cons.1 hn
    rw [List.foldl_cons, List.find?_cons]
    by_cases h : y.a.s.id = u
    · rw [decide_eq_true h]
      have : ∀ (m : List AE) (o : β), (∀ z ∈ m, z.a.s.id ≠ u) → m.foldl f o = o := by
        intro m
        induction m with
        | nil => intro o _; rfl
        | cons z m ih => intro o hz; rw [List.foldl_cons, hf _ _ (hz z (List.mem_cons_self ..))]; exact ih _ fun q hq => hz q (List.mem_cons_of_mem _ hq)
      exact this l _ fun z hz e => h1 (List.mem_map.2 ⟨z, hz, e.trans h.symm⟩)
    · rw [decide_eq_false h, hf _ _ h]
      exact foldl_only f u l o h2 hf
theorem spErr_all : ∀ {l : List Sp}, spErr l = 0 → ∀ s ∈ l, spChk s = 0
  | [], _, s, h => by cases h
  | x :: l, h, s, hs => by
    rw [spErr] at h
    by_cases h1 : spChk x = 0
    · rw [if_neg (by simp [h1])] at h
      rcases List.mem_cons.1 hs with rfl | hs
      · exact h1
      · exact spErr_all h s hs
    · rw [if_pos h1] at h
      exact absurd h h1
theorem spChk_id {s : Sp} (h : spChk s = 0) : s.id ≠ 0 := by
  intro h0
  unfold spChk headB at h
  simp [h0] at h
  split at h <;> cases h
theorem edRow_call {l : List AE} {size : Int} {x : AE} {i : Nat} {out : List Ed} (hx : l[i]? = some x) (hl : (atTo l).length = l.length) (hs : spErr (l.map (·.a.s)) = 0) :
    edRow size (ads l) out i = match callC size (atTo l) x with | some e => (addE e out).1 | none => out := by
  obtain ⟨hnd, hat⟩ := atTo_map hl
  rw [edRow, ads_get hx]
  show (List.range (ads l).length).foldl (edAt size (ads l) x.a) out = _
  have e1 := foldl_range_get (fun o (y : AE) => edStep size x.a y.a o) l out
  have e2 : (fun o k => onO (fun o (y : AE) => edStep size x.a y.a o) o l[k]?) = edAt size (ads l) x.a := by
    funext o k
    rw [edAt, ads, List.getElem?_map]
    cases l[k]? <;> rfl
  rw [e2] at e1
  rw [ads_len, e1, foldl_only (fun o y => edStep size x.a y.a o) x.a.up l out hnd (fun o y hy => by rw [edStep, if_neg (fun h => hy h.2.1)])]
  have hget : mgGet x.a.up (atTo l) = l.find? (fun y => decide (y.a.s.id = x.a.up)) := by
    rw [hat, mgGet]
    clear hat hnd hl e1 e2 hx hs
    induction l with
    | nil => rfl
    | cons y l ih =>
      rw [List.map_cons, List.find?_cons, List.find?_cons]
      by_cases h : y.a.s.id = x.a.up
      · simp [h]
      · simp only [decide_eq_false h]
        exact ih
  rw [callC, hget]
  cases hf : l.find? (fun y => decide (y.a.s.id = x.a.up)) with
  | none => rfl
  | some y =>
    have hid0 := List.find?_some hf
    have hid : y.a.s.id = x.a.up := by simpa using hid0
    have hy := List.mem_of_find?_eq_some hf
    have h0 : x.a.up ≠ 0 := by rw [← hid]; exact spChk_id (spErr_all hs _ (List.mem_map.2 ⟨y, hy, rfl⟩))
    simp only [edStep]
    by_cases hsv : y.a.s.service = x.a.s.service
    · simp [hsv]
    · simp [hsv, hid, h0]
theorem edRows_calls {l : List AE} {size : Int} (hl : (atTo l).length = l.length) (hs : spErr (l.map (·.a.s)) = 0) :
    (List.range (ads l).length).foldl (edRow size (ads l)) [] = (callsC size l).foldl (fun o e => (addE e o).1) [] := by
  have h1 := foldl_range_get (fun o (x : AE) => match callC size (atTo l) x with | some e => (addE e o).1 | none => o) l []
  have h2 : ∀ (n : Nat), n ≤ l.length → (List.range n).foldl (edRow size (ads l)) [] = (List.range n).foldl (fun o k => onO (fun o (x : AE) => match callC size (atTo l) x with | some e => (addE e o).1 | none => o) o l[k]?) [] := by
    intro n
    induction n with
    | zero => intro _; rfl
    | succ n ih =>
      intro hn
      obtain ⟨x, hx⟩ : ∃ x, l[n]? = some x := ⟨_, List.getElem?_eq_getElem hn⟩
      rw [List.range_succ, List.foldl_append, List.foldl_append, ih (by omega)]
      simp only [List.foldl_cons, List.foldl_nil, hx]
      exact edRow_call hx hl hs
  rw [ads_len, h2 _ (Nat.le_refl _), h1, callsC]
  generalize ([] : List Ed) = o
  generalize atTo l = M
  clear h1 h2 hl hs
  induction l generalizing o with
  | nil => rfl
  | cons x l ih =>
    rw [List.foldl_cons, List.filterMap_cons]
    cases callC size M x with
    | none => exact ih o
    | some e => exact ih _
theorem addAll_some {xs : List Ed} : ∀ {out o : List Ed}, addAll xs out = some o → o = xs.foldl (fun o e => (addE e o).1) out := by
  induction xs with
  | nil => intro out o h; exact (Option.some.inj h).symm
  | cons x xs ih =>
    intro out o h
    rw [addAll] at h
    split at h
    · exact ih h
    · cases h
/-- What the code hands back is what the document says. -/
theorem edgC_out {l : List AE} {size : Int} {w w' : World} {e : Ending} (hl : l.length ≤ 200) (h : EdgC l size w e w') : EdsPost w (edOut (ads l) size) e w' := by
  obtain ⟨hb, h⟩ := h
  have hbad := edBad_iff (l := l) (Nat.le_refl _)
  rw [List.take_of_length_le (Nat.le_refl _)] at hbad
  have hsp : (ads l).map (·.s) = l.map (·.a.s) := by simp [ads]
  rcases h with ⟨h1, rfl⟩ | ⟨h1, h⟩
  · have : edOut (ads l) size = ([], 2) := by
      unfold edOut
      rcases h1 with h1 | h1
      · rw [if_pos h1]
      · by_cases hz : size < 1
        · rw [if_pos hz]
        · rw [if_neg hz, ads_len, if_pos (hbad.2 h1)]
    rw [this]
    exact EdsPost.no hb
  · have hz : ¬ size < 1 := fun h2 => h1 (.inl h2)
    have hnb : ¬ edBadTo (ads l) l.length = true := fun h2 => h1 (.inr (hbad.1 h2))
    have hlen : (atTo l).length = l.length := by
      by_cases h2 : (atTo l).length = l.length
      · exact h2
      · exact absurd (.inr (.inl h2)) h1
    rcases h with ⟨h2, rfl⟩ | ⟨h2, A, c, n, out, hp, hs, hn, rfl, hown⟩
    · have : edOut (ads l) size = ([], spErr (l.map (·.a.s))) := by
        unfold edOut
        rw [if_neg hz, ads_len, if_neg hnb, hsp, if_pos h2]
      rw [this]
      exact EdsPost.no hb
    · have hone : ∀ e ∈ callsC size l, e.n = 1 := fun e he => by
        obtain ⟨z, _, hz⟩ := List.mem_filterMap.1 he
        exact callC_one hz
      have hcl : (callsC size l).length ≤ 200 := Nat.le_trans (List.length_filterMap_le _ _) hl
      have hfew := mgAll_few (xs := callsC size l) (M := []) (c := 0) hone (fun p hp => by cases hp) List.nodup_nil
      have hsame := addAll_same (xs := callsC size l) Same.nil (fun e he => by cases he)
      have heq : edOut (ads l) size = (out, 0) := by
        unfold edOut
        rw [if_neg hz, ads_len, if_neg hnb, hsp, if_neg (by simp [h2])]
        congr 1
        have h3 := edRows_calls (size := size) hlen h2
        rw [ads_len] at h3
        rw [h3]
        cases ha : addAll (callsC size l) [] with
        | none =>
          rw [ha] at hsame
          obtain ⟨p, hp, hlt⟩ := hsame
          have := hfew p hp
          omega
        | some o =>
          rw [ha] at hsame
          rw [hsame.1.sorted hp hs]
          exact (addAll_some ha).symm
      rw [heq]
      refine ⟨A, c, ?_, ?_, hb⟩
      · show _ = Ending.returned (.tuple #[.slice A out.length c, .int .i64 0])
        rw [hn]
      · show w'.ownsRow _ _ _ (.slice A out.length c) out.length _
        rw [hn]
        exact hown
end Go.Proofs.Ythaiplhjekkooaa

/- What comes in: what each statement's row asks. -/
namespace Go.Proofs.Ythaiplhjekkooaa
open Go.ChangeShapes Go.WideShapes Go.ChangeAt Go.RowKit

theorem ownKnob_none : ownKnob Try.prog.godebug = none := by kernel_rfl
theorem laidOut : laidOutB Try.prog = true := by kernel_rfl

end Go.Proofs.Ythaiplhjekkooaa
