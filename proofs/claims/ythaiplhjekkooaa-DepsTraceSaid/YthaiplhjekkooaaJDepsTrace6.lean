/- Texts of the proof of DepsTraceSaid, joined: DeP DeQ DeT DeR DeS DeU DeV DeY. -/
import Derived.Test.YthaiplhjekkooaaJDepsTrace5
import Derived.Test.YthaiplhjekkooaaJDepsTrace1
import Derived.Deep.RegionHeld3
import Derived.Test.YthaiplhjekkooaaJDepsTrace4
import Derived.Test.YthaiplhjekkooaaJDepsTrace2
import Derived.Laws.ResultCell
/- Edges, plain: the code's and the document's are one. -/
namespace Go.Proofs.Ythaiplhjekkooaa
open Go.RowKit

theorem snoc_ind {α : Type} {p : List α → Prop} (h0 : p []) (h1 : ∀ l x, p l → p (l ++ [x])) (l : List α) : p l := by
  have h : ∀ m : List α, p m.reverse := by
    intro m
    induction m with
    | nil => exact h0
    | cons x m ih => rw [List.reverse_cons]; exact h1 _ _ ih
  have := h l.reverse
  rwa [List.reverse_reverse] at this
def onO {α β : Type} (f : β → α → β) (o : β) : Option α → β
  | some y => f o y
  | none => o
theorem atTo_keys (l : List AE) : ∀ k, k ∈ (atTo l).map (·.1) ↔ k ∈ l.map (·.a.s.id) := by
  induction l using snoc_ind with
  | h0 => intro k; simp [atTo]
  | h1 l x ih =>
    intro k
    rw [atTo_snoc, mgPut_keys]
    by_cases h : x.a.s.id ∈ (atTo l).map (·.1)
    · rw [if_pos h, ih, List.map_append, List.mem_append]
      constructor
      · exact .inl
      · rintro (h1 | h1)
        · exact h1
        · simp at h1
          rw [h1]
          exact (ih _).1 h
    · rw [if_neg h, List.mem_append, List.map_append, List.mem_append, ih]
      simp
theorem atTo_le (l : List AE) : (atTo l).length ≤ l.length := by
  induction l using snoc_ind with
  | h0 => simp [atTo]
  | h1 l x ih =>
    rw [atTo_snoc]
    have := mgPut_len_le (k := x.a.s.id) (v := x) (atTo l)
    simp
    omega
theorem atTo_len_snoc (l : List AE) (x : AE) : (atTo (l ++ [x])).length = l.length + 1 ↔ (atTo l).length = l.length ∧ x.a.s.id ∉ l.map (·.a.s.id) := by
  have h1 := congrArg List.length (mgPut_keys (k := x.a.s.id) (v := x) (atTo l))
  have h2 := atTo_le l
  rw [← atTo_snoc] at h1
  simp only [List.length_map] at h1
  by_cases h : x.a.s.id ∈ (atTo l).map (·.1)
  · rw [if_pos h] at h1
    simp only [List.length_map] at h1
    have h3 := (atTo_keys l _).1 h
    constructor
    · intro h4; omega
    · rintro ⟨_, h4⟩; exact absurd h3 h4
  · rw [if_neg h] at h1
    simp only [List.length_append, List.length_map, List.length_cons, List.length_nil] at h1
    have h3 : x.a.s.id ∉ l.map (·.a.s.id) := fun h4 => h ((atTo_keys l _).2 h4)
    constructor
    · intro h4; exact ⟨by omega, h3⟩
    · rintro ⟨h4, _⟩; omega
theorem atTo_map {l : List AE} (h : (atTo l).length = l.length) : (l.map (·.a.s.id)).Nodup ∧ atTo l = l.map fun e => (e.a.s.id, e) := by
  induction l using snoc_ind with
  | h0 => exact ⟨List.nodup_nil, rfl⟩
  | h1 l x ih =>
    rw [List.length_append, List.length_singleton] at h
    obtain ⟨h1, h2⟩ := (atTo_len_snoc l x).1 h
    obtain ⟨h3, h4⟩ := ih h1
    refine ⟨?_, ?_⟩
    · rw [List.map_append, List.nodup_append]
      exact ⟨h3, by simp, fun a ha b hb e => by simp at hb; subst hb; exact h2 (e ▸ ha)⟩
    · rw [atTo_snoc, mgPut_new (fun hk => h2 ((atTo_keys l _).1 hk)), h4, List.map_append]
      rfl
theorem dupTo_iff {l : List AE} {x : Ad} : ∀ {i : Nat}, i ≤ l.length → (dupTo (ads l) x i = true ↔ x.s.id ∈ (l.take i).map (·.a.s.id))
  | 0, _ => by simp [dupTo]
  | i + 1, hi => by
    obtain ⟨y, hy⟩ : ∃ y, l[i]? = some y := ⟨_, List.getElem?_eq_getElem hi⟩
    rw [dupTo_succ (ads_get hy), take_snoc hy, List.map_append, List.mem_append, Bool.or_eq_true, dupTo_iff (i := i) (by omega), decide_eq_true_eq]
    simp [eq_comm]
theorem edBad_iff {l : List AE} : ∀ {i : Nat}, i ≤ l.length → (edBadTo (ads l) i = true ↔ ((atTo (l.take i)).length ≠ i ∨ (l.take i).any negA = true))
  | 0, _ => by simp [edBadTo, atTo]
  | i + 1, hi => by
    obtain ⟨y, hy⟩ : ∃ y, l[i]? = some y := ⟨_, List.getElem?_eq_getElem hi⟩
    have hlt : (l.take i).length = i := by rw [List.length_take]; omega
    have h1 := atTo_len_snoc (l.take i) y
    rw [hlt] at h1
    have h2 : edBadAt (ads l) i = (decide (y.a.s.start < 0) || dupTo (ads l) y.a i) := by rw [edBadAt, ads_get hy]
    rw [edBadTo_succ, h2, Bool.or_eq_true, Bool.or_eq_true, edBad_iff (i := i) (by omega), dupTo_iff (i := i) (by omega), take_snoc hy, ne_eq, ne_eq, h1, List.any_append, Bool.or_eq_true]
    have h3 : ([y].any negA = true) ↔ decide (y.a.s.start < 0) = true := by simp [negA]
    rw [h3]
    by_cases a1 : (atTo (l.take i)).length = i <;> by_cases a2 : y.a.s.id ∈ (l.take i).map (·.a.s.id) <;> by_cases a3 : (l.take i).any negA = true <;> by_cases a4 : decide (y.a.s.start < 0) = true <;> simp_all
theorem foldl_range_get {α β : Type} (f : β → α → β) : ∀ (l : List α) (s : β), (List.range l.length).foldl (fun o k => onO f o l[k]?) s = l.foldl f s := by
  intro l
  induction l using snoc_ind with
  | h0 => intro s; rfl
  | h1 l x ih =>
    intro s
    rw [List.length_append, List.length_singleton, List.range_succ, List.foldl_append, List.foldl_append, ← ih]
    have hc : ∀ (n : Nat) (s : β), n ≤ l.length → (List.range n).foldl (fun o k => onO f o (l ++ [x])[k]?) s = (List.range n).foldl (fun o k => onO f o l[k]?) s := by
      intro n
      induction n with
      | zero => intro s _; rfl
      | succ n ihn =>
        intro s hn
        rw [List.range_succ, List.foldl_append, List.foldl_append, ihn _ (by omega)]
        simp [List.getElem?_append_left (show n < l.length by omega)]
    rw [hc _ _ (Nat.le_refl _)]
    simp [onO]
theorem foldl_only {β : Type} (f : β → AE → β) (u : Nat) : ∀ (l : List AE) (o : β), (l.map (·.a.s.id)).Nodup → (∀ o y, y.a.s.id ≠ u → f o y = o) →
    l.foldl f o = match l.find? (fun y => decide (y.a.s.id = u)) with | some y => f o y | none => o
  | [], o, _, _ => rfl
  | y :: l, o, hn, hf => by
    obtain ⟨h1, h2⟩ := List.nodup_cons.1 hn
    rw [List.foldl_cons, List.find?_cons]
    by_cases h : y.a.s.id = u
    · rw [decide_eq_true h]
      have : ∀ (m : List AE) (o : β), (∀ z ∈ m, z.a.s.id ≠ u) → m.foldl f o = o := by
        intro m
        induction m with
        | nil => intro o _; rfl
        | cons z m ih => intro o hz; rw [List.foldl_cons, hf _ _ (hz z (List.mem_cons_self ..))]; exact ih _ fun q hq => hz q (List.mem_cons_of_mem _ hq)
      exact this l _ fun z hz e => h1 (List.mem_map.2 ⟨z, hz, e.trans h.symm⟩)
    · rw [decide_eq_false h, hf _ _ h]
      exact foldl_only f u l o h2 hf
theorem spErr_all : ∀ {l : List Sp}, spErr l = 0 → ∀ s ∈ l, spChk s = 0
  | [], _, s, h => by cases h
  | x :: l, h, s, hs => by
    rw [spErr] at h
    by_cases h1 : spChk x = 0
    · rw [if_neg (by simp [h1])] at h
      rcases List.mem_cons.1 hs with rfl | hs
      · exact h1
      · exact spErr_all h s hs
    · rw [if_pos h1] at h
      exact absurd h h1
theorem spChk_id {s : Sp} (h : spChk s = 0) : s.id ≠ 0 := by
  intro h0
  unfold spChk headB at h
  simp [h0] at h
  split at h <;> cases h
theorem edRow_call {l : List AE} {size : Int} {x : AE} {i : Nat} {out : List Ed} (hx : l[i]? = some x) (hl : (atTo l).length = l.length) (hs : spErr (l.map (·.a.s)) = 0) :
    edRow size (ads l) out i = match callC size (atTo l) x with | some e => (addE e out).1 | none => out := by
  obtain ⟨hnd, hat⟩ := atTo_map hl
  rw [edRow, ads_get hx]
  show (List.range (ads l).length).foldl (edAt size (ads l) x.a) out = _
  have e1 := foldl_range_get (fun o (y : AE) => edStep size x.a y.a o) l out
  have e2 : (fun o k => onO (fun o (y : AE) => edStep size x.a y.a o) o l[k]?) = edAt size (ads l) x.a := by
    funext o k
    rw [edAt, ads, List.getElem?_map]
    cases l[k]? <;> rfl
  rw [e2] at e1
  rw [ads_len, e1, foldl_only (fun o y => edStep size x.a y.a o) x.a.up l out hnd (fun o y hy => by rw [edStep, if_neg (fun h => hy h.2.1)])]
  have hget : mgGet x.a.up (atTo l) = l.find? (fun y => decide (y.a.s.id = x.a.up)) := by
    rw [hat, mgGet]
    clear hat hnd hl e1 e2 hx hs
    induction l with
    | nil => rfl
    | cons y l ih =>
      rw [List.map_cons, List.find?_cons, List.find?_cons]
      by_cases h : y.a.s.id = x.a.up
      · simp [h]
      · simp only [decide_eq_false h]
        exact ih
  rw [callC, hget]
  cases hf : l.find? (fun y => decide (y.a.s.id = x.a.up)) with
  | none => rfl
  | some y =>
    have hid0 := List.find?_some hf
    have hid : y.a.s.id = x.a.up := by simpa using hid0
    have hy := List.mem_of_find?_eq_some hf
    have h0 : x.a.up ≠ 0 := by rw [← hid]; exact spChk_id (spErr_all hs _ (List.mem_map.2 ⟨y, hy, rfl⟩))
    simp only [edStep]
    by_cases hsv : y.a.s.service = x.a.s.service
    · simp [hsv]
    · simp [hsv, hid, h0]
theorem edRows_calls {l : List AE} {size : Int} (hl : (atTo l).length = l.length) (hs : spErr (l.map (·.a.s)) = 0) :
    (List.range (ads l).length).foldl (edRow size (ads l)) [] = (callsC size l).foldl (fun o e => (addE e o).1) [] := by
  have h1 := foldl_range_get (fun o (x : AE) => match callC size (atTo l) x with | some e => (addE e o).1 | none => o) l []
  have h2 : ∀ (n : Nat), n ≤ l.length → (List.range n).foldl (edRow size (ads l)) [] = (List.range n).foldl (fun o k => onO (fun o (x : AE) => match callC size (atTo l) x with | some e => (addE e o).1 | none => o) o l[k]?) [] := by
    intro n
    induction n with
    | zero => intro _; rfl
    | succ n ih =>
      intro hn
      obtain ⟨x, hx⟩ : ∃ x, l[n]? = some x := ⟨_, List.getElem?_eq_getElem hn⟩
      rw [List.range_succ, List.foldl_append, List.foldl_append, ih (by omega)]
      simp only [List.foldl_cons, List.foldl_nil, hx]
      exact edRow_call hx hl hs
  rw [ads_len, h2 _ (Nat.le_refl _), h1, callsC]
  generalize ([] : List Ed) = o
  generalize atTo l = M
  clear h1 h2 hl hs
  induction l generalizing o with
  | nil => rfl
  | cons x l ih =>
    rw [List.foldl_cons, List.filterMap_cons]
    cases callC size M x with
    | none => exact ih o
    | some e => exact ih _
theorem addAll_some {xs : List Ed} : ∀ {out o : List Ed}, addAll xs out = some o → o = xs.foldl (fun o e => (addE e o).1) out := by
  induction xs with
  | nil => intro out o h; exact (Option.some.inj h).symm
  | cons x xs ih =>
    intro out o h
    rw [addAll] at h
    split at h
    · exact ih h
    · cases h
/-- What the code hands back is what the document says. -/
theorem edgC_out {l : List AE} {size : Int} {w w' : World} {e : Ending} (hl : l.length ≤ 200) (h : EdgC l size w e w') : EdsPost w (edOut (ads l) size) e w' := by
  obtain ⟨hb, h⟩ := h
  have hbad := edBad_iff (l := l) (Nat.le_refl _)
  rw [List.take_of_length_le (Nat.le_refl _)] at hbad
  have hsp : (ads l).map (·.s) = l.map (·.a.s) := by simp [ads]
  rcases h with ⟨h1, rfl⟩ | ⟨h1, h⟩
  · have : edOut (ads l) size = ([], 2) := by
      unfold edOut
      rcases h1 with h1 | h1
      · rw [if_pos h1]
      · by_cases hz : size < 1
        · rw [if_pos hz]
        · rw [if_neg hz, ads_len, if_pos (hbad.2 h1)]
    rw [this]
    exact EdsPost.no hb
  · have hz : ¬ size < 1 := fun h2 => h1 (.inl h2)
    have hnb : ¬ edBadTo (ads l) l.length = true := fun h2 => h1 (.inr (hbad.1 h2))
    have hlen : (atTo l).length = l.length := by
      by_cases h2 : (atTo l).length = l.length
      · exact h2
      · exact absurd (.inr (.inl h2)) h1
    rcases h with ⟨h2, rfl⟩ | ⟨h2, A, c, n, out, hp, hs, hn, rfl, hown⟩
    · have : edOut (ads l) size = ([], spErr (l.map (·.a.s))) := by
        unfold edOut
        rw [if_neg hz, ads_len, if_neg hnb, hsp, if_pos h2]
      rw [this]
      exact EdsPost.no hb
    · have hone : ∀ e ∈ callsC size l, e.n = 1 := fun e he => by
        obtain ⟨z, _, hz⟩ := List.mem_filterMap.1 he
        exact callC_one hz
      have hcl : (callsC size l).length ≤ 200 := Nat.le_trans (List.length_filterMap_le _ _) hl
      have hfew := mgAll_few (xs := callsC size l) (M := []) (c := 0) hone (fun p hp => by cases hp) List.nodup_nil
      have hsame := addAll_same (xs := callsC size l) Same.nil (fun e he => by cases he)
      have heq : edOut (ads l) size = (out, 0) := by
        unfold edOut
        rw [if_neg hz, ads_len, if_neg hnb, hsp, if_neg (by simp [h2])]
        congr 1
        have h3 := edRows_calls (size := size) hlen h2
        rw [ads_len] at h3
        rw [h3]
        cases ha : addAll (callsC size l) [] with
        | none =>
          rw [ha] at hsame
          obtain ⟨p, hp, hlt⟩ := hsame
          have := hfew p hp
          omega
        | some o =>
          rw [ha] at hsame
          rw [hsame.1.sorted hp hs]
          exact (addAll_some ha).symm
      rw [heq]
      refine ⟨A, c, ?_, ?_, hb⟩
      · show _ = Ending.returned (.tuple #[.slice A out.length c, .int .i64 0])
        rw [hn]
      · show w'.ownsRow _ _ _ (.slice A out.length c) out.length _
        rw [hn]
        exact hown
end Go.Proofs.Ythaiplhjekkooaa

/- deps: Check. -/
namespace Go.Proofs.Ythaiplhjekkooaa
open Go.RowKit
theorem loadEd_shutQ (a : Addr) : loadVar 47 a = loadK 47 a := rfl
attribute [local go_sem ↓] loadEd_shutQ

def edFine (e : Ed) : Bool := decide (e.f ≠ ⟨#[]⟩) && decide (e.t ≠ ⟨#[]⟩) && decide (e.f ≠ e.t) && txtB e.f && txtB e.t && decide (1 ≤ e.n)
def edWrong (l : List Ed) (i : Nat) : Bool := match l[i]? with
  | some x => !edFine x || (match i with | 0 => false | k + 1 => match l[k]? with | some p => decide (0 ≤ ekCmp (edK p) (edK x)) | none => false)
  | none => false
def edWrongTo (l : List Ed) (i : Nat) : Bool := (List.range i).any (edWrong l)
theorem edWrongTo_succ (l : List Ed) (i : Nat) : edWrongTo l (i + 1) = (edWrongTo l i || edWrong l i) := by simp [edWrongTo, List.range_succ]
/-- What Check tells. -/
def edChk (l : List Ed) : Nat := if edWrongTo l l.length = true then 2 else 0
theorem edWrong_fall {l : List Ed} {i : Nat} {x : Ed} (hx : l[i]? = some x) (hf : edFine x = false) : edWrongTo l l.length = true := by
  have hl := (List.getElem?_eq_some_iff.1 hx).1
  have h1 : edWrongTo l (i + 1) = true := by rw [edWrongTo_succ, edWrong, hx]; simp [hf]
  rw [edWrongTo, List.any_eq_true] at h1 ⊢
  obtain ⟨j, hj, hw⟩ := h1
  exact ⟨j, List.mem_range.2 (by have := List.mem_range.1 hj; omega), hw⟩
theorem edWrong_at {l : List Ed} {i : Nat} (h : edWrong l i = true) (hi : i < l.length) : edWrongTo l l.length = true := by
  rw [edWrongTo, List.any_eq_true]
  exact ⟨i, List.mem_range.2 hi, h⟩
set_option maxRecDepth 100000 in
set_option maxHeartbeats 8000000 in
theorem deCheck {A : Option Addr} {n c B : Nat} (l : List Ed) (w : World) (h : RbD w B A l) (hn : l.length = n) (hB : B ≤ w.heap.size) (hnl : n ≤ 9223372036854775807) :
    Calls Try.prog 16 #[.slice A n c] w fun e w' => e = .returned (.int .i64 (edChk l)) ∧ Below w.heap.size w w' := by
  obtain ⟨r, hr⟩ : ∃ r, edChk l = r := ⟨_, rfl⟩
  rw [hr]
  rw [edChk] at hr
  have HR := Lib.hid hr
  have HN := Lib.hid hn
  have HH := Lib.hid h
  clear hr hn h
  go_enter Try.func16, Try.ntmps16
  go_wp2_with fail
  go_loopw [8] (fun i_ wr => ∃ i : Nat, i ≤ n ∧ i_ = .int .i64 i ∧ Hid (edWrongTo l i = false) ∧ Hid (Below w.heap.size w wr)) (fun i_ _ => n - (intOf i_).toNat)
  case atStart => exact ⟨0, by omega, rfl, Lib.hid rfl, Lib.hid (Below.refl _ _)⟩
  case round =>
    obtain ⟨i, hi, rfl, HG, HB⟩ := hrel
    by_cases hlt : i < n
    · have hlt' : (i : Int) < (n : Int) := by omega
      obtain ⟨x, hx⟩ : ∃ x, l[i]? = some x := ⟨_, List.getElem?_eq_getElem (by rw [HN.out]; exact hlt)⟩
      obtain ⟨b1, o1, eA, hbb, hc1⟩ := RbD.at (Rd.below HH.out (HB.out.mono hB)) hx
      subst eA
      have hld := loadK_ed hc1
      have hbA := (Below.refl wr.heap.size wr).alloc (Nat.le_refl _) (.cells (edA x) 47)
      have HB2 := Lib.hid (HB.out.alloc HB.out.size (.cells (edA x) 47))
      have HX := Lib.hid hx
      have HFALL := Lib.hid (fun hf : edFine x = false => show r = 2 by rw [← HR.out, if_pos (edWrong_fall hx hf)])
      clear hc1
      obtain ⟨xb, xf, xt, xn⟩ := x
      have hcond : edFine ⟨xb, xf, xt, xn⟩ = (decide (xf ≠ ⟨#[]⟩) && decide (xt ≠ ⟨#[]⟩) && decide (xf ≠ xt) && txtB xf && txtB xt && decide (1 ≤ xn)) := rfl
      obtain ⟨fb, hfb⟩ : ∃ fb, edFine ⟨xb, xf, xt, xn⟩ = fb := ⟨_, rfl⟩
      rw [hfb] at hcond
      have HFB := Lib.hid hfb
      have HC := Lib.hid hcond
      clear hcond hfb hx
      have e0 : (⟨#[]⟩ : ByteArray).toList = [] := by rw [ByteArray.toList_eq]
      have t1 := fun W => spText W xf
      have t2 := fun W => spText W xt
      obtain ⟨b4, hb4⟩ : ∃ b4, txtB xf = b4 := ⟨_, rfl⟩
      obtain ⟨b5, hb5⟩ : ∃ b5, txtB xt = b5 := ⟨_, rfl⟩
      simp only [hb4] at t1
      simp only [hb5] at t2
      have HCC := Lib.hid (show fb = (decide (xf ≠ ⟨#[]⟩) && decide (xt ≠ ⟨#[]⟩) && decide (xf ≠ xt) && b4 && b5 && decide (1 ≤ xn)) by rw [← hb4, ← hb5]; exact HC.out)
      have HFALL2 := Lib.hid (fun h : fb = false => HFALL.out (HFB.out.trans h))
      clear hb4 hb5 HC HFALL
      by_cases h1 : xf = ⟨#[]⟩
      · have hr2 : r = 2 := HFALL2.out (by rw [HCC.out]; simp [h1])
        subst h1
        have h1' : ((⟨#[]⟩ : ByteArray).toList == []) = true := by rw [e0]; rfl
        have h1'' : ((⟨#[]⟩ : ByteArray).toList != []) = false := by rw [e0]; rfl
        subst hr2
        go_wp2_with fail
        go_quiet (fail)
        go_wp2_with fail
        go_ret
        exact ⟨rfl, below_drewN HB2.out _⟩
      have h1' : (xf.toList == []) = false := by rw [← e0, strEq_of', decide_eq_false h1]
      have h1'' : (xf.toList != []) = true := by rw [bne, h1']; rfl
      by_cases h2 : xt = ⟨#[]⟩
      · have hr2 : r = 2 := HFALL2.out (by rw [HCC.out]; simp [h2])
        subst h2
        have h2' : ((⟨#[]⟩ : ByteArray).toList == []) = true := by rw [e0]; rfl
        have h2'' : ((⟨#[]⟩ : ByteArray).toList != []) = false := by rw [e0]; rfl
        subst hr2
        go_wp2_with fail
        go_quiet (fail)
        go_wp2_with fail
        go_ret
        exact ⟨rfl, below_drewN HB2.out _⟩
      have h2' : (xt.toList == []) = false := by rw [← e0, strEq_of', decide_eq_false h2]
      have h2'' : (xt.toList != []) = true := by rw [bne, h2']; rfl
      by_cases h3 : xf = xt
      · subst h3
        have hr2 : r = 2 := HFALL2.out (by rw [HCC.out]; simp)
        subst hr2
        go_wp2_with fail
        go_quiet (fail)
        go_wp2_with fail
        go_ret
        exact ⟨rfl, below_drewN HB2.out _⟩
      have h3' : (xf.toList == xt.toList) = false := by rw [strEq_of', decide_eq_false h3]
      have h3'' : (xf.toList != xt.toList) = true := by rw [bne, h3']; rfl
      cases b4 with
      | false =>
        have hr2 : r = 2 := HFALL2.out (by rw [HCC.out]; simp)
        subst hr2
        go_wp2_with fail
        refine (t1 _).mono ?_
        rintro en w5 ⟨rfl, hw5⟩
        rw [hw5]
        clear hw5
        go_wp2_with fail
        go_quiet (fail)
        go_wp2_with fail
        go_ret
        exact ⟨rfl, below_drewN HB2.out _⟩
      | true =>
      cases b5 with
      | false =>
        have hr2 : r = 2 := HFALL2.out (by rw [HCC.out]; simp)
        subst hr2
        go_wp2_with fail
        refine (t1 _).mono ?_
        rintro en w5 ⟨rfl, hw5⟩
        rw [hw5]
        clear hw5
        go_wp2_with fail
        refine (t2 _).mono ?_
        rintro en w5 ⟨rfl, hw5⟩
        rw [hw5]
        clear hw5
        go_wp2_with fail
        go_quiet (fail)
        go_wp2_with fail
        go_ret
        exact ⟨rfl, below_drewN HB2.out _⟩
      | true =>
      by_cases h6 : 1 ≤ xn
      · have h6' : decide ((1 : Int) ≤ (xn : Int)) = true := by simp; omega
        have hfb : fb = true := by rw [HCC.out]; simp [h1, h2, h3, h6]
        subst hfb
        go_wp2_with fail
        refine (t1 _).mono ?_
        rintro en w5 ⟨rfl, hw5⟩
        rw [hw5]
        clear hw5
        go_wp2_with fail
        refine (t2 _).mono ?_
        rintro en w5 ⟨rfl, hw5⟩
        rw [hw5]
        clear hw5
        go_wp2_with fail
        rcases Nat.eq_zero_or_pos i with h0 | h0
        · subst h0
          go_quiet (fail)
          go_wp2_with fail
          exact ⟨⟨1, by omega, rfl, Lib.hid (by rw [edWrongTo_succ, HG.out, edWrong, HX.out]; simp [HFB.out]), Lib.hid (below_drewN HB2.out _)⟩, by simp only [intOf]; omega⟩
        · obtain ⟨k, hk⟩ : ∃ k, i = k + 1 := ⟨i - 1, by omega⟩
          obtain ⟨p, hp⟩ : ∃ p, l[k]? = some p := ⟨_, List.getElem?_eq_getElem (by rw [HN.out]; omega)⟩
          obtain ⟨b1', o1', e1, -, hc2⟩ := RbD.at (Rd.below HH.out (HB2.out.mono hB)) hp
          cases e1
          have lp := loadK_ed hc2
          have lp2 : (loadK 47 ⟨b1, o1 + k * 4, none⟩).run Try.prog (wr.alloc (.cells (edA ⟨xb, xf, xt, xn⟩) 47)).drew = .ok (edV p) (wr.alloc (.cells (edA ⟨xb, xf, xt, xn⟩) 47)).drew := loadK_ed (w := (wr.alloc (.cells (edA ⟨xb, xf, xt, xn⟩) 47)).drew) hc2
          have bk := Bk.new wr 47 (edA ⟨xb, xf, xt, xn⟩)
          have lx2 : (loadK 47 ⟨wr.heap.size, 0, none⟩).run Try.prog (wr.alloc (.cells (edA ⟨xb, xf, xt, xn⟩) 47)).drew = .ok (edV ⟨xb, xf, xt, xn⟩) (wr.alloc (.cells (edA ⟨xb, xf, xt, xn⟩) 47)).drew := loadK_edB (w := (wr.alloc (.cells (edA ⟨xb, xf, xt, xn⟩) 47)).drew) bk
          have cc := deCompare p ⟨xb, xf, xt, xn⟩ (wr.alloc (.cells (edA ⟨xb, xf, xt, xn⟩) 47)).drew
          have HB3 := Lib.hid (below_drewN HB2.out 1)
          have h1i : (0 : Int) < (i : Int) := by omega
          have hlt1 : (k : Int) < (n : Int) := by omega
          have h1j : (1 : Int) ≤ (i : Int) := by omega
          have h2i : (i : Int) - 1 < (n : Int) := by omega
          have h3i : (0 : Int) ≤ (i : Int) - 1 := by omega
          have h4i : ((i : Int) - 1).toNat = k := by omega
          have hw : IntKind.i64.wrap ((i : Int) - 1) = (i : Int) - 1 := IntWalk.i64_in _ ⟨by omega, by omega⟩
          have hew : edWrong l i = decide (0 ≤ ekCmp (edK p) (edK ⟨xb, xf, xt, xn⟩)) := by
            rw [edWrong, HX.out]
            subst hk
            simp only [HFB.out, hp, Bool.not_true, Bool.false_or]
          have CLA : Hid (∀ W, Below (wr.alloc (.cells (edA ⟨xb, xf, xt, xn⟩) 47)).drew.heap.size (wr.alloc (.cells (edA ⟨xb, xf, xt, xn⟩) 47)).drew W → (loadK 47 ⟨b1, o1 + k * 4, none⟩).run Try.prog W = .ok (edV p) W ∧ (loadK 47 ⟨wr.heap.size, 0, none⟩).run Try.prog W = .ok (edV ⟨xb, xf, xt, xn⟩) W) := Lib.hid fun W hW =>
            ⟨loadK_ed fun j hj => (hW.cell (Nat.lt_of_lt_of_le hbb (Nat.le_trans hB HB2.out.size))).trans (hc2 j hj), loadK_edB ((show Bk (wr.alloc (.cells (edA ⟨xb, xf, xt, xn⟩) 47)).drew wr.heap.size _ _ from bk).below hW bk.lt)⟩
          obtain ⟨ct, hct⟩ : ∃ ct, ekCmp (edK p) (edK ⟨xb, xf, xt, xn⟩) = ct := ⟨_, rfl⟩
          rw [hct] at cc hew
          have HEW := Lib.hid hew
          have HK := Lib.hid hk
          have HCC2 := Lib.hid cc
          clear hew hk hp hc2 lp bk hct HB2 hld cc
          obtain ⟨W4, hW4⟩ : ∃ W4, wr.alloc (.cells (edA ⟨xb, xf, xt, xn⟩) 47) = W4 := ⟨_, rfl⟩
          obtain ⟨g4, hg4⟩ : ∃ g4, wr.heap.size = g4 := ⟨_, rfl⟩
          rw [hW4] at lp2 lx2 HCC2 HB3 CLA ⊢
          rw [hg4] at lx2 CLA ⊢
          clear hW4 hg4
          by_cases hct0 : 0 ≤ ct
          · have hr2 : r = 2 := by
              rw [← HR.out, if_pos (edWrong_at (i := i) (by rw [HEW.out]; simp [hct0]) (by rw [HN.out]; exact hlt))]
            subst hr2
            have hd : decide ((0 : Int) ≤ ct) = true := by simp [hct0]
            go_wp2_with fail
            go_region_held3 (fun w' => (loadK 47 ⟨b1, o1 + k * 4, none⟩).run Try.prog w' = .ok (edV p) w' ∧ (loadK 47 ⟨g4, 0, none⟩).run Try.prog w' = .ok (edV ⟨xb, xf, xt, xn⟩) w') (go_keep)
              (first
                | (go_at_call 42
                   refine HCC2.out.mono ?_
                   rintro en w3 ⟨rfl, hb3, -⟩
                   obtain ⟨s1, s2⟩ := CLA.out w3 hb3)
                | fail)
            go_wp2_with fail
            go_ret
            exact ⟨rfl, HB3.out.trans (hb3.mono HB3.out.size)⟩
          · have hd : decide ((0 : Int) ≤ ct) = false := by simp; omega
            have hct1 : ct < 0 := by omega
            go_wp2_with fail
            go_region_held3 (fun w' => (loadK 47 ⟨b1, o1 + k * 4, none⟩).run Try.prog w' = .ok (edV p) w' ∧ (loadK 47 ⟨g4, 0, none⟩).run Try.prog w' = .ok (edV ⟨xb, xf, xt, xn⟩) w') (go_keep)
              (first
                | (go_at_call 42
                   refine HCC2.out.mono ?_
                   rintro en w3 ⟨rfl, hb3, -⟩
                   obtain ⟨s1, s2⟩ := CLA.out w3 hb3)
                | fail)
            go_wp2_with fail
            exact ⟨⟨i + 1, by omega, by go_num, Lib.hid (by rw [edWrongTo_succ, HG.out, HEW.out]; simp; omega), Lib.hid (HB3.out.trans (hb3.mono HB3.out.size))⟩, by simp only [intOf]; omega⟩
      · have h6' : decide ((1 : Int) ≤ (xn : Int)) = false := by simp; omega
        have hr2 : r = 2 := HFALL2.out (by rw [HCC.out]; simp [h6])
        subst hr2
        go_wp2_with fail
        refine (t1 _).mono ?_
        rintro en w5 ⟨rfl, hw5⟩
        rw [hw5]
        clear hw5
        go_wp2_with fail
        refine (t2 _).mono ?_
        rintro en w5 ⟨rfl, hw5⟩
        rw [hw5]
        clear hw5
        go_wp2_with fail
        go_quiet (fail)
        go_wp2_with fail
        go_ret
        exact ⟨rfl, below_drewN HB2.out _⟩
    · have hlt' : decide ((i : Int) < (n : Int)) = false := by simp; omega
      obtain rfl : i = n := by omega
      have hr0 : r = 0 := by rw [← HR.out, HN.out, if_neg (by rw [HG.out]; simp)]
      subst hr0
      go_wp2_with fail
      go_ret
      exact ⟨rfl, HB.out⟩
end Go.Proofs.Ythaiplhjekkooaa

/- deps: the examples that each statement of layer 24 asks first: 'lives' answers true. -/
namespace Go.Proofs.Ythaiplhjekkooaa
open Go.RowKit

set_option maxRecDepth 100000 in
theorem lawEdge (e : Ed) (w : World) : Calls Try.prog 23 #[.int .u64 e.b, .string e.f, .string e.t, .int .u64 e.n] w fun en w' => en = .returned (edV e) ∧ Below w.heap.size w w' := by
  go_enter Try.func23, Try.ntmps23
  go_wp2
  refine bodyPost_ret (results_cell_row rfl _ _ w.heap.size 47 (edA e) (0, 0) _ rfl ?_ Try.underlying47 rfl ?_) rfl ?_
  · show (w.alloc _).heap[w.heap.size]? = _
    rw [heap_alloc_new]
  · rfl
  · exact ⟨rfl, (Below.refl _ w).alloc (Nat.le_refl _) _⟩
/-- The law's span. -/
def lawA (id up : Nat) (service : ByteArray) (start : Int) : Ad := ⟨⟨0, 1, id, up, service, ⟨#[120]⟩, 0, start, 0, false, []⟩, up, 0, 0⟩
set_option maxRecDepth 100000 in
theorem lawSp (id up : Nat) (service : ByteArray) (start : Int) (w : World) : Calls Try.prog 43 #[.int .u64 id, .int .u64 up, .string service, .int .i64 start] w fun en w' => en = .returned (adV (lawA id up service start) none 0 0) ∧ Below w.heap.size w w' := by
  go_enter Try.func43, Try.ntmps43
  go_wp2
  refine bodyPost_ret (results_cell_row rfl _ _ w.heap.size 45 (adC (lawA id up service start) none 0 0) (0, 0) _ rfl ?_ Try.underlying45 rfl ?_) rfl ?_
  · show (w.alloc _).heap[w.heap.size]? = _
    rw [heap_alloc_new]
    rfl
  · rfl
  · exact ⟨rfl, (Below.refl _ w).alloc (Nat.le_refl _) _⟩
def exE (id up : Nat) (service : ByteArray) (start : Int) : AE := ⟨lawA id up service start, none, 0, 0⟩
def exL : List AE := [exE 1 0 ⟨#[97]⟩ 0, exE 2 1 ⟨#[98]⟩ 5, exE 3 1 ⟨#[98]⟩ 12, exE 4 2 ⟨#[98]⟩ 6]
set_option maxRecDepth 100000 in
theorem lawExample (w : World) : Calls Try.prog 22 #[] w fun en w' => ∃ b c, en = .returned (.slice (some ⟨b, 0, none⟩) 4 c) ∧ RbA w' w'.heap.size (some ⟨b, 0, none⟩) exL ∧ Below w.heap.size w w' := by
  go_enter Try.func22, Try.ntmps22
  go_wp2_with fail
  refine (lawSp 1 0 ⟨#[97]⟩ 0 w).mono ?_
  rintro e w1 ⟨rfl, hb1⟩
  go_wp2_with fail
  refine (lawSp 2 1 ⟨#[98]⟩ 5 w1).mono ?_
  rintro e w2 ⟨rfl, hb2⟩
  go_wp2_with fail
  refine (lawSp 3 1 ⟨#[98]⟩ 12 w2).mono ?_
  rintro e w3 ⟨rfl, hb3⟩
  go_wp2_with fail
  refine (lawSp 4 2 ⟨#[98]⟩ 6 w3).mono ?_
  rintro e w4 ⟨rfl, hb4⟩
  have hb02 := hb1.trans (hb2.mono hb1.size)
  have hb03 := hb02.trans (hb3.mono hb02.size)
  have hb04 := hb03.trans (hb4.mono hb03.size)
  have hr : RbA (w4.alloc (.cells (adC (lawA 1 0 ⟨#[97]⟩ 0) none 0 0 ++ adC (lawA 2 1 ⟨#[98]⟩ 5) none 0 0 ++ adC (lawA 3 1 ⟨#[98]⟩ 12) none 0 0 ++ adC (lawA 4 2 ⟨#[98]⟩ 6) none 0 0) 45)) (w4.heap.size + 1) (some ⟨w4.heap.size, 0, none⟩) exL := by
    refine ⟨?_, fun e he => ?_⟩
    · have h := Rd.lit w4 (adC (lawA 1 0 ⟨#[97]⟩ 0) none 0 0 ++ adC (lawA 2 1 ⟨#[98]⟩ 5) none 0 0 ++ adC (lawA 3 1 ⟨#[98]⟩ 12) none 0 0 ++ adC (lawA 4 2 ⟨#[98]⟩ 6) none 0 0) 45
      exact h
    · simp only [exL, List.mem_cons, List.not_mem_nil, or_false] at he
      rcases he with rfl | rfl | rfl | rfl <;> exact ⟨Rd.nil, rfl, by show (0 : Nat) ≤ _; omega, by unfold Ad.Ok Sp.U64 exE lawA; simp⟩
  have hal := hb04.alloc hb04.size (.cells (adC (lawA 1 0 ⟨#[97]⟩ 0) none 0 0 ++ adC (lawA 2 1 ⟨#[98]⟩ 5) none 0 0 ++ adC (lawA 3 1 ⟨#[98]⟩ 12) none 0 0 ++ adC (lawA 4 2 ⟨#[98]⟩ 6) none 0 0) 45)
  have HR := Lib.hid hr
  have HA := Lib.hid hal
  clear hr hal hb1 hb2 hb3 hb4 hb02 hb03 hb04
  go_wp2_with fail
  go_ret
  exact ⟨_, _, rfl, by rw [World.size_alloc]; exact HR.out, HA.out⟩
def exO : List Ed := [⟨0, ⟨#[97]⟩, ⟨#[98]⟩, 1⟩, ⟨1, ⟨#[97]⟩, ⟨#[98]⟩, 1⟩]
theorem exOut : edOut (ads exL) 10 = (exO, 0) := by decide +kernel
theorem zeroChk : edChk [⟨0, ⟨#[]⟩, ⟨#[]⟩, 0⟩] = 2 := by decide +kernel
theorem edLaw {A : Option Addr} {n c B : Nat} (l : List AE) (size : Int) (w : World) (h : RbA w B A l) (hn : l.length = n) (hB : B ≤ w.heap.size) (hnl : n ≤ 200) (hs0 : -9223372036854775808 ≤ size) (hs1 : size ≤ 9223372036854775807)
    (hst : ∀ e ∈ l, e.a.s.start ≤ 9223372036854775807 ∧ -9223372036854775808 ≤ e.a.s.start) :
    Calls Try.prog 10 #[.slice A n c, .int .i64 size] w (EdsPost w (edOut (ads l) size)) :=
  (deEdges l size w h hn hB hnl hs0 hs1 hst).mono fun e w' h => edgC_out (by omega) h
set_option maxRecDepth 100000 in
theorem deLives (w : World) : Calls Try.prog 8 #[] w fun en w' => en = .returned (.bool true) ∧ Below w.heap.size w w' := by
  go_enter Try.func8, Try.ntmps8
  go_wp2_with fail
  refine (lawExample w).mono ?_
  rintro e w1 ⟨b, c, rfl, hr1, hb1⟩
  have ce := edLaw (c := c) exL 10 w1 hr1 (n := 4) rfl (Nat.le_refl _) (by omega) (by omega) (by omega) (fun e he => by
    simp only [exL, List.mem_cons, List.not_mem_nil, or_false] at he
    rcases he with rfl | rfl | rfl | rfl <;> simp [exE, lawA])
  rw [exOut] at ce
  go_wp2_with fail
  refine ce.mono ?_
  rintro e w2 ⟨A2, c2, rfl, hown2, hb2⟩
  have hb02 := hb1.trans (hb2.mono hb1.size)
  have hr2 : RbD w2 w2.heap.size A2 exO := Rd.of_own hown2
  clear ce hr1
  go_wp2_with fail
  refine (lawEdge ⟨0, ⟨#[97]⟩, ⟨#[98]⟩, 1⟩ w2).mono ?_
  rintro e w3 ⟨rfl, hb3⟩
  go_wp2_with fail
  refine (lawEdge ⟨1, ⟨#[97]⟩, ⟨#[98]⟩, 1⟩ w3).mono ?_
  rintro e w4 ⟨rfl, hb4⟩
  have hb04 := (hb02.trans (hb3.mono hb02.size)).trans (hb4.mono (hb02.trans (hb3.mono hb02.size)).size)
  have hb24 := hb3.trans (hb4.mono hb3.size)
  have hr5 : RbD (w4.alloc (.cells (edA ⟨0, ⟨#[97]⟩, ⟨#[98]⟩, 1⟩ ++ edA ⟨1, ⟨#[97]⟩, ⟨#[98]⟩, 1⟩) 47)) (w4.heap.size + 1) (some ⟨w4.heap.size, 0, none⟩) exO := Rd.lit w4 (edA ⟨0, ⟨#[97]⟩, ⟨#[98]⟩, 1⟩ ++ edA ⟨1, ⟨#[97]⟩, ⟨#[98]⟩, 1⟩) 47
  have hb5 := hb04.alloc hb04.size (.cells (edA ⟨0, ⟨#[97]⟩, ⟨#[98]⟩, 1⟩ ++ edA ⟨1, ⟨#[97]⟩, ⟨#[98]⟩, 1⟩) 47)
  have hr25 := Rd.belowS hr2 (hb24.alloc hb24.size (.cells (edA ⟨0, ⟨#[97]⟩, ⟨#[98]⟩, 1⟩ ++ edA ⟨1, ⟨#[97]⟩, ⟨#[98]⟩, 1⟩) 47))
  have cs := kitSameEds (c := c2) (c' := 2) exO exO _ hr25 hr5 (n := 2) (n' := 2) rfl rfl (by omega)
  rw [show decide (exO = exO) = true from decide_eq_true rfl] at cs
  have CS := Lib.hid cs
  have HB5 := Lib.hid hb5
  clear hr25 hr5 hb5 hb24 hb04 hb3 hb4 hr2 hown2 hb02 hb2 hb1 cs
  go_wp2_with fail
  refine CS.out.mono ?_
  rintro e w6 ⟨rfl, d6, rfl⟩
  have hb6 := below_drewN HB5.out d6
  obtain ⟨w6, hw6⟩ : ∃ w6, (w4.alloc (.cells (edA ⟨0, ⟨#[97]⟩, ⟨#[98]⟩, 1⟩ ++ edA ⟨1, ⟨#[97]⟩, ⟨#[98]⟩, 1⟩) 47)).drewN d6 = w6 := ⟨_, rfl⟩
  rw [hw6] at hb6
  have hrz : RbD (w6.alloc (.cells (edA ⟨0, ⟨#[]⟩, ⟨#[]⟩, 0⟩) 47)) (w6.heap.size + 1) (some ⟨w6.heap.size, 0, none⟩) [⟨0, ⟨#[]⟩, ⟨#[]⟩, 0⟩] := by
    have h := Rd.lit w6 (edA ⟨0, ⟨#[]⟩, ⟨#[]⟩, 0⟩) 47
    exact h
  have hb7 := hb6.alloc hb6.size (.cells (edA ⟨0, ⟨#[]⟩, ⟨#[]⟩, 0⟩) 47)
  have cz := deCheck (c := 1) _ _ hrz (n := 1) rfl (by simp) (by omega)
  rw [zeroChk] at cz
  have CZ := Lib.hid cz
  have HB7 := Lib.hid hb7
  have HW6 := Lib.hid hw6
  clear cz hb7 hrz hb6 hw6 CS HB5
  try rw [HW6.out]
  go_wp2_with fail
  try rw [HW6.out]
  refine CZ.out.mono ?_
  rintro e w8 ⟨rfl, hb8⟩
  go_wp2_with fail
  go_ret
  exact ⟨rfl, HB7.out.trans (hb8.mono HB7.out.size)⟩
end Go.Proofs.Ythaiplhjekkooaa

/- deps: what adding edges in turn tells; Merge. -/
namespace Go.Proofs.Ythaiplhjekkooaa
open Go.RowKit Go.MapKept
theorem loadEd_shutR (a : Addr) : loadVar 47 a = loadK 47 a := rfl
attribute [local go_sem ↓] loadEd_shutR

/-- What adding edges in turn tells. -/
def addOut (xs : List Ed) : List Ed × Nat := match addAll xs [] with | some o => (o, 0) | none => ([], 3)
theorem addOut_bad {xs : List Ed} (h : ∃ p ∈ mgAll xs [], 4611686018427387904 < p.2) : addOut xs = ([], 3) := by
  have hs := addAll_same (xs := xs) Same.nil (fun e he => by cases he)
  unfold addOut
  cases ha : addAll xs [] with
  | none => rfl
  | some o =>
    rw [ha] at hs
    obtain ⟨p, hp, hlt⟩ := h
    have h1 := hs.2 _ ((hs.1.mem p).1 hp)
    have h2 : (mkEd p).n = p.2 := rfl
    omega
theorem addOut_ok {xs l : List Ed} (h : ∀ p ∈ mgAll xs [], p.2 ≤ 4611686018427387904) (hp : l.Perm ((mgAll xs []).map mkEd)) (hs : SortEd l) : addOut xs = (l, 0) := by
  have hsm := addAll_same (xs := xs) Same.nil (fun e he => by cases he)
  unfold addOut
  cases ha : addAll xs [] with
  | none =>
    rw [ha] at hsm
    obtain ⟨p, hp, hlt⟩ := hsm
    have := h p hp
    omega
  | some o =>
    rw [ha] at hsm
    rw [hsm.1.sorted hp hs]
theorem edChk_two (l : List Ed) : edChk l = 0 ∨ edChk l = 2 := by
  unfold edChk
  split
  · exact .inr rfl
  · exact .inl rfl
/-- What Merge answers. -/
def mergeOut (a b : List Ed) : List Ed × Nat := if edChk a ≠ 0 then ([], 2) else if edChk b ≠ 0 then ([], 2) else addOut (a ++ b)
theorem mergeOut_l {a b : List Ed} (h : edChk a ≠ 0) : mergeOut a b = ([], 2) := if_pos h
theorem mergeOut_r {a b : List Ed} (h : edChk b ≠ 0) : mergeOut a b = ([], 2) := by
  unfold mergeOut
  by_cases h1 : edChk a ≠ 0
  · rw [if_pos h1]
  · rw [if_neg h1, if_pos h]
theorem mergeOut_ok {a b : List Ed} (h : edChk a = 0) (h' : edChk b = 0) : mergeOut a b = addOut (a ++ b) := by
  unfold mergeOut
  rw [if_neg (by simp [h]), if_neg (by simp [h'])]
def catE (a b : List Ed) : Nat → List Ed
  | 0 => []
  | 1 => a
  | _ => a ++ b
def nthE (a b : List Ed) : Nat → List Ed
  | 0 => a
  | _ => b
theorem catE_succ (a b : List Ed) {j : Nat} (h : j < 2) : catE a b (j + 1) = catE a b j ++ nthE a b j := by
  match j, h with
  | 0, _ => simp [catE, nthE]
  | 1, _ => rfl
set_option maxRecDepth 100000 in
set_option maxHeartbeats 8000000 in
theorem deMerge {A1 A2 : Option Addr} {n1 c1 n2 c2 B : Nat} (l1 l2 : List Ed) (w : World) (h1 : RbD w B A1 l1) (h2 : RbD w B A2 l2) (hn1 : l1.length = n1) (hn2 : l2.length = n2) (hB : B ≤ w.heap.size) (hs1 : n1 ≤ 10000) (hs2 : n2 ≤ 10000) :
    Calls Try.prog 20 #[.slice A1 n1 c1, .slice A2 n2 c2] w (EdsPost w (mergeOut l1 l2)) := by
  obtain ⟨r, hr⟩ : ∃ r, mergeOut l1 l2 = r := ⟨_, rfl⟩
  rw [hr]
  have HBAD : Hid (∀ j, j < 2 → edChk (nthE l1 l2 j) ≠ 0 → r = ([], 2)) := Lib.hid fun j hj hne => by
    match j, hj with
    | 0, _ => rw [← hr]; exact mergeOut_l hne
    | 1, _ => rw [← hr]; exact mergeOut_r hne
  have HOK : Hid ((∀ j, j < 2 → edChk (nthE l1 l2 j) = 0) → r = addOut (catE l1 l2 2)) := Lib.hid fun h => by
    rw [← hr]
    exact mergeOut_ok (h 0 (by omega)) (h 1 (by omega))
  have HLL : Hid (∀ j, j < 2 → ∃ Aj nj cj, (#[.slice A1 n1 c1, .slice A2 n2 c2] : Array Value)[j]? = some (.slice Aj nj cj) ∧ (nthE l1 l2 j).length = nj ∧ nj ≤ 10000 ∧ RbD w B Aj (nthE l1 l2 j)) := Lib.hid fun j hj => by
    match j, hj with
    | 0, _ => exact ⟨A1, n1, c1, rfl, hn1, hs1, h1⟩
    | 1, _ => exact ⟨A2, n2, c2, rfl, hn2, hs2, h2⟩
  have HCL : Hid ((catE l1 l2 2).length ≤ 20000) := Lib.hid (by show (l1 ++ l2).length ≤ _; rw [List.length_append]; omega)
  have m0 := Mg.new (kv := ekV) (vv := uvV) w
  have hb0 := (Below.refl w.heap.size w).alloc (Nat.le_refl _) (.map #[] 0)
  obtain ⟨b, hb⟩ : ∃ b, w.heap.size = b := ⟨_, rfl⟩
  obtain ⟨w1, hw1⟩ : ∃ w1, w.alloc (.map #[] 0) = w1 := ⟨_, rfl⟩
  rw [hw1] at m0 hb0
  have hb1 := hb0.alloc hb0.size (.cells #[.slice A1 n1 c1, .slice A2 n2 c2] 25)
  have m1 := m0.alloc (.cells #[.slice A1 n1 c1, .slice A2 n2 c2] 25)
  have bk1 := Bk.new w1 25 #[.slice A1 n1 c1, .slice A2 n2 c2]
  rw [hb] at m1
  have hbg : b < w1.heap.size := by have := m0.lt; rw [hb] at this; exact this
  obtain ⟨g, hg⟩ : ∃ g, w1.heap.size = g := ⟨_, rfl⟩
  have HG2 := Lib.hid (show b + 1 = g by rw [← hg, ← hw1, World.size_alloc, hb])
  obtain ⟨w2, hw2⟩ : ∃ w2, w1.alloc (.cells #[.slice A1 n1 c1, .slice A2 n2 c2] 25) = w2 := ⟨_, rfl⟩
  rw [hw2] at hb1 m1 bk1
  rw [hg] at bk1 hbg
  have HW1 := Lib.hid hw1
  have HW2 := Lib.hid hw2
  have HG := Lib.hid hg
  have HBN := Lib.hid hb
  have HM1 := Lib.hid m1
  have HB1 := Lib.hid hb1
  have HK1 := Lib.hid bk1
  have hwb : w.heap.size ≤ b := by omega
  clear hw1 hw2 hg hb m0 m1 hb0 hb1 bk1 hr h1 h2 hn1 hn2 hs1 hs2
  have hmm := @run_makeMap Try.prog
  go_enter Try.func20, Try.ntmps20
  go_wp2_with fail
  rw [HW1.out, HBN.out, HG2.out, HW2.out]
  go_loopw [19] (fun i_ wr => ∃ j : Nat, j ≤ 2 ∧ i_ = .int .i64 j ∧ Hid (Mg ekV uvV wr b (mgAll (catE l1 l2 j) [])) ∧ Hid (Bk wr g 25 #[.slice A1 n1 c1, .slice A2 n2 c2]) ∧ Hid (Below w.heap.size w wr) ∧ Hid (∀ i, i < j → edChk (nthE l1 l2 i) = 0)) (fun i_ _ => 2 - (intOf i_).toNat)
  case atStart => exact ⟨0, by omega, rfl, HM1, HK1, HB1, Lib.hid (fun i hi => by omega)⟩
  case round =>
    obtain ⟨j, hj, rfl, HM, HK, HB, HC⟩ := hrel
    by_cases hlt : j < 2
    · have hlt' : (j : Int) < 2 := by omega
      obtain ⟨Aj, nj, cj, hcj, hnj, hsj, hrd⟩ := HLL.out j hlt
      have hcell : wr.cell? ⟨g, j, none⟩ = some (.slice Aj nj cj) := by rw [HK.out.cell j]; exact hcj
      have cc := deCheck (c := cj) (nthE l1 l2 j) wr (Rd.below hrd (HB.out.mono hB)) hnj (Nat.le_trans hB HB.out.size) (by omega)
      have hbadj := HBAD.out j hlt
      have hcat := catE_succ l1 l2 hlt
      have HC2 := Lib.hid (fun (h0 : edChk (nthE l1 l2 j) = 0) i (hi : i < j + 1) => show edChk (nthE l1 l2 i) = 0 by
        rcases Nat.lt_succ_iff_lt_or_eq.1 hi with h | rfl
        · exact HC.out i h
        · exact h0)
      obtain ⟨lj, hlj⟩ : ∃ lj, nthE l1 l2 j = lj := ⟨_, rfl⟩
      rw [hlj] at cc hnj hrd hbadj hcat
      have HCAT := Lib.hid hcat
      have HBJ := Lib.hid hbadj
      have HRD := Lib.hid hrd
      have HNJ := Lib.hid hnj
      have HLJ := Lib.hid hlj
      obtain ⟨ck, hck⟩ : ∃ ck, edChk lj = ck := ⟨_, rfl⟩
      rw [hck] at cc
      have HCK := Lib.hid hck
      clear hcat hbadj hrd hnj hcj hlj hck HC
      go_wp2_with fail
      refine cc.mono ?_
      rintro en w5 ⟨rfl, hb5⟩
      have HB5 := Lib.hid (HB.out.trans (hb5.mono HB.out.size))
      have HM5 := Lib.hid (HM.out.bS hb5)
      have HK5 := Lib.hid (HK.out.below hb5 HK.out.lt)
      clear hb5 cc hcell HB HM HK
      by_cases h0 : ck = 0
      · subst h0
        go_wp2_with fail
        go_loopw [30] (fun i_ wr2 => ∃ i : Nat, i ≤ nj ∧ i_ = .int .i64 i ∧ Hid (Mg ekV uvV wr2 b (mgAll (catE l1 l2 j ++ lj.take i) [])) ∧ Hid (Bk wr2 g 25 #[.slice A1 n1 c1, .slice A2 n2 c2]) ∧ Hid (Below w.heap.size w wr2)) (fun i_ _ => nj - (intOf i_).toNat)
        case atStart => exact ⟨0, by omega, rfl, Lib.hid (by rw [List.take_zero, List.append_nil]; exact HM5.out), HK5, HB5⟩
        case round =>
          obtain ⟨i, hi, rfl, HM, HK, HB⟩ := hrel
          by_cases hij : i < nj
          · have hij' : (i : Int) < (nj : Int) := by omega
            obtain ⟨x, hx⟩ : ∃ x, lj[i]? = some x := ⟨_, List.getElem?_eq_getElem (by rw [HNJ.out]; exact hij)⟩
            obtain ⟨ob, oo, eA, hbb, hcl⟩ := RbD.at (Rd.below HRD.out (HB.out.mono hB)) hx
            subst eA
            have hld := loadK_ed hcl
            have HB6 := Lib.hid (HB.out.alloc HB.out.size (.cells (edA x) 47))
            have HM6 := Lib.hid (HM.out.alloc (.cells (edA x) 47))
            have HK6 := Lib.hid (HK.out.alloc (.cells (edA x) 47))
            have HX := Lib.hid hx
            have hst : mgAll (catE l1 l2 j ++ lj.take (i + 1)) [] = addK (edK x) x.n (mgAll (catE l1 l2 j ++ lj.take i) []) := by
              rw [take_snoc hx, ← List.append_assoc, mgAll_snoc]
            have HST := Lib.hid hst
            clear hx hcl hst HB HM HK
            go_wp2_with fail
            refine (deAdd ⟨x.b, x.f, x.t⟩ x.n _ HM6.out).mono ?_
            rintro en w9 ⟨rfl, hE9, hg9, hs9⟩
            go_wp2_with fail
            exact ⟨⟨i + 1, by omega, by go_num, Lib.hid (by rw [HST.out]; exact hE9), Lib.hid ((hg9.block g (HK6.out.lt) (fun e => by have := Option.some.inj e; omega)).trans HK6.out), Lib.hid (HB6.out.trans (below_grownJ hg9 HB6.out.size (fun k hk => by have := Option.some.inj hk; omega)))⟩, by simp only [intOf]; omega⟩
          · have hij' : decide ((i : Int) < (nj : Int)) = false := by simp; omega
            obtain rfl : i = nj := by omega
            have hm := HM.out
            rw [List.take_of_length_le (by rw [HNJ.out]; exact Nat.le_refl _), ← HCAT.out] at hm
            have HMM := Lib.hid hm
            clear hm HM
            go_wp2_with fail
            exact ⟨⟨j + 1, by omega, by go_num, HMM, HK, HB, Lib.hid (HC2.out (by rw [HLJ.out]; exact HCK.out))⟩, by simp only [intOf]; omega⟩
      · have h0' : ((ck : Int) != 0) = true := by simp; omega
        have hre : r = ([], ck) := by
          rcases edChk_two lj with h | h
          · exact absurd (HCK.out.symm.trans h) h0
          · rw [HCK.out] at h
            rw [h]
            exact HBJ.out (by rw [HCK.out]; exact h0)
        subst hre
        go_wp2_with fail
        go_ret2
        exact EdsPost.no HB5.out
    · have hlt' : decide ((j : Int) < 2) = false := by simp; omega
      obtain rfl : j = 2 := by omega
      have hro := HOK.out HC.out
      have HRO := Lib.hid hro
      have hll : (mgAll (catE l1 l2 2) []).length ≤ 20000 := by
        have h1 := mgAll_len (catE l1 l2 2) []
        have h2 := HCL.out
        simp at h1
        omega
      have hli := deList wr HM.out (by omega)
      clear hro hll HM HC
      obtain ⟨xs, hxs⟩ : ∃ xs, catE l1 l2 2 = xs := ⟨_, rfl⟩
      rw [hxs] at HRO hli
      clear hxs hlt hlt'
      go_wp2_with fail
      refine hli.mono ?_
      rintro en w8 (⟨hbad, rfl, hb8⟩ | ⟨hok, A8, c8, n8, out, hperm, hsort, hlen8, rfl, hown, hb8⟩)
      · have hre : r = ([], 3) := by rw [HRO.out]; exact addOut_bad hbad
        subst hre
        go_wp2_with fail
        go_ret2
        exact EdsPost.no (HB.out.trans (hb8.mono HB.out.size))
      · have hre : r = (out, 0) := by rw [HRO.out]; exact addOut_ok hok hperm hsort
        subst hre
        go_wp2_with fail
        go_ret2
        subst hlen8
        exact ⟨A8, c8, rfl, own_baseJ hown HB.out.size, HB.out.trans (hb8.mono HB.out.size)⟩
end Go.Proofs.Ythaiplhjekkooaa

/- deps: Between. -/
namespace Go.Proofs.Ythaiplhjekkooaa
open Go.RowKit Go.MapKept
theorem loadEd_shutS (a : Addr) : loadVar 47 a = loadK 47 a := rfl
attribute [local go_sem ↓] loadEd_shutS

/-- An edge over some buckets. -/
def betE (p q : Nat) (x : Ed) : Option Ed := if p ≤ x.b ∧ x.b ≤ q then some ⟨0, x.f, x.t, x.n⟩ else none
/-- What Between answers. -/
def betOut (l : List Ed) (p q : Nat) : List Ed × Nat := if edChk l ≠ 0 then ([], 2) else addOut (l.filterMap (betE p q))
set_option maxRecDepth 100000 in
set_option maxHeartbeats 8000000 in
theorem deBetween {A : Option Addr} {n c B : Nat} (l : List Ed) (p q : Nat) (w : World) (h : RbD w B A l) (hn : l.length = n) (hB : B ≤ w.heap.size) (hs : n ≤ 10000) :
    Calls Try.prog 21 #[.slice A n c, .int .u64 p, .int .u64 q] w (EdsPost w (betOut l p q)) := by
  have cc := deCheck (c := c) l w h hn hB (by omega)
  obtain ⟨r, hr⟩ : ∃ r, betOut l p q = r := ⟨_, rfl⟩
  rw [hr]
  rw [betOut] at hr
  have h2 := edChk_two l
  obtain ⟨ck, hck⟩ : ∃ ck, edChk l = ck := ⟨_, rfl⟩
  rw [hck] at cc hr h2
  have HR := Lib.hid hr
  have HN := Lib.hid hn
  have HH := Lib.hid h
  clear hr hn h hck
  have hmm := @run_makeMap Try.prog
  go_enter Try.func21, Try.ntmps21
  go_wp2_with fail
  refine cc.mono ?_
  rintro en w5 ⟨rfl, hb5⟩
  by_cases h0 : ck = 0
  · subst h0
    have HRO := Lib.hid (show addOut (l.filterMap (betE p q)) = r by rw [← HR.out, if_neg (by simp)])
    have m0 := Mg.new (kv := ekV) (vv := uvV) w5
    have hb0 := hb5.alloc hb5.size (.map #[] 0)
    obtain ⟨b, hb⟩ : ∃ b, w5.heap.size = b := ⟨_, rfl⟩
    have hwb : w.heap.size ≤ b := by rw [← hb]; exact hb5.size
    obtain ⟨w1, hw1⟩ : ∃ w1, w5.alloc (.map #[] 0) = w1 := ⟨_, rfl⟩
    rw [hw1] at m0 hb0
    rw [hb] at m0
    have HW1 := Lib.hid hw1
    have HBN := Lib.hid hb
    have HM0 := Lib.hid m0
    have HB0 := Lib.hid hb0
    clear hw1 hb m0 hb0 HR h2 cc hb5
    go_wp2_with fail
    rw [HW1.out, HBN.out]
    go_loopw [22] (fun i_ wr => ∃ i : Nat, i ≤ n ∧ i_ = .int .i64 i ∧ Hid (Mg ekV uvV wr b (mgAll ((l.take i).filterMap (betE p q)) [])) ∧ Hid (Below w.heap.size w wr)) (fun i_ _ => n - (intOf i_).toNat)
    case atStart => exact ⟨0, by omega, rfl, HM0, HB0⟩
    case round =>
      obtain ⟨i, hi, rfl, HM, HB⟩ := hrel
      by_cases hij : i < n
      · have hij' : (i : Int) < (n : Int) := by omega
        obtain ⟨x, hx⟩ : ∃ x, l[i]? = some x := ⟨_, List.getElem?_eq_getElem (by rw [HN.out]; exact hij)⟩
        obtain ⟨ob, oo, eA, hbb, hcl⟩ := RbD.at (Rd.below HH.out (HB.out.mono hB)) hx
        subst eA
        have hld := loadK_ed hcl
        have HB6 := Lib.hid (HB.out.alloc HB.out.size (.cells (edA x) 47))
        have HM6 := Lib.hid (HM.out.alloc (.cells (edA x) 47))
        have hst : ∀ o, betE p q x = o → mgAll ((l.take (i + 1)).filterMap (betE p q)) [] = match o with | some e => addK (edK e) e.n (mgAll ((l.take i).filterMap (betE p q)) []) | none => mgAll ((l.take i).filterMap (betE p q)) [] := fun o ho => by
          rw [take_snoc hx, List.filterMap_append]
          cases o with
          | none => rw [show [x].filterMap (betE p q) = [] by simp [ho], List.append_nil]
          | some e => rw [show [x].filterMap (betE p q) = [e] by simp [ho], mgAll_snoc]
        have HST := Lib.hid hst
        clear hx hcl hst HB HM
        by_cases h1 : p ≤ x.b
        · have h1' : (p : Int) ≤ (x.b : Int) := by omega
          by_cases h2 : x.b ≤ q
          · have h2' : (x.b : Int) ≤ (q : Int) := by omega
            have HS2 := Lib.hid (HST.out (some ⟨0, x.f, x.t, x.n⟩) (by rw [betE, if_pos ⟨h1, h2⟩]))
            go_wp2_with fail
            refine (deAdd ⟨0, x.f, x.t⟩ x.n _ HM6.out).mono ?_
            rintro en w9 ⟨rfl, hE9, hg9, hs9⟩
            go_wp2_with fail
            exact ⟨⟨i + 1, by omega, by go_num, Lib.hid (by rw [HS2.out]; exact hE9), Lib.hid (HB6.out.trans (below_grownJ hg9 HB6.out.size (fun k hk => by have := Option.some.inj hk; omega)))⟩, by simp only [intOf]; omega⟩
          · have h2' : decide ((x.b : Int) ≤ (q : Int)) = false := by simp; omega
            have HS2 := Lib.hid (HST.out none (by rw [betE, if_neg (fun h => h2 h.2)]))
            go_wp2_with fail
            exact ⟨⟨i + 1, by omega, by go_num, Lib.hid (by rw [HS2.out]; exact HM6.out), HB6⟩, by simp only [intOf]; omega⟩
        · have h1' : decide ((p : Int) ≤ (x.b : Int)) = false := by simp; omega
          have HS2 := Lib.hid (HST.out none (by rw [betE, if_neg (fun h => h1 h.1)]))
          go_wp2_with fail
          exact ⟨⟨i + 1, by omega, by go_num, Lib.hid (by rw [HS2.out]; exact HM6.out), HB6⟩, by simp only [intOf]; omega⟩
      · have hij' : decide ((i : Int) < (n : Int)) = false := by simp; omega
        obtain rfl : i = n := by omega
        have hm := HM.out
        rw [List.take_of_length_le (by rw [HN.out]; exact Nat.le_refl _)] at hm
        have hfl : (l.filterMap (betE p q)).length ≤ 10000 := Nat.le_trans (List.length_filterMap_le _ _) (by rw [HN.out]; omega)
        obtain ⟨xs, hxs⟩ : ∃ xs, l.filterMap (betE p q) = xs := ⟨_, rfl⟩
        rw [hxs] at HRO hm hfl
        have hll := mgAll_len xs []
        simp at hll
        have hli := deList wr hm (by omega)
        clear hm hll hfl hxs hij hij' HM
        go_wp2_with fail
        refine hli.mono ?_
        rintro en w8 (⟨hbad, rfl, hb8⟩ | ⟨hok, A8, c8, n8, out, hperm, hsort, hlen8, rfl, hown, hb8⟩)
        · have hre : r = ([], 3) := by rw [← HRO.out]; exact addOut_bad hbad
          subst hre
          go_wp2_with fail
          go_ret2
          exact EdsPost.no (HB.out.trans (hb8.mono HB.out.size))
        · have hre : r = (out, 0) := by rw [← HRO.out]; exact addOut_ok hok hperm hsort
          subst hre
          go_wp2_with fail
          go_ret2
          subst hlen8
          exact ⟨A8, c8, rfl, own_baseJ hown HB.out.size, HB.out.trans (hb8.mono HB.out.size)⟩
  · have h0' : ((ck : Int) != 0) = true := by simp; omega
    have hre : r = ([], ck) := by
      rcases h2 with h | h
      · exact absurd h h0
      · rw [← HR.out, if_pos h0, h]
    subst hre
    go_wp2_with fail
    go_ret2
    exact EdsPost.no hb5
end Go.Proofs.Ythaiplhjekkooaa

/- Edges merged, plain: sums over keys; what Merge and Between of edges that may be tell. -/
namespace Go.Proofs.Ythaiplhjekkooaa

/-- The calls at the keys that P takes. -/
def totP (P : Ek → Bool) : List Ed → Nat
  | [] => 0
  | e :: l => (if P (edK e) = true then e.n else 0) + totP P l
abbrev tot (l : List Ed) : Nat := totP (fun _ => true) l
theorem totP_append (P : Ek → Bool) : ∀ (a b : List Ed), totP P (a ++ b) = totP P a + totP P b
  | [], b => by simp [totP]
  | e :: a, b => by rw [List.cons_append, totP, totP, totP_append P a b, Nat.add_assoc]
theorem totP_le (P : Ek → Bool) : ∀ (l : List Ed), totP P l ≤ tot l
  | [] => Nat.le_refl _
  | e :: l => by
    have := totP_le P l
    show (if P (edK e) = true then e.n else 0) + totP P l ≤ (if true = true then e.n else 0) + tot l
    rw [if_pos rfl]
    split <;> omega
theorem edNum_le : ∀ (l : List Ed) (k : Ek), edNum l k ≤ tot l
  | [], k => by simp [edNum]
  | e :: l, k => by
    have := edNum_le l k
    rw [edNum_cons]
    show _ ≤ (if true = true then e.n else 0) + tot l
    rw [if_pos rfl]
    split <;> omega
theorem totP_add {P : Ek → Bool} {x : Ed} : ∀ {l : List Ed}, StrEd l → edNum l (edK x) + x.n ≤ 4611686018427387904 → totP P (addE x l).1 = totP P l + (if P (edK x) = true then x.n else 0)
  | [], _, _ => by
    rw [show (addE x []).1 = [x] from rfl]
    simp [totP]
  | a :: l, hs, hn => by
    have hs2 := (List.pairwise_cons.1 hs).2
    rw [addE_cons]
    by_cases h1 : edLt a x = true
    · rw [if_pos h1]
      have hne := edLt_ne h1
      rw [edNum_cons, if_neg hne] at hn
      have ih := totP_add (P := P) hs2 hn
      show totP P (a :: (addE x l).1) = _
      rw [totP, ih, totP]
      omega
    · rw [if_neg h1]
      by_cases h2 : edLt x a = true
      · rw [if_pos h2]
        show totP P (x :: a :: l) = _
        rw [totP, Nat.add_comm]
      · rw [if_neg h2]
        have hk := edLt_tri (a := a) (b := x) (by simpa using h1) (by simpa using h2)
        rw [edNum_cons, if_pos hk] at hn
        rw [if_neg (by omega)]
        show totP P (⟨a.b, a.f, a.t, a.n + x.n⟩ :: l) = _
        rw [totP, totP, show edK ⟨a.b, a.f, a.t, a.n + x.n⟩ = edK a from rfl, hk]
        show (if P (edK x) = true then a.n + x.n else 0) + _ = _
        split <;> omega
def keys (l : List Ed) : List Ek := l.map edK
theorem addE_keys {x : Ed} {l : List Ed} (hs : StrEd l) (hn : edNum l (edK x) + x.n ≤ 4611686018427387904) (k : Ek) : k ∈ keys (addE x l).1 ↔ k ∈ keys l ∨ k = edK x := by
  unfold keys
  rw [List.mem_map, List.mem_map]
  constructor
  · rintro ⟨e, he, rfl⟩
    rcases (addE_mem hs hn e).1 he with ⟨h1, _⟩ | h1
    · exact .inl ⟨e, h1, rfl⟩
    · exact .inr (by rw [h1]; rfl)
  · intro h
    by_cases hk : k = edK x
    · exact ⟨_, (addE_mem hs hn _).2 (.inr rfl), by rw [hk]; rfl⟩
    · rcases h with ⟨e, he, rfl⟩ | h
      · exact ⟨e, (addE_mem hs hn e).2 (.inl ⟨he, hk⟩), rfl⟩
      · exact absurd h hk
theorem addE_lenU (x : Ed) (l : List Ed) : (addE x l).1.length ≤ l.length + 1 := by
  have h1 : (l.take (addPos x l) ++ x :: l.drop (addPos x l)).length ≤ l.length + 1 := by
    simp only [List.length_append, List.length_cons, List.length_take, List.length_drop]; omega
  unfold addE
  cases hy : l[addPos x l]? with
  | none => exact h1
  | some y =>
    simp only []
    split
    · exact h1
    · split
      · exact Nat.le_succ _
      · rw [List.length_set]; exact Nat.le_succ _
theorem addAll_tot : ∀ {xs out : List Ed}, StrEd out → tot out + tot xs ≤ 4611686018427387904 →
    ∃ o, addAll xs out = some o ∧ StrEd o ∧ (∀ P, totP P o = totP P out + totP P xs) ∧ (∀ k, k ∈ keys o ↔ k ∈ keys out ∨ k ∈ keys xs) ∧ o.length ≤ out.length + xs.length
  | [], out, hs, _ => ⟨out, rfl, hs, fun P => rfl, fun k => by simp [keys], Nat.le_refl _⟩
  | x :: xs, out, hs, ht => by
    have htx : tot (x :: xs) = x.n + tot xs := by show (if true = true then x.n else 0) + tot xs = _; rw [if_pos rfl]
    have hn : edNum out (edK x) + x.n ≤ 4611686018427387904 := by have := edNum_le out (edK x); omega
    have hadd := fun P => totP_add (P := P) hs hn
    have h2 : tot (addE x out).1 + tot xs ≤ 4611686018427387904 := by
      have := hadd (fun _ => true)
      rw [if_pos rfl] at this
      have e : tot (addE x out).1 = tot out + x.n := this
      omega
    obtain ⟨o, h3, h4, h5, h6, h7⟩ := addAll_tot (xs := xs) (addE_str hs hn) h2
    refine ⟨o, by rw [addAll, addE_flag hs, if_pos (decide_eq_true hn), h3], h4, fun P => ?_, fun k => ?_, ?_⟩
    · rw [h5, hadd, totP]
      omega
    · rw [h6, addE_keys hs hn]
      unfold keys
      rw [List.map_cons, List.mem_cons]
      constructor
      · rintro ((h | h) | h)
        · exact .inl h
        · exact .inr (.inl h)
        · exact .inr (.inr h)
      · rintro (h | h | h)
        · exact .inl (.inl h)
        · exact .inl (.inr h)
        · exact .inr h
    · have := addE_lenU x out
      rw [List.length_cons]
      omega
theorem totP_key : ∀ {l : List Ed}, StrEd l → ∀ k, totP (fun j => decide (j = k)) l = edNum l k
  | [], _, k => by simp [totP, edNum]
  | a :: l, hs, k => by
    obtain ⟨h1, h2⟩ := List.pairwise_cons.1 hs
    rw [totP, edNum_cons, totP_key h2]
    by_cases hk : edK a = k
    · rw [if_pos (decide_eq_true hk), if_pos hk]
      have : edNum l k = 0 := edNum_none fun e he h => edLt_ne (h1 e he) (hk.trans h.symm)
      omega
    · rw [if_neg (by simp [hk]), if_neg hk]
      omega
/-- Sorted lists of the same keys and sums are the same. -/
theorem same_of {l m : List Ed} (hl : StrEd l) (hm : StrEd m) (hk : ∀ k, k ∈ keys l ↔ k ∈ keys m) (ht : ∀ P, totP P l = totP P m) : l = m := by
  have hin : ∀ {l m : List Ed}, StrEd l → StrEd m → (∀ k, k ∈ keys l → k ∈ keys m) → (∀ P, totP P l = totP P m) → ∀ e ∈ l, e ∈ m := by
    intro l m hl hm hk ht e he
    obtain ⟨e', he', hke⟩ := List.mem_map.1 (hk (edK e) (List.mem_map.2 ⟨e, he, rfl⟩))
    have h1 := edNum_mem hl he
    have h2 := edNum_mem hm he'
    have h3 := ht (fun j => decide (j = edK e))
    rw [totP_key hl, totP_key hm] at h3
    rw [hke] at h2
    have h4 : e.n = e'.n := by omega
    rw [← mk_un e, h4, ← hke, mk_un]
    exact he'
  have hnl : l.Nodup := hl.imp fun h e => by rw [e, edLt_irr] at h; cases h
  have hnm : m.Nodup := hm.imp fun h e => by rw [e, edLt_irr] at h; cases h
  have hperm : l.Perm m := (List.perm_ext_iff_of_nodup hnl hnm).2 fun e => ⟨hin hl hm (fun k => (hk k).1) ht e, hin hm hl (fun k => (hk k).2) (fun P => (ht P).symm) e⟩
  exact List.Perm.eq_of_pairwise (le := fun a b => edLt a b = true) (fun a b _ _ h1 h2 => by
    have := edLt_tr h1 h2
    rw [edLt_irr] at this
    cases this) hl hm hperm
theorem edWrong_iff {l : List Ed} {i : Nat} {x : Ed} (hx : l[i]? = some x) : edWrong l i = false ↔ edFine x = true ∧ ∀ k p, i = k + 1 → l[k]? = some p → edLt p x = true := by
  rw [edWrong, hx]
  simp only [Bool.or_eq_false_iff, Bool.not_eq_false']
  refine and_congr Iff.rfl ?_
  cases i with
  | zero => exact ⟨fun _ k p h => (by cases h), fun _ => rfl⟩
  | succ k =>
    simp only []
    constructor
    · intro h k' p hk hp
      cases hk
      rw [hp] at h
      simp only [decide_eq_false_iff_not] at h
      rw [edLt_cmp]
      have := ekCmp_cmp.rng (edK p) (edK x)
      omega
    · intro h
      cases hp : l[k]? with
      | none => rfl
      | some p =>
        have := (edLt_cmp p x).1 (h k p rfl hp)
        simp only [decide_eq_false_iff_not]
        omega
/-- Edges that may be. -/
theorem edChk_iff (l : List Ed) : edChk l = 0 ↔ (∀ e ∈ l, edFine e = true) ∧ StrEd l := by
  have h0 : edChk l = 0 ↔ ∀ i, i < l.length → edWrong l i = false := by
    unfold edChk
    constructor
    · intro h i hi
      cases hw : edWrong l i with
      | false => rfl
      | true => rw [if_pos (edWrong_at hw hi)] at h; cases h
    · intro h
      rw [if_neg]
      intro hw
      rw [edWrongTo, List.any_eq_true] at hw
      obtain ⟨j, hj, hw⟩ := hw
      rw [h j (List.mem_range.1 hj)] at hw
      cases hw
  rw [h0]
  constructor
  · intro h
    refine ⟨fun e he => ?_, ?_⟩
    · obtain ⟨i, hi, hx⟩ := List.getElem_of_mem he
      exact ((edWrong_iff (by rw [List.getElem?_eq_getElem hi, hx])).1 (h i hi)).1
    · have hcons : ∀ k (hk : k + 1 < l.length), edLt (l[k]'(by omega)) l[k + 1] = true := fun k hk =>
        ((edWrong_iff (List.getElem?_eq_getElem hk)).1 (h (k + 1) hk)).2 k _ rfl (List.getElem?_eq_getElem (by omega))
      have hall : ∀ d i (hi : i + d + 1 < l.length), edLt (l[i]'(by omega)) l[i + d + 1] = true := by
        intro d
        induction d with
        | zero => exact fun i hi => hcons i hi
        | succ d ih => exact fun i hi => edLt_tr (ih i (by omega)) (hcons (i + d + 1) hi)
      refine List.pairwise_iff_getElem.2 fun i j hi hj hij => ?_
      obtain ⟨d, rfl⟩ : ∃ d, j = i + d + 1 := ⟨j - i - 1, by omega⟩
      exact hall d i hj
  · rintro ⟨hf, hs⟩ i hi
    refine (edWrong_iff (List.getElem?_eq_getElem hi)).2 ⟨hf _ (List.getElem_mem hi), fun k p hk hp => ?_⟩
    subst hk
    obtain ⟨hk', rfl⟩ := List.getElem?_eq_some_iff.1 hp
    exact List.pairwise_iff_getElem.1 hs k (k + 1) hk' hi (by omega)
theorem edFine_key {x e : Ed} (hx : edFine x = true) (hf : e.f = x.f) (ht : e.t = x.t) (hn : 1 ≤ e.n) : edFine e = true := by
  unfold edFine at hx ⊢
  rw [hf, ht]
  simp only [Bool.and_eq_true, decide_eq_true_eq] at hx ⊢
  exact ⟨hx.1, hn⟩
theorem fine_pos {x : Ed} (hx : edFine x = true) : 1 ≤ x.n := by
  unfold edFine at hx
  simp only [Bool.and_eq_true, decide_eq_true_eq] at hx
  exact hx.2
theorem tot_mem {P : Ek → Bool} : ∀ {l : List Ed} {e : Ed}, e ∈ l → P (edK e) = true → e.n ≤ totP P l
  | [], e, h, _ => by cases h
  | a :: l, e, h, hP => by
    rw [totP]
    rcases List.mem_cons.1 h with rfl | h
    · rw [if_pos hP]; omega
    · have := tot_mem h hP
      omega
/-- All that addOut of fine edges of few calls tells. -/
theorem addOut_fine {xs : List Ed} (hf : ∀ e ∈ xs, edFine e = true) (ht : tot xs ≤ 4611686018427387904) :
    ∃ o, addOut xs = (o, 0) ∧ edChk o = 0 ∧ StrEd o ∧ (∀ P, totP P o = totP P xs) ∧ (∀ k, k ∈ keys o ↔ k ∈ keys xs) ∧ o.length ≤ xs.length := by
  obtain ⟨o, h1, h2, h3, h4, h5⟩ := addAll_tot (xs := xs) (out := []) List.Pairwise.nil (by simpa [totP] using ht)
  have h3' : ∀ P, totP P o = totP P xs := fun P => by rw [h3]; simp [totP]
  have h4' : ∀ k, k ∈ keys o ↔ k ∈ keys xs := fun k => by rw [h4]; simp [keys]
  refine ⟨o, by rw [addOut, h1], (edChk_iff o).2 ⟨fun e he => ?_, h2⟩, h2, h3', h4', by simpa using h5⟩
  obtain ⟨x, hx, hk⟩ := List.mem_map.1 ((h4' (edK e)).1 (List.mem_map.2 ⟨e, he, rfl⟩))
  have hfx := hf x hx
  refine edFine_key hfx (congrArg Ek.f hk).symm (congrArg Ek.t hk).symm ?_
  have e1 := edNum_mem h2 he
  have e2 := totP_key h2 (edK e)
  rw [h3'] at e2
  have e3 := tot_mem (P := fun j => decide (j = edK e)) hx (by rw [hk]; simp)
  have e4 := fine_pos hfx
  omega
/-- Edges that may be, of T calls at most. -/
structure Okl (l : List Ed) (T : Nat) : Prop where
  chk : edChk l = 0
  few : tot l ≤ T
theorem Okl.fine {l : List Ed} {T : Nat} (h : Okl l T) : ∀ e ∈ l, edFine e = true := ((edChk_iff l).1 h.chk).1
theorem Okl.str {l : List Ed} {T : Nat} (h : Okl l T) : StrEd l := ((edChk_iff l).1 h.chk).2
theorem merge_ok {a b : List Ed} {S T : Nat} (ha : Okl a S) (hb : Okl b T) (hst : S + T ≤ 4611686018427387904) :
    ∃ x, mergeOut a b = (x, 0) ∧ Okl x (S + T) ∧ (∀ P, totP P x = totP P a + totP P b) ∧ (∀ k, k ∈ keys x ↔ k ∈ keys a ∨ k ∈ keys b) ∧ x.length ≤ a.length + b.length := by
  have h1 := ha.few
  have h2 := hb.few
  obtain ⟨x, e1, e2, e3, e4, e5, e6⟩ := addOut_fine (xs := a ++ b) (fun e he => (List.mem_append.1 he).elim (ha.fine e) (hb.fine e)) (by rw [tot, totP_append]; simp only [tot] at h1 h2; omega)
  refine ⟨x, by rw [mergeOut_ok ha.chk hb.chk, e1], ⟨e2, by rw [tot, e4, totP_append]; simp only [tot] at h1 h2; omega⟩, fun P => by rw [e4, totP_append], fun k => by rw [e5]; simp [keys], by simpa using e6⟩
def inB (p q : Nat) (k : Ek) : Bool := decide (p ≤ k.b) && decide (k.b ≤ q)
theorem tot_bet (p q : Nat) : ∀ (l : List Ed), tot (l.filterMap (betE p q)) = totP (inB p q) l
  | [] => rfl
  | e :: l => by
    have ih := tot_bet p q l
    by_cases h : p ≤ e.b ∧ e.b ≤ q
    · have hb : inB p q (edK e) = true := by simp [inB, edK, h]
      rw [List.filterMap_cons, betE, if_pos h]
      show (if true = true then e.n else 0) + tot (l.filterMap (betE p q)) = (if inB p q (edK e) = true then e.n else 0) + totP (inB p q) l
      rw [ih, if_pos rfl, if_pos hb]
    · have hb : ¬ inB p q (edK e) = true := by
        intro hc
        rw [inB, Bool.and_eq_true, decide_eq_true_eq, decide_eq_true_eq] at hc
        exact h hc
      rw [List.filterMap_cons, betE, if_neg h]
      show tot (l.filterMap (betE p q)) = (if inB p q (edK e) = true then e.n else 0) + totP (inB p q) l
      rw [ih, if_neg hb, Nat.zero_add]
theorem bet_ok {l : List Ed} {T p q : Nat} (h : Okl l T) (hT : T ≤ 4611686018427387904) : ∃ m, betOut l p q = (m, 0) ∧ Okl m T ∧ tot m = totP (inB p q) l ∧ m.length ≤ l.length := by
  have hfm : ∀ e ∈ l.filterMap (betE p q), edFine e = true := fun e he => by
    obtain ⟨x, hx, hb⟩ := List.mem_filterMap.1 he
    unfold betE at hb
    split at hb
    · cases hb
      exact edFine_key (h.fine x hx) rfl rfl (fine_pos (h.fine x hx))
    · cases hb
  have h1 := tot_bet p q l
  have h2 := totP_le (inB p q) l
  have h3 := h.few
  obtain ⟨m, e1, e2, e3, e4, e5, e6⟩ := addOut_fine hfm (by rw [h1]; omega)
  refine ⟨m, by rw [betOut, if_neg (by simp [h.chk]), e1], ⟨e2, ?_⟩, ?_, Nat.le_trans e6 (List.length_filterMap_le _ _)⟩
  · have := e4 (fun _ => true)
    show totP _ m ≤ T
    rw [this]
    show tot _ ≤ T
    rw [h1]
    omega
  · rw [← h1]
    exact e4 _
theorem merge_comm {a b : List Ed} {S T : Nat} (ha : Okl a S) (hb : Okl b T) (hst : S + T ≤ 4611686018427387904) : mergeOut b a = mergeOut a b := by
  obtain ⟨x, e1, e2, e3, e4, -⟩ := merge_ok ha hb hst
  obtain ⟨y, f1, f2, f3, f4, -⟩ := merge_ok hb ha (by omega)
  rw [e1, f1, same_of f2.str e2.str (fun k => by rw [e4, f4]; exact or_comm) (fun P => by rw [e3, f3, Nat.add_comm])]
theorem merge_assoc {a b c x z : List Ed} {S T U : Nat} (ha : Okl a S) (hb : Okl b T) (hc : Okl c U) (hst : S + T + U ≤ 4611686018427387904) (hx : mergeOut a b = (x, 0)) (hz : mergeOut b c = (z, 0)) : mergeOut a z = mergeOut x c := by
  obtain ⟨x', e1, e2, e3, e4, -⟩ := merge_ok ha hb (by omega)
  obtain ⟨z', f1, f2, f3, f4, -⟩ := merge_ok hb hc (by omega)
  rw [hx] at e1
  rw [hz] at f1
  cases e1
  cases f1
  obtain ⟨p, g1, g2, g3, g4, -⟩ := merge_ok e2 hc (by omega)
  obtain ⟨q, h1, h2, h3, h4, -⟩ := merge_ok ha f2 (by omega)
  rw [g1, h1, same_of h2.str g2.str (fun k => by rw [h4, f4, g4, e4]; exact or_assoc.symm) (fun P => by rw [h3, f3, g3, e3, Nat.add_assoc])]
end Go.Proofs.Ythaiplhjekkooaa

/- deps: the law's few, small, calls. -/
namespace Go.Proofs.Ythaiplhjekkooaa
open Go.RowKit
theorem loadEd_shutV (a : Addr) : loadVar 47 a = loadK 47 a := rfl
attribute [local go_sem ↓] loadEd_shutV

theorem tot_all {M : Nat} : ∀ {l : List Ed}, (∀ e ∈ l, e.n ≤ M) → tot l ≤ l.length * M
  | [], _ => Nat.zero_le _
  | e :: l, h => by
    have h1 := tot_all (l := l) fun x hx => h x (List.mem_cons_of_mem _ hx)
    have h2 := h e (List.mem_cons_self ..)
    show (if true = true then e.n else 0) + tot l ≤ _
    rw [if_pos rfl, List.length_cons, Nat.add_mul]
    omega
theorem RbD.cells {w : World} {B : Nat} {A : Option Addr} {l : List Ed} (h : RbD w B A l) {i : Nat} {e : Ed} (hi : l[i]? = some e) :
    ∃ b o, A = some ⟨b, o, none⟩ ∧ w.cell? ⟨b, o + i * 4, none⟩ = some (.int .u64 e.b) ∧ w.cell? ⟨b, o + i * 4 + 1, none⟩ = some (.string e.f) ∧ w.cell? ⟨b, o + i * 4 + 2, none⟩ = some (.string e.t) ∧ w.cell? ⟨b, o + i * 4 + 3, none⟩ = some (.int .u64 e.n) := by
  obtain ⟨b, o, hA, -, hc⟩ := RbD.at h hi
  refine ⟨b, o, hA, hc 0 (by omega), ?_, ?_, ?_⟩ <;> rw [Nat.add_assoc]
  · exact hc 1 (by omega)
  · exact hc 2 (by omega)
  · exact hc 3 (by omega)
def SmallPost (n : Nat) (w : World) (e : Ending) (w' : World) : Prop := ∃ q, e = .returned (.bool q) ∧ w' = w ∧ (q = true → n ≤ 80)
set_option maxRecDepth 100000 in
set_option maxHeartbeats 2000000 in
theorem lawSmall {A : Option Addr} {n c B : Nat} (l : List Ed) (w : World) (h : RbD w B A l) (hn : l.length = n) (hnl : n ≤ 9223372036854775807) :
    Calls Try.prog 26 #[.slice A n c] w (SmallPost n w) := by
  have HN := Lib.hid hn
  have HH := Lib.hid h
  clear hn h
  go_enter Try.func26, Try.ntmps26
  go_wp2_with fail
  go_loopw [3] (fun i_ wr => ∃ i : Nat, i ≤ n ∧ i ≤ 81 ∧ i_ = .int .i64 i ∧ wr = w) (fun i_ _ => n - (intOf i_).toNat)
  case atStart => exact ⟨0, by omega, by omega, rfl, rfl⟩
  case round =>
    obtain ⟨i, hi, hi81, rfl, rfl⟩ := hrel
    have hfin : Hid (∀ q : Bool, q = decide ((n : Int) ≤ 80) → q = true → n ≤ 80) := Lib.hid fun q hq h => by rw [hq] at h; have := of_decide_eq_true h; omega
    by_cases hlt : i < n
    · have hlt' : (i : Int) < (n : Int) := by omega
      by_cases h80 : i ≤ 80
      · have h80' : (i : Int) ≤ 80 := by omega
        obtain ⟨x, hx⟩ : ∃ x, l[i]? = some x := ⟨_, List.getElem?_eq_getElem (by rw [HN.out]; exact hlt)⟩
        obtain ⟨b, o, eA, -, c1, c2, -⟩ := RbD.cells HH.out hx
        subst eA
        clear hx
        by_cases h1 : (1000 : Int) < (x.f.size : Int)
        · go_wp2_with fail
          go_ret
          exact ⟨false, rfl, rfl, fun h => by cases h⟩
        · have h1' : decide ((1000 : Int) < (x.f.size : Int)) = false := by simp; omega
          by_cases h2 : (1000 : Int) < (x.t.size : Int)
          · go_wp2_with fail
            go_ret
            exact ⟨false, rfl, rfl, fun h => by cases h⟩
          · have h2' : decide ((1000 : Int) < (x.t.size : Int)) = false := by simp; omega
            go_wp2_with fail
            exact ⟨⟨i + 1, by omega, by omega, by go_num, trivial⟩, by simp only [intOf]; omega⟩
      · have h80' : decide ((i : Int) ≤ 80) = false := by simp; omega
        go_wp2_with fail
        go_ret
        exact ⟨_, rfl, rfl, hfin.out _ rfl⟩
    · have hlt' : decide ((i : Int) < (n : Int)) = false := by simp; omega
      go_wp2_with fail
      go_ret
      exact ⟨_, rfl, rfl, hfin.out _ rfl⟩
def FewPost (l : List Ed) (w : World) (e : Ending) (w' : World) : Prop := ∃ q, e = .returned (.bool q) ∧ w' = w ∧ (q = true → l.length ≤ 80 ∧ ∀ e ∈ l, e.n ≤ 1099511627776)
set_option maxRecDepth 100000 in
set_option maxHeartbeats 2000000 in
theorem lawFew {A : Option Addr} {n c B : Nat} (l : List Ed) (w : World) (h : RbD w B A l) (hn : l.length = n) (hnl : n ≤ 9223372036854775807) :
    Calls Try.prog 19 #[.slice A n c] w (FewPost l w) := by
  have HN := Lib.hid hn
  have HH := Lib.hid h
  clear hn h
  go_enter Try.func19, Try.ntmps19
  go_wp2_with fail
  go_loopw [3] (fun i_ wr => ∃ i : Nat, i ≤ n ∧ i ≤ 81 ∧ i_ = .int .i64 i ∧ wr = w ∧ Hid (∀ e ∈ l.take i, e.n ≤ 1099511627776)) (fun i_ _ => n - (intOf i_).toNat)
  case atStart => exact ⟨0, by omega, by omega, rfl, rfl, Lib.hid (fun e he => by simp at he)⟩
  case round =>
    obtain ⟨i, hi, hi81, rfl, rfl, HF⟩ := hrel
    by_cases hlt : i < n
    · have hlt' : (i : Int) < (n : Int) := by omega
      by_cases h80 : i ≤ 80
      · have h80' : (i : Int) ≤ 80 := by omega
        obtain ⟨x, hx⟩ : ∃ x, l[i]? = some x := ⟨_, List.getElem?_eq_getElem (by rw [HN.out]; exact hlt)⟩
        obtain ⟨b, o, eA, -, -, -, c3⟩ := RbD.cells HH.out hx
        subst eA
        have HX := Lib.hid hx
        clear hx
        by_cases h1 : (1099511627776 : Int) < (x.n : Int)
        · go_wp2_with fail
          go_ret
          exact ⟨false, rfl, rfl, fun h => by cases h⟩
        · have h1' : decide ((1099511627776 : Int) < (x.n : Int)) = false := by simp; omega
          go_wp2_with fail
          exact ⟨⟨i + 1, by omega, by omega, by go_num, trivial, Lib.hid (fun e he => by
            rw [take_snoc HX.out] at he
            rcases List.mem_append.1 he with he | he
            · exact HF.out e he
            · rw [List.mem_singleton.1 he]; omega)⟩, by simp only [intOf]; omega⟩
      · have h80' : decide ((i : Int) ≤ 80) = false := by simp; omega
        have cs := lawSmall (c := c) l wr HH.out HN.out hnl
        go_wp2_with fail
        refine cs.mono ?_
        rintro en w2 ⟨q, rfl, rfl, hq⟩
        go_wp2_with fail
        go_ret
        exact ⟨q, rfl, rfl, fun h => absurd (hq h) (by omega)⟩
    · have hlt' : decide ((i : Int) < (n : Int)) = false := by simp; omega
      have cs := lawSmall (c := c) l wr HH.out HN.out hnl
      go_wp2_with fail
      refine cs.mono ?_
      rintro en w2 ⟨q, rfl, rfl, hq⟩
      go_wp2_with fail
      go_ret
      exact ⟨q, rfl, rfl, fun h => ⟨by rw [HN.out]; exact hq h, fun e he => HF.out e (by rw [List.take_of_length_le (by rw [HN.out]; omega)]; exact he)⟩⟩
theorem tot_snoc {l : List Ed} {i : Nat} {x : Ed} (h : l[i]? = some x) : tot (l.take (i + 1)) = tot (l.take i) + x.n := by
  rw [take_snoc h, tot, totP_append]
  show _ + ((if true = true then x.n else 0) + 0) = _
  rw [if_pos rfl]
  rfl
theorem tot_take (l : List Ed) (i : Nat) : tot (l.take i) ≤ tot l := by
  have h : tot (l.take i ++ l.drop i) = tot (l.take i) + tot (l.drop i) := totP_append _ _ _
  rw [List.take_append_drop] at h
  omega
set_option maxRecDepth 100000 in
set_option maxHeartbeats 2000000 in
theorem lawCalls {A : Option Addr} {n c B : Nat} (l : List Ed) (w : World) (h : RbD w B A l) (hn : l.length = n) (hnl : n ≤ 9223372036854775807) (ht : tot l ≤ 18446744073709551615) :
    Calls Try.prog 18 #[.slice A n c] w fun e w' => e = .returned (.int .u64 (tot l)) ∧ w' = w := by
  have HN := Lib.hid hn
  have HH := Lib.hid h
  obtain ⟨r, hr⟩ : ∃ r, tot l = r := ⟨_, rfl⟩
  have HTK := Lib.hid (fun i => show tot (l.take i) ≤ r by rw [← hr]; exact tot_take l i)
  rw [hr] at ht ⊢
  have HR := Lib.hid hr
  clear hn h hr
  go_enter Try.func18, Try.ntmps18
  go_wp2_with fail
  go_loopw [3, 4] (fun s_ i_ wr => ∃ i t : Nat, i ≤ n ∧ i_ = .int .i64 i ∧ s_ = .int .u64 t ∧ wr = w ∧ Hid (tot (l.take i) = t)) (fun _ i_ _ => n - (intOf i_).toNat)
  case atStart => exact ⟨0, 0, by omega, rfl, rfl, rfl, Lib.hid rfl⟩
  case round =>
    obtain ⟨i, t, hi, rfl, rfl, rfl, HT⟩ := hrel
    by_cases hlt : i < n
    · have hlt' : (i : Int) < (n : Int) := by omega
      obtain ⟨x, hx⟩ : ∃ x, l[i]? = some x := ⟨_, List.getElem?_eq_getElem (by rw [HN.out]; exact hlt)⟩
      obtain ⟨b, o, eA, -, -, -, c3⟩ := RbD.cells HH.out hx
      subst eA
      have hs := tot_snoc hx
      rw [HT.out] at hs
      have hk := HTK.out (i + 1)
      rw [hs] at hk
      have hw : IntKind.u64.wrap ((t : Int) + (x.n : Int)) = ((t + x.n : Nat) : Int) := by
        rw [show (t : Int) + (x.n : Int) = ((t + x.n : Nat) : Int) from by omega]
        exact IntWalk.u64_in _ ⟨by omega, by omega⟩
      have HS := Lib.hid hs
      clear hx hs hk
      go_wp2_with fail
      exact ⟨⟨i + 1, t + x.n, by omega, by go_num, rfl, trivial, HS⟩, by simp only [intOf]; omega⟩
    · have hlt' : decide ((i : Int) < (n : Int)) = false := by simp; omega
      obtain rfl : i = n := by omega
      obtain rfl : t = r := by
        have h1 := HT.out
        rw [List.take_of_length_le (by rw [HN.out]; exact Nat.le_refl _)] at h1
        rw [← h1, HR.out]
      go_wp2_with fail
      go_ret
      exact ⟨rfl, rfl⟩
end Go.Proofs.Ythaiplhjekkooaa

/- DepsTrace, plain: a trace's calls, their number, in whatever order of spans. -/
namespace Go.Proofs.Ythaiplhjekkooaa

/-- Spans, adjusted, of one trace. -/
structure TrOk (l : List AE) : Prop where
  len : l.length ≤ 64
  chk : ∀ e ∈ l, spChk e.a.s = 0
  nd : (l.map (·.a.s.id)).Nodup
theorem TrOk.perm {l m : List AE} (h : TrOk l) (hp : m.Perm l) : TrOk m :=
  ⟨by rw [hp.length_eq]; exact h.len, fun e he => h.chk e (hp.mem_iff.1 he), (hp.map _).nodup_iff.2 h.nd⟩
theorem spChk_head {s : Sp} (h : spChk s = 0) : nameB s.service = true ∧ 0 ≤ s.start ∧ s.start ≤ 4611686018427387903 := by
  unfold spChk at h
  by_cases h1 : longB s = true
  · rw [if_pos h1] at h; cases h
  rw [if_neg h1] at h
  by_cases h2 : (headB s && tagsOk s.tags s.tags.length) = true
  · have h3 := (Bool.and_eq_true_iff.1 h2).1
    unfold headB at h3
    simp only [Bool.and_eq_true, decide_eq_true_eq] at h3
    exact ⟨h3.1.1.1.1.1.1.1.2, h3.1.1.1.2, h3.1.2⟩
  · rw [if_neg h2] at h; cases h
theorem nameB_parts {s : ByteArray} (h : nameB s = true) : s ≠ ⟨#[]⟩ ∧ txtB s = true := by
  unfold nameB at h
  simp only [Bool.and_eq_true, decide_eq_true_eq] at h
  refine ⟨?_, h.2⟩
  rintro rfl
  exact absurd h.1 (by decide)
theorem atTo_len {l : List AE} (h : (l.map (·.a.s.id)).Nodup) : (atTo l).length = l.length := by
  induction l using snoc_ind with
  | h0 => rfl
  | h1 l x ih =>
    rw [List.map_append, List.nodup_append] at h
    have := (atTo_len_snoc l x).2 ⟨ih h.1, fun hm => h.2.2 _ hm _ (by simp) rfl⟩
    rw [this]
    simp
theorem TrOk.get {l : List AE} (h : TrOk l) (k : Nat) (y : AE) : mgGet k (atTo l) = some y ↔ y ∈ l ∧ y.a.s.id = k := by
  obtain ⟨h1, h2⟩ := atTo_map (atTo_len h.nd)
  have hn : ((atTo l).map (·.1)).Nodup := by
    rw [h2, List.map_map]
    exact h.nd
  constructor
  · intro hg
    have := mgGet_mem hg
    rw [h2, List.mem_map] at this
    obtain ⟨e, he, hk⟩ := this
    injection hk with hk1 hk2
    subst hk2
    exact ⟨he, hk1⟩
  · rintro ⟨hy, rfl⟩
    refine mgGet_some hn ?_
    rw [h2]
    exact List.mem_map.2 ⟨y, hy, rfl⟩
theorem TrOk.callC_perm {l m : List AE} (h : TrOk l) (hp : m.Perm l) (size : Int) (x : AE) : callC size (atTo m) x = callC size (atTo l) x := by
  have hm := h.perm hp
  have : mgGet x.a.up (atTo m) = mgGet x.a.up (atTo l) := by
    cases hg : mgGet x.a.up (atTo l) with
    | some y =>
      obtain ⟨h1, h2⟩ := (h.get _ _).1 hg
      exact (hm.get _ _).2 ⟨hp.mem_iff.2 h1, h2⟩
    | none =>
      cases hg2 : mgGet x.a.up (atTo m) with
      | none => rfl
      | some y =>
        obtain ⟨h1, h2⟩ := (hm.get _ _).1 hg2
        rw [(h.get _ _).2 ⟨hp.mem_iff.1 h1, h2⟩] at hg
        cases hg
  unfold callC
  rw [this]
theorem TrOk.calls_perm {l m : List AE} (h : TrOk l) (hp : m.Perm l) (size : Int) : (callsC size m).Perm (callsC size l) := by
  unfold callsC
  have : callC size (atTo m) = callC size (atTo l) := funext (h.callC_perm hp size)
  rw [this]
  exact hp.filterMap _
theorem totP_perm (P : Ek → Bool) {a b : List Ed} (h : a.Perm b) : totP P a = totP P b := by
  induction h with
  | nil => rfl
  | cons x _ ih => rw [totP, totP, ih]
  | swap x y l => rw [totP, totP, totP, totP]; omega
  | trans _ _ ih1 ih2 => exact ih1.trans ih2
theorem tot_ones : ∀ {l : List Ed}, (∀ e ∈ l, e.n = 1) → tot l = l.length
  | [], _ => rfl
  | e :: l, h => by
    have h1 := h e (List.mem_cons_self ..)
    have h2 := tot_ones (l := l) fun x hx => h x (List.mem_cons_of_mem _ hx)
    show (if true = true then e.n else 0) + tot l = _
    rw [if_pos rfl, h1, h2, List.length_cons, Nat.add_comm]
theorem TrOk.call_fine {l : List AE} (h : TrOk l) {size : Int} {x : AE} (hx : x ∈ l) {e : Ed} (he : callC size (atTo l) x = some e) : edFine e = true := by
  unfold callC at he
  cases hg : mgGet x.a.up (atTo l) with
  | none => rw [hg] at he; cases he
  | some y =>
    rw [hg] at he
    simp only at he
    split at he
    · rename_i hne
      injection he with he
      subst he
      obtain ⟨h1, h2⟩ := nameB_parts (spChk_head (h.chk x hx)).1
      obtain ⟨h3, h4⟩ := nameB_parts (spChk_head (h.chk y ((h.get _ _).1 hg).1)).1
      unfold edFine
      simp [h1, h2, h3, h4, hne]
    · cases he
theorem TrOk.calls {l : List AE} (h : TrOk l) (size : Int) : (∀ e ∈ callsC size l, edFine e = true) ∧ (∀ e ∈ callsC size l, e.n = 1) ∧ (callsC size l).length ≤ 64 := by
  refine ⟨fun e he => ?_, fun e he => ?_, Nat.le_trans (List.length_filterMap_le _ _) h.len⟩
  · obtain ⟨x, hx, hc⟩ := List.mem_filterMap.1 he
    exact h.call_fine hx hc
  · obtain ⟨x, hx, hc⟩ := List.mem_filterMap.1 he
    exact callC_one hc
theorem TrOk.spErr {l : List AE} (h : ∀ e ∈ l, spChk e.a.s = 0) : spErr (l.map (·.a.s)) = 0 := by
  induction l with
  | nil => rfl
  | cons x l ih =>
    rw [List.map_cons, Go.Proofs.Ythaiplhjekkooaa.spErr, h x (List.mem_cons_self ..), if_neg (by simp)]
    exact ih fun e he => h e (List.mem_cons_of_mem _ he)
theorem TrOk.out {l : List AE} (h : TrOk l) {size : Int} (hz : 1 ≤ size) : edOut (ads l) size = addOut (callsC size l) := by
  have hlen := atTo_len h.nd
  have hs := TrOk.spErr h.chk
  have hbad : ¬ edBadTo (ads l) l.length = true := fun hb => by
    have := (edBad_iff (l := l) (Nat.le_refl _)).1 hb
    rw [List.take_of_length_le (Nat.le_refl _)] at this
    rcases this with h1 | h1
    · exact h1 hlen
    · obtain ⟨e, he, hn⟩ := List.any_eq_true.1 h1
      have := (spChk_head (h.chk e he)).2.1
      have hn' : e.a.s.start < 0 := of_decide_eq_true hn
      omega
  have hsp : (ads l).map (·.s) = l.map (·.a.s) := by simp [ads]
  have h3 := edRows_calls (size := size) hlen hs
  rw [ads_len] at h3
  obtain ⟨h4, h5, h6⟩ := h.calls size
  unfold edOut
  rw [if_neg (by omega), ads_len, if_neg hbad, hsp, if_neg (by simp [hs]), h3]
  unfold addOut
  obtain ⟨o, h7, -⟩ := addAll_tot (xs := callsC size l) (out := []) List.Pairwise.nil (by rw [tot_ones h5]; simp [tot, totP]; omega)
  rw [h7, addAll_some h7]
/-- All that the statement asks of a trace's edges. -/
theorem TrOk.edges {l : List AE} (h : TrOk l) {size : Int} (hz : 1 ≤ size) :
    ∃ x, edOut (ads l) size = (x, 0) ∧ edChk x = 0 ∧ tot x = (callsC size l).length ∧ (∀ e ∈ callsC size l, edK e ∈ keys x) ∧ x.length ≤ 64 ∧ ∀ m, m.Perm l → edOut (ads m) size = (x, 0) := by
  obtain ⟨h4, h5, h6⟩ := h.calls size
  obtain ⟨x, e1, e2, e3, e4, e5, e7⟩ := addOut_fine h4 (by rw [tot_ones h5]; omega)
  refine ⟨x, by rw [h.out hz, e1], e2, by rw [← tot_ones h5]; exact e4 _, fun e he => (e5 _).2 (List.mem_map.2 ⟨e, he, rfl⟩), by omega, fun m hm => ?_⟩
  obtain ⟨g4, g5, g6⟩ := (h.perm hm).calls size
  obtain ⟨y, f1, f2, f3, f4, f5, f7⟩ := addOut_fine g4 (by rw [tot_ones g5]; omega)
  have hp := h.calls_perm hm size
  rw [(h.perm hm).out hz, f1, same_of f3 e3 (fun k => by rw [f5, e5]; unfold keys; exact (hp.map _).mem_iff) (fun P => by rw [f4, e4]; exact totP_perm P hp)]
/-- Is k the span above i, of another service? -/
def above (x y : AE) : Bool := decide (x.a.up = y.a.s.id) && decide (x.a.s.service ≠ y.a.s.service)
/-- How many of the first n are above x. -/
def abTo (l : List AE) (x : AE) (n : Nat) : Nat := (l.take n).countP (above x)
/-- How many pairs there are, of the first n. -/
def prTo (l : List AE) (n : Nat) : Nat := ((l.take n).map fun x => abTo l x l.length).sum
theorem abTo_succ {l : List AE} {x y : AE} {n : Nat} (h : l[n]? = some y) : abTo l x (n + 1) = abTo l x n + if above x y = true then 1 else 0 := by
  rw [abTo, take_snoc h, List.countP_append, List.countP_singleton]
  rfl
theorem prTo_succ {l : List AE} {x : AE} {n : Nat} (h : l[n]? = some x) : prTo l (n + 1) = prTo l n + abTo l x l.length := by
  rw [prTo, take_snoc h, List.map_append, List.sum_append]
  simp [prTo]
theorem TrOk.above_call {l : List AE} (h : TrOk l) {x y : AE} (hy : y ∈ l) (ha : above x y = true) (size : Int) : callC size (atTo l) x = some ⟨(bktOf x.a.s.start size).1, y.a.s.service, x.a.s.service, 1⟩ := by
  unfold above at ha
  simp only [Bool.and_eq_true, decide_eq_true_eq] at ha
  rw [callC, (h.get x.a.up y).2 ⟨hy, ha.1.symm⟩]
  simp only
  rw [if_pos (fun e => ha.2 e.symm)]
theorem countP_one {α : Type} {p : α → Bool} {f : α → Nat} : ∀ {l : List α}, (l.map f).Nodup → ∀ (u : Nat), (∀ x ∈ l, p x = true → f x = u) → l.countP p ≤ 1
  | [], _, _, _ => by simp
  | a :: l, hn, u, h => by
    obtain ⟨h1, h2⟩ := List.nodup_cons.1 hn
    rw [List.countP_cons]
    by_cases hp : p a = true
    · rw [if_pos hp]
      have : l.countP p = 0 := by
        rw [List.countP_eq_zero]
        intro b hb hpb
        exact h1 (List.mem_map.2 ⟨b, hb, by rw [h b (List.mem_cons_of_mem _ hb) hpb, h a (List.mem_cons_self ..) hp]⟩)
      omega
    · rw [if_neg hp]
      have := countP_one h2 u fun x hx => h x (List.mem_cons_of_mem _ hx)
      omega
theorem TrOk.above_count {l : List AE} (h : TrOk l) (size : Int) {x : AE} : abTo l x l.length = if (callC size (atTo l) x).isSome = true then 1 else 0 := by
  rw [abTo, List.take_of_length_le (Nat.le_refl _)]
  have h1 : l.countP (above x) ≤ 1 := countP_one h.nd x.a.up fun y _ hp => by
    unfold above at hp
    simp only [Bool.and_eq_true, decide_eq_true_eq] at hp
    exact hp.1.symm
  by_cases hc : (callC size (atTo l) x).isSome = true
  · rw [if_pos hc]
    have : 0 < l.countP (above x) := by
      rw [List.countP_pos_iff]
      unfold callC at hc
      cases hg : mgGet x.a.up (atTo l) with
      | none => rw [hg] at hc; cases hc
      | some y =>
        rw [hg] at hc
        obtain ⟨h2, h3⟩ := (h.get _ _).1 hg
        refine ⟨y, h2, ?_⟩
        simp only at hc
        split at hc
        · rename_i hne
          simp [above, h3, Ne.symm hne]
        · cases hc
    omega
  · rw [if_neg hc, List.countP_eq_zero]
    intro y hy ha
    rw [h.above_call hy ha size] at hc
    exact hc rfl
theorem TrOk.pairs {l : List AE} (h : TrOk l) (size : Int) : prTo l l.length = (callsC size l).length := by
  rw [prTo, List.take_of_length_le (Nat.le_refl _), callsC]
  have h1 : ∀ x, abTo l x l.length = if (callC size (atTo l) x).isSome = true then 1 else 0 := fun x => h.above_count size
  simp only [h1]
  generalize atTo l = M
  clear h h1
  induction l with
  | nil => rfl
  | cons x l ih =>
    rw [List.map_cons, List.sum_cons, ih, List.filterMap_cons]
    cases callC size M x with
    | none => simp
    | some e => simp; omega
theorem TrOk.found {l : List AE} (h : TrOk l) {size : Int} {xs : List Ed} (hk : ∀ e ∈ callsC size l, edK e ∈ keys xs) {x y : AE} (hx : x ∈ l) (hy : y ∈ l) (ha : above x y = true) :
    ∃ (m : Nat) (e : Ed), xs[m]? = some e ∧ e.f = y.a.s.service ∧ e.t = x.a.s.service ∧ e.b = (bktOf x.a.s.start size).1 := by
  have hc := h.above_call hy ha size
  obtain ⟨e, he, hke⟩ := List.mem_map.1 (hk _ (List.mem_filterMap.2 ⟨x, hx, hc⟩))
  obtain ⟨m, hm⟩ := List.getElem?_of_mem he
  exact ⟨m, e, hm, congrArg Ek.f hke, congrArg Ek.t hke, congrArg Ek.b hke⟩
theorem prTo_le (l : List AE) (h : TrOk l) (n : Nat) : prTo l n ≤ 64 * 64 := by
  have h1 : ∀ (m : List AE), (m.map fun x => abTo l x l.length).sum ≤ m.length * 64 := by
    intro m
    induction m with
    | nil => simp
    | cons x m ih =>
      have h2 : abTo l x l.length ≤ 64 := Nat.le_trans (List.countP_le_length ..) (by rw [List.length_take]; have := h.len; omega)
      rw [List.map_cons, List.sum_cons, List.length_cons, Nat.add_mul]
      omega
  have h3 := h1 (l.take n)
  have h4 : (l.take n).length * 64 ≤ 64 * 64 := Nat.mul_le_mul_right _ (by rw [List.length_take]; have := h.len; omega)
  exact Nat.le_trans h3 h4
end Go.Proofs.Ythaiplhjekkooaa
