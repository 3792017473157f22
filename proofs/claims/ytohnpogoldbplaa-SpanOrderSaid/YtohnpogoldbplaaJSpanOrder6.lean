/- Texts of the proof of SpanOrderSaid, joined: SpN SoD SoB SoE SrF Shelf SpT SoF. -/
import Derived.Test.YtohnpogoldbplaaJSpanOrder5
import Derived.Shelf.SlSortCmp.WholeK
import Derived.Test.YtohnpogoldbplaaJSpanOrder1
import Derived.Shelf.SlSortCmp.NoneTotal
import Derived.Test.YtohnpogoldbplaaJSpanOrder3
import Derived.Laws.ResultCell
import Derived.Laws.Tables
import Derived.Deep.Cut
import Derived.Test.YtohnpogoldbplaaJSpanOrder4
import Derived.Shelf.Small.Bits
import Derived.Shelf.Small.Strs
import Derived.Shelf.Strconv.Itoa0
import Derived.Shelf.Strings.Search1
import Derived.Ground.Names2Prog
import Derived.Shelf.Slices.SearchI
import Derived.Test.YtohnpogoldbplaaProg
import Derived.Laws.StructEq
/- Spans: the order of spans is one: plain laws. -/
namespace Go.Proofs.Ytohnpogoldbplaa
open Go.RowKit

/-- A comparison that tells apart, and is in order. -/
structure Cmp {α : Type} (f : α → α → Int) : Prop where
  rng : ∀ a b, f a b = -1 ∨ f a b = 0 ∨ f a b = 1
  eq : ∀ a b, f a b = 0 ↔ a = b
  neg : ∀ a b, f b a = - f a b
  tr : ∀ a b c, f a b = -1 → f b c = -1 → f a c = -1
theorem Cmp.lex {α β : Type} {f : α → α → Int} {g : β → β → Int} (F : Cmp f) (G : Cmp g) : Cmp (fun (a b : α × β) => if f a.1 b.1 ≠ 0 then f a.1 b.1 else g a.2 b.2) := by
  refine ⟨fun a b => ?_, fun a b => ?_, fun a b => ?_, fun a b c => ?_⟩
  · by_cases h : f a.1 b.1 = 0
    · simp only [h]; simpa using G.rng a.2 b.2
    · rw [if_pos h]; exact F.rng a.1 b.1
  · by_cases h : f a.1 b.1 = 0
    · have h1 := (F.eq a.1 b.1).1 h
      simp only [h, ne_eq, not_true_eq_false, if_false]
      rw [G.eq]
      exact ⟨fun h2 => Prod.ext h1 h2, fun h2 => by rw [h2]⟩
    · simp only [h, ne_eq, not_false_eq_true, if_true, false_iff]
      rintro rfl
      exact h ((F.eq _ _).2 rfl)
  · by_cases h : f a.1 b.1 = 0
    · have h1 : f b.1 a.1 = 0 := by rw [F.neg, h]; rfl
      simp only [h, h1, ne_eq, not_true_eq_false, if_false]
      exact G.neg _ _
    · have h1 : f b.1 a.1 ≠ 0 := by rw [F.neg]; omega
      simp only [h, h1, ne_eq, not_false_eq_true, if_true]
      exact F.neg _ _
  · intro h1 h2
    by_cases e1 : f a.1 b.1 = 0
    · have q1 := (F.eq _ _).1 e1
      rw [if_neg (by simp [e1])] at h1
      by_cases e2 : f b.1 c.1 = 0
      · rw [if_neg (by simp [e2])] at h2
        rw [if_neg (by rw [q1, e2]; simp)]
        exact G.tr _ _ _ h1 h2
      · rw [if_pos e2] at h2
        rw [if_pos (by rw [q1]; exact e2), q1]
        exact h2
    · rw [if_pos e1] at h1
      by_cases e2 : f b.1 c.1 = 0
      · have q2 := (F.eq _ _).1 e2
        rw [if_pos (by rw [← q2]; exact e1), ← q2]
        exact h1
      · rw [if_pos e2] at h2
        have := F.tr _ _ _ h1 h2
        rw [if_pos (by omega)]
        exact this
theorem Cmp.pull {α γ : Type} {f : α → α → Int} (F : Cmp f) (h : γ → α) (hi : ∀ x y, h x = h y → x = y) : Cmp (fun x y => f (h x) (h y)) :=
  ⟨fun _ _ => F.rng _ _, fun x y => (F.eq _ _).trans ⟨hi x y, fun e => by rw [e]⟩, fun _ _ => F.neg _ _, fun _ _ _ => F.tr _ _ _⟩
theorem cmpI_cmp : Cmp cmpI := by
  have key : ∀ a b : Int, (cmpI a b = -1 ∧ a < b) ∨ (cmpI a b = 0 ∧ a = b) ∨ (cmpI a b = 1 ∧ b < a) := fun a b => by
    unfold cmpI
    by_cases h1 : a < b
    · rw [if_pos h1]; omega
    · rw [if_neg h1]
      by_cases h2 : b < a
      · rw [if_pos h2]; omega
      · rw [if_neg h2]; omega
  refine ⟨fun a b => ?_, fun a b => ?_, fun a b => ?_, fun a b c h1 h2 => ?_⟩
  · have := key a b; omega
  · have := key a b
    constructor <;> intro h <;> omega
  · have := key a b
    have := key b a
    omega
  · have := key a b
    have := key b c
    have := key a c
    omega
theorem strLt_ltb (s t : ByteArray) : strLt s t = ltb (nums s) (nums t) := by
  have := ltb_str (nums_byt s) (nums_byt t)
  rw [strOf_nums, strOf_nums] at this
  exact this
theorem ltb_irr : ∀ (a : List Int), ltb a a = false
  | [] => rfl
  | x :: a => by rw [ltb, ltb_irr a]; simp
theorem ltb_tr : ∀ (a b c : List Int), ltb a b = true → ltb b c = true → ltb a c = true
  | a, [], _, h, _ => by simp [ltb] at h
  | _, y :: b, [], _, h => by simp [ltb] at h
  | [], _ :: _, _ :: _, _, _ => rfl
  | x :: a, y :: b, z :: c, h1, h2 => by
    simp only [ltb, Bool.or_eq_true, Bool.and_eq_true, decide_eq_true_eq] at h1 h2 ⊢
    rcases h1 with h1 | ⟨h1, h1'⟩
    · rcases h2 with h2 | ⟨h2, _⟩ <;> exact .inl (by omega)
    · rcases h2 with h2 | ⟨h2, h2'⟩
      · exact .inl (by omega)
      · exact .inr ⟨by omega, ltb_tr a b c h1' h2'⟩
theorem ltb_tri : ∀ (a b : List Int), ltb a b = false → ltb b a = false → a = b
  | [], [], _, _ => rfl
  | [], _ :: _, h, _ => by cases h
  | _ :: _, [], _, h => by cases h
  | x :: a, y :: b, h1, h2 => by
    simp only [ltb, Bool.or_eq_false_iff, Bool.and_eq_false_iff, decide_eq_false_iff_not] at h1 h2
    have hxy : x = y := by omega
    subst hxy
    rw [ltb_tri a b (by rcases h1.2 with h | h; · exact absurd rfl h
                        · exact h) (by rcases h2.2 with h | h; · exact absurd rfl h
                                       · exact h)]
theorem cmpS_cmp : Cmp cmpS := by
  have asym : ∀ s t, strLt s t = true → strLt t s = false := fun s t h => by
    cases h2 : strLt t s with
    | false => rfl
    | true =>
      rw [strLt_ltb] at h h2
      have := ltb_tr _ _ _ h h2
      rw [ltb_irr] at this
      cases this
  have irr : ∀ s, strLt s s = false := fun s => by rw [strLt_ltb, ltb_irr]
  have tri : ∀ s t, strLt s t = false → s ≠ t → strLt t s = true := fun s t h hne => by
    cases h2 : strLt t s with
    | true => rfl
    | false =>
      rw [strLt_ltb] at h h2
      exact absurd (nums_inj (ltb_tri _ _ h h2)) hne
  refine ⟨fun a b => ?_, fun a b => ?_, fun a b => ?_, fun a b c => ?_⟩
  · unfold cmpS; split
    · simp
    · split <;> simp
  · unfold cmpS
    cases h : strLt a b with
    | true =>
      simp
      rintro rfl
      rw [irr] at h
      cases h
    | false => simp
  · by_cases he : a = b
    · subst he
      unfold cmpS
      rw [irr]; simp
    · cases h : strLt a b with
      | true =>
        have h2 := asym _ _ h
        unfold cmpS
        rw [h, h2, if_neg (by simp), if_neg (fun e => he e.symm), if_pos rfl]
        rfl
      | false =>
        have h2 := tri _ _ h he
        unfold cmpS
        rw [h, h2, if_pos rfl, if_neg (by simp), if_neg he]
  · unfold cmpS
    intro h1 h2
    have k1 : strLt a b = true := by
      cases h : strLt a b with
      | true => rfl
      | false => rw [h] at h1; simp at h1; split at h1 <;> cases h1
    have k2 : strLt b c = true := by
      cases h : strLt b c with
      | true => rfl
      | false => rw [h] at h2; simp at h2; split at h2 <;> cases h2
    have k3 : strLt a c = true := by
      rw [strLt_ltb] at k1 k2 ⊢
      exact ltb_tr _ _ _ k1 k2
    rw [k3]; rfl
theorem orL2 (x y : Int) : orL [x, y] = if x ≠ 0 then x else y := by
  simp only [orL]
  by_cases h : x = 0
  · by_cases h2 : y = 0
    · simp [h, h2]
    · simp [h, h2]
  · simp [h]
theorem cmpTg_cmp : Cmp cmpTg := by
  have := (cmpS_cmp.lex cmpS_cmp).pull (fun t : Tg => (t.key, t.val)) (fun x y h => by cases x; cases y; simp at h; simp [h])
  have e : cmpTg = fun x y : Tg => if cmpS x.key y.key ≠ 0 then cmpS x.key y.key else cmpS x.val y.val := by
    funext x y
    rw [cmpTg, orL2]
  rw [e]
  exact this
theorem cmpTL_cmp : Cmp cmpTL := by
  have F := cmpTg_cmp
  refine ⟨fun a => ?_, fun a => ?_, fun a => ?_, fun a => ?_⟩
  · induction a with
    | nil => intro b; cases b <;> simp [cmpTL]
    | cons x a ih =>
      intro b
      cases b with
      | nil => simp [cmpTL]
      | cons y b =>
        rw [cmpTL]
        by_cases h : cmpTg x y = 0
        · rw [if_neg (by simp [h])]; exact ih b
        · rw [if_pos h]; exact F.rng x y
  · induction a with
    | nil => intro b; cases b <;> simp [cmpTL]
    | cons x a ih =>
      intro b
      cases b with
      | nil => simp [cmpTL]
      | cons y b =>
        rw [cmpTL]
        by_cases h : cmpTg x y = 0
        · rw [if_neg (by simp [h]), ih b, (F.eq _ _).1 h]; simp
        · rw [if_pos h]
          refine ⟨fun e => absurd e h, fun e => ?_⟩
          injection e with e1 e2
          exact (F.eq _ _).2 e1
  · induction a with
    | nil => intro b; cases b <;> simp [cmpTL]
    | cons x a ih =>
      intro b
      cases b with
      | nil => simp [cmpTL]
      | cons y b =>
        rw [cmpTL, cmpTL]
        have hn := F.neg x y
        by_cases h : cmpTg x y = 0
        · rw [if_neg (by omega), if_neg (by simp [h])]; exact ih b
        · rw [if_pos (by omega), if_pos h]; exact hn
  · induction a with
    | nil =>
      intro b c h1 h2
      cases b with
      | nil => simp [cmpTL] at h1
      | cons y b =>
        cases c with
        | nil => simp [cmpTL] at h2
        | cons z c => rfl
    | cons x a ih =>
      intro b c h1 h2
      cases b with
      | nil => simp [cmpTL] at h1
      | cons y b =>
        cases c with
        | nil => simp [cmpTL] at h2
        | cons z c =>
          rw [cmpTL] at h1 h2 ⊢
          by_cases e1 : cmpTg x y = 0
          · have q1 := (F.eq _ _).1 e1
            rw [if_neg (by simp [e1])] at h1
            by_cases e2 : cmpTg y z = 0
            · rw [if_neg (by simp [e2])] at h2
              rw [if_neg (by rw [q1, e2]; simp)]
              exact ih b c h1 h2
            · rw [if_pos e2] at h2
              rw [if_pos (by rw [q1]; exact e2), q1]
              exact h2
          · rw [if_pos e1] at h1
            by_cases e2 : cmpTg y z = 0
            · have q2 := (F.eq _ _).1 e2
              rw [if_pos (by rw [← q2]; exact e1), ← q2]
              exact h1
            · rw [if_pos e2] at h2
              have := F.tr _ _ _ h1 h2
              rw [if_pos (by omega)]
              exact this
theorem Cmp.of_eq {α : Type} {f g : α → α → Int} (F : Cmp f) (h : ∀ a b, g a b = f a b) : Cmp g := by
  have e : g = f := by funext a b; exact h a b
  rw [e]; exact F
theorem cmpNat_cmp : Cmp (fun x y : Nat => cmpI (x : Int) (y : Int)) := cmpI_cmp.pull (fun x : Nat => (x : Int)) (fun x y h => by omega)
theorem cmpBool_cmp : Cmp (fun x y : Bool => cmpI (if x = true then 1 else 0) (if y = true then 1 else 0)) := cmpI_cmp.pull (fun x : Bool => if x = true then (1 : Int) else 0) (fun x y h => by cases x <;> cases y <;> simp at h <;> rfl)
def spTup (s : Sp) : (Nat × Nat) × Nat × Nat × Int × Int × ByteArray × ByteArray × Int × Bool × List Tg := ((s.hi, s.lo), s.id, s.parent, s.start, s.length, s.service, s.name, s.kind, s.fails, s.tags)
theorem orL1 (x : Int) : orL [x] = x := by
  simp only [orL]
  by_cases h : x = 0
  · simp [h]
  · simp [h]
theorem orL_cons (x y : Int) (l : List Int) : orL (x :: y :: l) = if x ≠ 0 then x else orL (y :: l) := rfl
/-- The order of spans is one: it tells spans apart, the other way round it is the opposite, and it goes on over a third. -/
theorem spCmp_cmp : Cmp spCmp := by
  have C := ((cmpNat_cmp.lex cmpNat_cmp).lex (cmpNat_cmp.lex (cmpNat_cmp.lex (cmpI_cmp.lex (cmpI_cmp.lex (cmpS_cmp.lex (cmpS_cmp.lex (cmpI_cmp.lex (cmpBool_cmp.lex cmpTL_cmp))))))))).pull spTup (fun x y h => by
    cases x; cases y
    simp only [spTup, Prod.mk.injEq] at h
    obtain ⟨⟨h1, h2⟩, h3, h4, h5, h6, h7, h8, h9, h10, h11⟩ := h
    subst h1 h2 h3 h4 h5 h6 h7 h8 h9 h10 h11
    rfl)
  refine C.of_eq fun a b => ?_
  rw [spCmp, orL_cons, orL_cons, orL_cons, orL_cons, orL_cons, orL_cons, orL_cons, orL_cons, orL_cons, orL1, cmpTr, orL2]
  rfl
end Go.Proofs.Ytohnpogoldbplaa

/- Lists of spans: their order; slices.SortFunc of spans by Compare. -/
namespace Go.Proofs.Ytohnpogoldbplaa
open Go.RowKit Go.Shelf Go.Sort

theorem Cmp.le {α : Type} {f : α → α → Int} (F : Cmp f) {a b c : α} (h1 : f a b ≤ 0) (h2 : f b c ≤ 0) : f a c ≤ 0 := by
  by_cases e1 : f a b = 0
  · rw [(F.eq a b).1 e1]
    exact h2
  · by_cases e2 : f b c = 0
    · rw [← (F.eq b c).1 e2]
      exact h1
    · have r1 := F.rng a b
      have r2 := F.rng b c
      have := F.tr a b c (by omega) (by omega)
      omega
theorem Cmp.anti {α : Type} {f : α → α → Int} (F : Cmp f) {a b : α} (h1 : f a b ≤ 0) (h2 : f b a ≤ 0) : a = b :=
  (F.eq a b).1 (by have := F.neg a b; omega)
def insS (x : Sp) : List Sp → List Sp
  | [] => [x]
  | y :: l => if spCmp x y < 0 then x :: y :: l else y :: insS x l
def ordS (l : List Sp) : List Sp := l.foldl (fun acc x => insS x acc) []
def SortedS (l : List Sp) : Prop := l.Pairwise fun a b => spCmp a b ≤ 0
theorem insS_perm (x : Sp) : ∀ l, (insS x l).Perm (x :: l)
  | [] => List.Perm.refl _
  | y :: l => by
    rw [insS]
    split
    · exact List.Perm.refl _
    · exact ((insS_perm x l).cons y).trans (List.Perm.swap x y l)
theorem insS_mem {x z : Sp} {l : List Sp} (h : z ∈ insS x l) : z = x ∨ z ∈ l := by
  have := (insS_perm x l).mem_iff.1 h
  simpa using this
theorem insS_sorted (x : Sp) : ∀ {l}, SortedS l → SortedS (insS x l)
  | [], _ => List.pairwise_singleton _ _
  | y :: l, h => by
    obtain ⟨h1, h2⟩ := List.pairwise_cons.1 h
    rw [insS]
    split
    · rename_i hlt
      refine List.pairwise_cons.2 ⟨fun z hz => ?_, h⟩
      rcases List.mem_cons.1 hz with rfl | hz
      · omega
      · exact spCmp_cmp.le (show spCmp x y ≤ 0 by omega) (h1 z hz)
    · rename_i hge
      refine List.pairwise_cons.2 ⟨fun z hz => ?_, insS_sorted x h2⟩
      rcases insS_mem hz with rfl | hz
      · have := spCmp_cmp.neg z y
        omega
      · exact h1 z hz
theorem ordS_aux (l : List Sp) : ∀ acc, SortedS acc → SortedS (l.foldl (fun acc x => insS x acc) acc) ∧ (l.foldl (fun acc x => insS x acc) acc).Perm (acc ++ l) := by
  induction l with
  | nil => intro acc h; exact ⟨h, by simp⟩
  | cons x l ih =>
    intro acc h
    obtain ⟨h1, h2⟩ := ih (insS x acc) (insS_sorted x h)
    refine ⟨h1, h2.trans ?_⟩
    have h3 := (insS_perm x acc).append_right l
    refine h3.trans ?_
    simp only [List.cons_append]
    exact (List.perm_middle).symm
theorem ordS_sorted (l : List Sp) : SortedS (ordS l) := (ordS_aux l [] List.Pairwise.nil).1
theorem ordS_perm (l : List Sp) : (ordS l).Perm l := (ordS_aux l [] List.Pairwise.nil).2
theorem ordS_eq {l l' : List Sp} (p : l'.Perm l) (s : SortedS l') : l' = ordS l :=
  List.Perm.eq_of_pairwise (le := fun a b => spCmp a b ≤ 0) (fun a b _ _ h1 h2 => spCmp_cmp.anti h1 h2) s (ordS_sorted l) (p.trans (ordS_perm l).symm)
theorem ordS_same {l l' : List Sp} (p : l'.Perm l) : ordS l' = ordS l := ordS_eq ((ordS_perm l').trans p) (ordS_sorted l')
theorem ordS_length (l : List Sp) : (ordS l).length = l.length := (ordS_perm l).length_eq
theorem ordS_snoc (l : List Sp) (x : Sp) : ordS (l ++ [x]) = insS x (ordS l) := by simp [ordS]

/-! ### slices.SortFunc -/
/-- A span in a row whose block is g: its tags lie elsewhere. -/
structure Far (w : World) (g : Nat) (e : El) : Prop where
  ok : ElOk w w.heap.size e
  far : e.s.tags ≠ [] → ∀ a, e.A = some a → a.block ≠ g
abbrev SortEl (w : World) (g : Nat) := { e : El // Far w g e }
def sortZero (w : World) (g : Nat) : SortEl w g := ⟨⟨zeroSp, none, 0, 0⟩, ⟨⟨Rd.nil, rfl, Nat.zero_le _⟩, fun h => absurd rfl h⟩⟩
theorem swo_sp {β : Type} (p : β → Sp) : SWO (ltOf fun x y : β => spCmp (p x) (p y)) where
  irrefl x := by
    have := (spCmp_cmp.eq (p x) (p x)).2 rfl
    simp [ltOf, this]
  trans x y z h1 h2 := by
    simp only [ltOf, decide_eq_true_eq] at *
    have r1 := spCmp_cmp.rng (p x) (p y)
    have r2 := spCmp_cmp.rng (p y) (p z)
    have := spCmp_cmp.tr (p x) (p y) (p z) (by omega) (by omega)
    omega
  ntrans x y z h1 h2 := by
    simp only [ltOf, decide_eq_false_iff_not] at *
    have n1 := spCmp_cmp.neg (p x) (p y)
    have n2 := spCmp_cmp.neg (p y) (p z)
    have n3 := spCmp_cmp.neg (p x) (p z)
    have := spCmp_cmp.le (a := p z) (b := p y) (c := p x) (by omega) (by omega)
    omega
theorem grown_sort {α : Type} [Inhabited α] (enc : α → List Value) (k : Nat) (w : World) (g m : Nat) (dk : Array α) (os : Array Obj) : w.grownBy (sortWorldK enc k w g 0 m dk os) (some g) := by
  refine ⟨rfl, rfl, rfl, size_sortWorldK_c enc k w g 0 m dk os, fun i hi hne => ?_⟩
  have hg : g ≠ i := fun e => hne (by rw [e])
  have hs : i < (putRowK enc k (Sort.ahead w m) g 0 dk).heap.size := by rw [size_putRowK]; exact hi
  show (grow (putRowK enc k (Sort.ahead w m) g 0 dk) os).heap[i]? = _
  rw [grow, Array.getElem?_append_left hs]
  show ((w.heap).modify g _)[i]? = _
  rw [Array.getElem?_modify, if_neg hg]
end Go.Proofs.Ytohnpogoldbplaa

/- Lists of spans: bootprintkit.SmallSpans, SameSpans. -/
namespace Go.Proofs.Ytohnpogoldbplaa
open Go.RowKit
attribute [local go_sem ↓] loadK_shut

/-- If it says yes, they are few and each is small. -/
def SmallsPost (w : World) (l : List El) (N most : Int) (e : Ending) (w' : World) : Prop :=
  ∃ q, e = .returned (.bool q) ∧ Below w.heap.size w w' ∧ (q = true → (l.length : Int) ≤ N ∧ ∀ x ∈ l, smallB x.s most = true)
set_option maxRecDepth 100000 in
set_option maxHeartbeats 2000000 in
theorem kitSmalls {A : Option Addr} {c n B : Nat} {l : List El} (N most : Int) (w : World) (hf : RbS w B A l) (hn : l.length = n) (hB : B ≤ w.heap.size) (hnl : n ≤ 9223372036854775807) (hN : 0 ≤ N) :
    Calls Try.prog 31 #[.slice A n c, .int .i64 N, .int .i64 most] w (SmallsPost w l N most) := by
  have HN := Lib.hid hn
  clear hn
  go_enter Try.func31, Try.ntmps31
  go_wp2
  go_loopw [7] (fun iv_ wr => ∃ j : Nat, j ≤ n ∧ iv_ = .int .i64 j ∧ (∀ x ∈ l.take j, smallB x.s most = true) ∧ Below w.heap.size w wr) (fun i _ => n - (intOf i).toNat)
  case atStart => exact ⟨0, by omega, rfl, fun x hx => by simp at hx, Below.refl _ _⟩
  case round =>
    obtain ⟨j, hj, rfl, hall, hb⟩ := hrel
    have HA := Lib.hid hall
    clear hall
    by_cases hlt : j < n
    · have hlt' : (j : Int) < (n : Int) := by omega
      by_cases hjN : (j : Int) ≤ N
      · obtain ⟨x, hx⟩ : ∃ x, l[j]? = some x := ⟨_, List.getElem?_eq_getElem (by rw [HN.out]; exact hlt)⟩
        obtain ⟨b, o, rfl, hbb, hc, hok⟩ := (hf.below (hb.mono hB)).get hx
        have hld := loadK_el hc
        have hsm := kitSmall (c := x.c) x.s most wr hok.rd hok.len (Nat.le_trans hB hb.size) hok.max
        obtain ⟨q, hq⟩ : ∃ q, smallB x.s most = q := ⟨_, rfl⟩
        rw [hq] at hsm
        have HQ := Lib.hid hq
        have HS := Lib.hid hsm
        have HX := Lib.hid hx
        clear hc hq hsm hx hok
        cases q with
        | false =>
          go_wp2_with (go_at_call 8; refine HS.out.mono ?_; rintro e w' ⟨rfl, hb'⟩)
          go_ret
          exact ⟨false, rfl, hb.trans (hb'.mono hb.size), fun h => by cases h⟩
        | true =>
          go_wp2_with (go_at_call 8; refine HS.out.mono ?_; rintro e w' ⟨rfl, hb'⟩)
          have hst : ∀ y ∈ l.take (j + 1), smallB y.s most = true := fun y hy => by
            rw [take_snoc HX.out, List.mem_append, List.mem_singleton] at hy
            rcases hy with hy | rfl
            · exact HA.out y hy
            · exact HQ.out
          have HST := Lib.hid hst
          clear hst
          go_roundw
          case rel => exact ⟨j + 1, by omega, by go_num, HST.out, hb.trans (hb'.mono hb.size)⟩
          case measure => simp [intOf]; omega
      · have hjN' : decide ((j : Int) ≤ N) = false := by simp; omega
        have hnN : decide ((n : Int) ≤ N) = false := by simp; omega
        go_wp2
        go_ret
        exact ⟨false, rfl, hb, fun h => by cases h⟩
    · have hlt' : decide ((j : Int) < (n : Int)) = false := by simp; omega
      obtain rfl : j = n := by omega
      by_cases hnN : (j : Int) ≤ N
      · go_wp2
        go_ret
        exact ⟨true, rfl, hb, fun _ => ⟨by rw [HN.out]; exact hnN, fun x hx => HA.out x (by rw [List.take_of_length_le (by rw [HN.out]; omega)]; exact hx)⟩⟩
      · have hnN' : decide ((j : Int) ≤ N) = false := by simp; omega
        go_wp2
        go_ret
        exact ⟨false, rfl, hb, fun h => by cases h⟩

def sps (l : List El) : List Sp := l.map (·.s)
theorem sps_length (l : List El) : (sps l).length = l.length := by simp [sps]
theorem sps_get {l : List El} {i : Nat} {e : El} (h : l[i]? = some e) : (sps l)[i]? = some e.s := by simp [sps, h]
theorem list_eq_of {α : Type} {a b : List α} (hl : a.length = b.length) (h : ∀ (i : Nat) (x y : α), a[i]? = some x → b[i]? = some y → x = y) : a = b := by
  apply List.ext_getElem hl
  intro i h1 h2
  exact h i _ _ (List.getElem?_eq_getElem h1) (List.getElem?_eq_getElem h2)

set_option maxRecDepth 100000 in
set_option maxHeartbeats 4000000 in
theorem kitSames {A1 A2 : Option Addr} {c1 c2 n m B : Nat} {la lb : List El} (w : World) (hf : RbS w B A1 la) (hg : RbS w B A2 lb) (hn : la.length = n) (hm : lb.length = m) (hB : B ≤ w.heap.size) (hnl : n ≤ 9223372036854775807) (hml : m ≤ 9223372036854775807) :
    Calls Try.prog 34 #[.slice A1 n c1, .slice A2 m c2] w fun e w' => e = .returned (.bool (decide (sps la = sps lb))) ∧ Below w.heap.size w w' := by
  obtain ⟨q, hq⟩ : ∃ q, decide (sps la = sps lb) = q := ⟨_, rfl⟩
  rw [hq]
  have HQ := Lib.hid hq
  have HN := Lib.hid hn
  have HM := Lib.hid hm
  clear hq hn hm
  by_cases hnm : n = m
  case neg =>
    have d1 : ((n : Int) != (m : Int)) = true := by rw [bne_iff_ne]; omega
    have hq0 : q = false := by
      rw [← HQ.out, decide_eq_false_iff_not]
      intro e
      have := congrArg List.length e
      rw [sps_length, sps_length, HN.out, HM.out] at this
      exact hnm this
    have HQ0 := Lib.hid hq0
    clear hq0
    go_enter Try.func34, Try.ntmps34
    go_wp2
    go_ret
    exact ⟨by rw [HQ0.out]; rfl, Below.refl _ _⟩
  subst hnm
  go_enter Try.func34, Try.ntmps34
  go_wp2
  go_loopw [5] (fun iv_ wr => ∃ j : Nat, j ≤ n ∧ iv_ = .int .i64 j ∧ (∀ i x y, i < j → la[i]? = some x → lb[i]? = some y → x.s = y.s) ∧ Below w.heap.size w wr) (fun i _ => n - (intOf i).toNat)
  case atStart => exact ⟨0, by omega, rfl, fun i x y h => by omega, Below.refl _ _⟩
  case round =>
    obtain ⟨j, hj, rfl, hall, hb⟩ := hrel
    have HA := Lib.hid hall
    clear hall
    by_cases hlt : j < n
    · have hlt' : (j : Int) < (n : Int) := by omega
      go_wp2_with fail
      obtain ⟨x, hx⟩ : ∃ x, la[j]? = some x := ⟨_, List.getElem?_eq_getElem (by rw [HN.out]; exact hlt)⟩
      obtain ⟨y, hy⟩ : ∃ y, lb[j]? = some y := ⟨_, List.getElem?_eq_getElem (by rw [HM.out]; exact hlt)⟩
      have hbd : Below w.heap.size w wr.drew := below_drewN hb 1
      obtain ⟨b1, o1, rfl, hbb1, hc1, hok1⟩ := (hf.below (hbd.mono hB)).get hx
      obtain ⟨b2, o2, rfl, hbb2, hc2, hok2⟩ := (hg.below (hbd.mono hB)).get hy
      have hld1 := loadK_el hc1
      have hld2 := loadK_el hc2
      have hsm := kitSame (c1 := x.c) (c2 := y.c) x.s y.s wr.drew hok1.rd hok2.rd hok1.len hok2.len (Nat.le_trans hB hbd.size) hok1.max hok2.max
      obtain ⟨p, hp⟩ : ∃ p, decide (x.s = y.s) = p := ⟨_, rfl⟩
      rw [hp] at hsm
      have HP := Lib.hid hp
      have HS := Lib.hid hsm
      have HX := Lib.hid hx
      have HY := Lib.hid hy
      clear hc1 hc2 hp hsm hx hy hok1 hok2
      have hpq : p = false → q = false := fun h => by
        rw [← HQ.out, decide_eq_false_iff_not]
        intro e
        have h1 := sps_get HX.out
        rw [e, sps_get HY.out] at h1
        have h2 := HP.out
        rw [h, decide_eq_false_iff_not] at h2
        exact h2 (Option.some.inj h1).symm
      have HPQ := Lib.hid hpq
      clear hpq
      go_region_held3 (fun w' => (loadK 27 ⟨b1, o1 + j * 11, none⟩).run Try.prog w' = .ok (spV x.s x.A x.n x.c) w' ∧ (loadK 27 ⟨b2, o2 + j * 11, none⟩).run Try.prog w' = .ok (spV y.s y.A y.n y.c) w')
        (first | exact ⟨hld1, hld2⟩ | exact ⟨hle1, hle2⟩)
        (first
          | (go_at_call 11
             refine HS.out.mono ?_
             rintro e w5 ⟨rfl, hb5⟩
             have hb05 := hbd.trans (hb5.mono hbd.size)
             have hle1 : (loadK 27 ⟨b1, o1 + j * 11, none⟩).run Try.prog w5 = .ok (spV x.s x.A x.n x.c) w5 := by
               obtain ⟨b', o', e', -, hc', -⟩ := (hf.below (hb05.mono hB)).get HX.out
               cases e'
               exact loadK_el hc'
             have hle2 : (loadK 27 ⟨b2, o2 + j * 11, none⟩).run Try.prog w5 = .ok (spV y.s y.A y.n y.c) w5 := by
               obtain ⟨b', o', e', -, hc', -⟩ := (hg.below (hb05.mono hB)).get HY.out
               cases e'
               exact loadK_el hc')
          | fail)
      cases p with
      | false =>
        go_wp2
        go_ret
        exact ⟨by rw [HPQ.out (by first | rfl | trivial)]; rfl, hb05⟩
      | true =>
        have hst : ∀ i x y, i < j + 1 → la[i]? = some x → lb[i]? = some y → x.s = y.s := fun i u v hi hu hv => by
          by_cases hij : i < j
          · exact HA.out i u v hij hu hv
          · have : i = j := by omega
            subst this
            rw [HX.out] at hu
            rw [HY.out] at hv
            cases hu
            cases hv
            exact of_decide_eq_true HP.out
        have HST := Lib.hid hst
        clear hst
        go_wp2
        go_roundw
        case rel => exact ⟨j + 1, by omega, by go_num, HST.out, hb05⟩
        case measure => simp [intOf]; omega
    · have hlt' : decide ((j : Int) < (n : Int)) = false := by simp; omega
      obtain rfl : j = n := by omega
      have hqt : q = true := by
        rw [← HQ.out, decide_eq_true_iff]
        refine list_eq_of (by rw [sps_length, sps_length, HN.out, HM.out]) fun i u v hu hv => ?_
        simp only [sps, List.getElem?_map, Option.map_eq_some_iff] at hu hv
        obtain ⟨x, hx, rfl⟩ := hu
        obtain ⟨y, hy, rfl⟩ := hv
        have hi := (List.getElem?_eq_some_iff.1 hx).1
        rw [HN.out] at hi
        exact HA.out i x y hi hx hy
      have HQT := Lib.hid hqt
      clear hqt
      go_wp2
      go_ret
      exact ⟨by rw [HQT.out]; rfl, hb⟩
end Go.Proofs.Ytohnpogoldbplaa

/- slices.SortFunc of spans: its contract. -/
namespace Go.Proofs.Ytohnpogoldbplaa
open Go.RowKit Go.Shelf Go.Sort

/-- A row of spans that is the walk's own; their tags lie elsewhere. -/
structure RowS (w : World) (base : Nat) (v : Value) (n : Nat) (l : List El) : Prop where
  own : w.ownsRow base 27 11 v n (els l)
  len : l.length = n
  ok : ∀ e ∈ l, ElOk w w.heap.size e
  far : ∀ e ∈ l, e.s.tags ≠ [] → ∀ a, e.A = some a → v.ownBlock ≠ some a.block

theorem flat_els {w : World} {g : Nat} [Inhabited (SortEl w g)] (d : Array (SortEl w g)) : (flatK (fun e => elC e.val) 11 d).toList = els (d.toList.map Subtype.val) := by
  apply List.ext_getElem?
  intro j
  by_cases hj : j < d.size * 11
  · have hj1 : j < (flatK (fun e : SortEl w g => elC e.val) 11 d).size := by rw [size_flatK]; exact hj
    have hq : j / 11 < d.size := by omega
    have hm : j % 11 < 11 := Nat.mod_lt _ (by omega)
    have h1 := els_get (l := d.toList.map Subtype.val) (i := j / 11) (e := d[j / 11].val) (by simp [hq]) (j % 11) hm
    rw [show j / 11 * 11 + j % 11 = j from by omega] at h1
    rw [h1, Array.getElem?_toList, Array.getElem?_eq_getElem hj1]
    have h2 := get_flatK (fun e : SortEl w g => elC e.val) 11 d j hj
    rw [getElem!_pos _ j hj1, getElem!_pos d (j / 11) hq] at h2
    rw [h2, List.getElem!_eq_getElem?_getD, List.getElem?_eq_getElem (by rw [elC_length]; exact hm)]
    rfl
  · rw [List.getElem?_eq_none (by rw [Array.length_toList, size_flatK]; omega), List.getElem?_eq_none (by rw [els_length]; simp; omega)]
theorem heap_sortK {α : Type} [Inhabited α] {enc : α → List Value} {k : Nat} {w : World} {g n : Nat} {os : Array Obj} {cur : Array Value} {e : TypeId} {fr : Nat × Nat} (d : Array α) (hb : w.heap[g]? = some (.cells cur e fr)) :
    (sortWorldK enc k w g 0 n d os).heap[g]? = some (.cells (putCells id 0 (flatK enc k d) cur) e fr) := by
  have hg : g < w.heap.size := (Array.getElem?_eq_some_iff.1 hb).1
  unfold sortWorldK putRowK
  rw [heap_grow_old _ _ (by simpa using hg)]
  simp [putRow, mapBlock, Sort.ahead, Array.getElem?_modify, hb, onCells]
theorem take_putCellsK (cur F : Array Value) (h : F.size ≤ cur.size) : (putCells id 0 F cur).toList.take F.size = F.toList := by
  apply List.ext_getElem?
  intro j
  by_cases hj : j < F.size
  · rw [List.getElem?_take_of_lt hj, Array.getElem?_toList]
    simp [putCells, hj, show j < cur.size by omega]
  · rw [List.getElem?_take_eq_none (by omega), List.getElem?_eq_none (by simp; omega)]
theorem sizeOf_span (w : World) : (Go.sizeOf 27).run Try.prog w = .ok 11 w := by
  have h : (Try.prog.info? 27).map (·.size) = some 11 := by kernel_rfl
  cases hq : Try.prog.info? 27 with
  | none => simp [hq] at h
  | some i =>
    have hs : i.size = 11 := by simpa [hq] using h
    simp [sizeOf, typeInfo, Sem.run_bind, hq, hs]
theorem isAgg_span (w : World) : (isAgg 27).run Try.prog w = .ok true w := by
  unfold isAgg
  rw [Sem.run_bind, run_underlying Try.underlying27 w]
  rfl
/-- slices.SortFunc of spans by Compare. -/
def SortPost (w : World) (base : Nat) (v : Value) (n : Nat) (l : List El) (e : Ending) (w' : World) : Prop :=
  e = .returned (.tuple #[]) ∧ ∃ l', sps l' = ordS (sps l) ∧ RowS w' base v n l' ∧ w.grownBy w' v.ownBlock
set_option maxRecDepth 100000 in
theorem sortSpans {base n cap : Nat} {A : Option Addr} {l : List El} (w : World) (h : RowS w base (.slice A n cap) n l) (hn : n < 4611686018427387904) :
    Calls Try.prog 71 #[.slice A n cap, .func (.func 22) #[] #[]] w (SortPost w base (.slice A n cap) n l) := by
  rcases h.own.2 with ⟨h1, h2⟩ | ⟨g, cap', cur, hv, hbase, hb, hnc, hcm, hcs, htk⟩
  · injection h1 with e1 _ e3
    subst e1 e3 h2
    refine (AnyF.slices_SortFunc_none Try.sortSp none 0 _ w).mono ?_
    rintro e w' ⟨rfl, rfl⟩
    have hl : l = [] := List.eq_nil_of_length_eq_zero h.len
    subst hl
    exact ⟨rfl, [], rfl, h, World.grownBy.refl _ _⟩
  · injection hv with e1 _ e3
    subst e1 e3
    have hgw : g < w.heap.size := (Array.getElem?_eq_some_iff.1 hb).1
    have hF : ∀ e ∈ l, Far w g e := fun e he => ⟨h.ok e he, fun ht a ha hg => h.far e he ht a ha (by rw [← hg]; rfl)⟩
    letI : Inhabited (SortEl w g) := ⟨sortZero w g⟩
    obtain ⟨d, hd⟩ : ∃ d : Array (SortEl w g), d.toList.map Subtype.val = l := ⟨(l.attach.map fun e => (⟨e.1, hF e.1 e.2⟩ : SortEl w g)).toArray, by simp⟩
    have hds : d.size = n := by
      have := congrArg List.length hd
      simpa [h.len] using this
    have hfl := flat_els d
    rw [hd] at hfl
    have hH : HoldsK (fun e : SortEl w g => elC e.val) 11 w g 0 d := by
      intro j hj
      have hj1 : (els l)[j]? = some ((flatK (fun e : SortEl w g => elC e.val) 11 d)[j]!) := by
        rw [← hfl, Array.getElem?_toList, Array.getElem?_eq_getElem hj, getElem!_pos _ j hj]
      have h1 := h.own.cells (g := g) rfl j _ hj1
      rw [Addr.add_lit] at h1
      exact ⟨h1, by simp [World.frozen?, hb]⟩
    have hcmp : CmpLays Try.prog 22 #[] (fun e : SortEl w g => elC e.val) 11 (fun x y : SortEl w g => spCmp x.val.s y.val.s) g 0 d.size w := by
      intro m os dk hs x y
      have hgr := size_sortWorldK_c (fun e : SortEl w g => elC e.val) 11 w g 0 m dk os
      have hrb : ∀ z : SortEl w g, RbT (sortWorldK (fun e : SortEl w g => elC e.val) 11 w g 0 m dk os) w.heap.size z.val.A z.val.s.tags := fun z hne => by
        obtain ⟨b, o, hA, hlt, hc⟩ := z.property.ok.rd hne
        have ht : z.val.s.tags ≠ [] := fun e => hne (by rw [e]; rfl)
        refine ⟨b, o, hA, hlt, fun j u hu => ?_⟩
        exact (cell?_sortWorldK_other _ 11 w g 0 m dk os ⟨b, o + j, none⟩ (show b ≠ g from z.property.far ht ⟨b, o, none⟩ hA) hlt).trans (hc j u hu)
      refine Calls.mono (spCompareG x.val.s y.val.s _ (hrb x) (hrb y) x.property.ok.len y.property.ok.len hgr x.property.ok.max y.property.ok.max) ?_
      rintro e w' ⟨he, hG⟩
      exact ⟨he, hG.grow⟩
    have hrun := AnyQ.slices_SortFunc Try.sortSp 11 isAgg_span sizeOf_span (fun e : SortEl w g => elC e.val) (fun x => elC_length x.val) (fun x => by
      have := spC_one x.val.s x.val.A x.val.n x.val.c
      rw [Array.all_eq_true'] at this
      exact fun v hv => this v (by simpa [elC] using hv)) (fun x y : SortEl w g => spCmp x.val.s y.val.s) (swo_sp fun x : SortEl w g => x.val.s) 22 #[] g 0 cap d w (fun _ _ => rfl) hcmp hH hgw (by omega)
    rw [hds] at hrun
    refine Calls.mono hrun ?_
    rintro e w' ⟨rfl, d', q, os, hp, hst, rfl⟩
    have hgr := grown_sort (fun e : SortEl w g => elC e.val) 11 w g q d' os
    have hs' : d'.size = n := hp.1.trans hds
    have hperm : (d'.toList).Perm d.toList := by
      have := hp.2.2
      rw [show d'.extract 0 n = d' by rw [← hs']; simp, show d.extract 0 n = d by rw [← hds]; simp] at this
      exact this
    have hmem : ∀ e ∈ d'.toList.map Subtype.val, Far w g e ∧ e ∈ l := fun e he => by
      obtain ⟨x, hx, rfl⟩ := List.mem_map.1 he
      exact ⟨x.property, by rw [← hd]; exact List.mem_map.2 ⟨x, hperm.mem_iff.1 hx, rfl⟩⟩
    have hfl' := flat_els d'
    refine ⟨rfl, d'.toList.map Subtype.val, ?_, ⟨?_, by simp [hs'], ?_, ?_⟩, hgr⟩
    · refine ordS_eq ?_ ?_
      · rw [← hd]
        exact (hperm.map _).map _
      · rw [SortedS, List.pairwise_iff_getElem]
        intro i j hi hj hij
        simp only [sps, List.length_map, Array.length_toList] at hi hj
        have h1 := hst i j (Nat.zero_le _) hij (by omega)
        rw [getElem!_pos d' i hi, getElem!_pos d' j hj] at h1
        simp only [ltOf, decide_eq_false_iff_not] at h1
        simp only [sps, List.getElem_map, Array.getElem_toList]
        have h2 := spCmp_cmp.neg d'[i].val.s d'[j].val.s
        omega
    · refine ⟨by rw [els_length]; simp [hs'], .inr ⟨g, cap, _, rfl, hbase, heap_sortK d' hb, hnc, hcm, by simp [putCells, hcs], ?_⟩⟩
      rw [← hfl', show n * 11 = (flatK (fun e : SortEl w g => elC e.val) 11 d').size by rw [size_flatK, hs']]
      exact take_putCellsK cur _ (by rw [size_flatK, hs', hcs]; exact Nat.mul_le_mul_right 11 hnc)
    · intro e he
      obtain ⟨hf, _⟩ := hmem e he
      refine ⟨?_, hf.ok.len, hf.ok.max⟩
      by_cases ht : e.s.tags = []
      · rw [ht]
        exact Rd.nil
      · exact hf.ok.rd.grownS hgr fun a ha e => hf.far ht a ha (Option.some.inj e).symm
    · intro e he ht a ha
      exact h.far e (hmem e he).2 ht a ha
end Go.Proofs.Ytohnpogoldbplaa

/- Spans: Tag, Copy; the document's answer: Tag, IDText, TraceText. -/
namespace Go.Proofs.Ytohnpogoldbplaa
open Go.RowKit

/-- A tag's value, if it is there. -/
def tagOf (l : List Tg) (k : ByteArray) : Option ByteArray := (l.find? fun t => decide (t.key = k)).map (·.val)
def tagVal (l : List Tg) (k : ByteArray) : ByteArray := (tagOf l k).getD ⟨#[]⟩
def tagIs (l : List Tg) (k : ByteArray) : Bool := (tagOf l k).isSome
theorem tagOf_hit {l : List Tg} {k : ByteArray} {j : Nat} {x : Tg} (h : (l.take j).any (fun t => decide (t.key = k)) = false) (hx : l[j]? = some x) (hp : x.key = k) : tagOf l k = some x.val := by
  have hj := (List.getElem?_eq_some_iff.1 hx).1
  have : l.find? (fun t => decide (t.key = k)) = some x := by
    rw [List.find?_eq_some_iff_getElem]
    refine ⟨by simpa using hp, j, hj, (List.getElem?_eq_some_iff.1 hx).2, fun i hi => ?_⟩
    have h1 := List.any_eq_false.1 h (l[i]'(by omega)) (List.mem_of_getElem? (i := i) (by rw [List.getElem?_take, if_pos hi]; exact List.getElem?_eq_getElem _))
    simpa using h1
  rw [tagOf, this]
  rfl
theorem tagOf_none {l : List Tg} {k : ByteArray} (h : l.any (fun t => decide (t.key = k)) = false) : tagOf l k = none := by
  have : l.find? (fun t => decide (t.key = k)) = none := by
    rw [List.find?_eq_none]
    intro x hx
    have := List.any_eq_false.1 h x hx
    simpa using this
  rw [tagOf, this]
  rfl

set_option maxRecDepth 100000 in
set_option maxHeartbeats 2000000 in
theorem rTag {A : Option Addr} {c n B : Nat} (s : Sp) (k : ByteArray) (w : World) (hf : RbT w B A s.tags) (hn : s.tags.length = n) (hB : B ≤ w.heap.size) (hnl : n ≤ 9223372036854775807) :
    Calls Try.prog 18 #[spV s A n c, .string k] w fun e w' => e = .returned (.tuple #[.string (tagVal s.tags k), .bool (tagIs s.tags k)]) ∧ Below w.heap.size w w' := by
  have hb0 : Below w.heap.size w (w.alloc (.cells (spC s A n c) 27)) := (Below.refl _ w).alloc (Nat.le_refl _) _
  have hf1 := Rd.alloc hf hB (.cells (spC s A n c) 27)
  have bk := Bk.new w 27 (spC s A n c)
  obtain ⟨w1, hw1⟩ : ∃ w1, w.alloc (.cells (spC s A n c) 27) = w1 := ⟨_, rfl⟩
  rw [hw1] at hb0 hf1 bk
  have HW := Lib.hid hw1
  obtain ⟨g, hg⟩ : ∃ g, w.heap.size = g := ⟨_, rfl⟩
  rw [hg] at bk
  have HG := Lib.hid hg
  have HN := Lib.hid hn
  have HB0 := Lib.hid hb0
  have k10 : w1.cell? ⟨g, 10, none⟩ = some (.slice A n c) := bk.cell 10
  obtain ⟨v, hv⟩ : ∃ v, tagVal s.tags k = v := ⟨_, rfl⟩
  obtain ⟨i, hi⟩ : ∃ i, tagIs s.tags k = i := ⟨_, rfl⟩
  rw [hv, hi]
  have HV := Lib.hid (And.intro hv hi)
  clear hw1 hg hn hb0 hf bk hv hi
  go_enter Try.func18, Try.ntmps18
  go_upto_region 1 with fail
  rw [HW.out, HG.out]
  go_wp2
  go_loopw [6] (fun iv_ wr => ∃ j : Nat, j ≤ n ∧ iv_ = .int .i64 j ∧ (s.tags.take j).any (fun t => decide (t.key = k)) = false ∧ wr = w1) (fun i _ => n - (intOf i).toNat)
  case atStart => exact ⟨0, by omega, rfl, rfl, rfl⟩
  case round =>
    obtain ⟨j, hj, rfl, hall, rfl⟩ := hrel
    have HA := Lib.hid hall
    clear hall
    by_cases hlt : j < n
    · have hlt' : (j : Int) < (n : Int) := by omega
      obtain ⟨x, hx⟩ : ∃ x, s.tags[j]? = some x := ⟨_, List.getElem?_eq_getElem (by rw [HN.out]; exact hlt)⟩
      obtain ⟨b, o, rfl, hbb, c1, c2⟩ := RbT.get hf1 hx
      have HX := Lib.hid hx
      clear hx
      by_cases he : x.key = k
      · have d1 : (x.key.toList == k.toList) = true := by rw [strEq_of', decide_eq_true_iff]; exact he
        have ht := tagOf_hit HA.out HX.out he
        have hv := HV.out
        rw [tagVal, tagIs, ht] at hv
        have HR := Lib.hid hv
        clear ht hv he
        go_wp2
        go_ret2
        exact ⟨by rw [← HR.out.1, ← HR.out.2]; rfl, HB0.out⟩
      · have d1 : (x.key.toList == k.toList) = false := by rw [strEq_of', decide_eq_false_iff_not]; exact he
        have hst : (s.tags.take (j + 1)).any (fun t => decide (t.key = k)) = false := by rw [take_snoc HX.out, List.any_append, HA.out]; simp [he]
        have HST := Lib.hid hst
        clear hst he
        go_wp2
        go_roundw
        case rel => exact ⟨j + 1, by omega, by go_num, HST.out, by first | rfl | trivial⟩
        case measure => simp [intOf]; omega
    · have hlt' : decide ((j : Int) < (n : Int)) = false := by simp; omega
      have h1 := HA.out
      rw [List.take_of_length_le (by rw [HN.out]; omega)] at h1
      have ht := tagOf_none h1
      have hv := HV.out
      rw [tagVal, tagIs, ht] at hv
      have HR := Lib.hid hv
      clear ht hv h1
      go_wp2
      go_ret2
      exact ⟨by rw [← HR.out.1, ← HR.out.2]; rfl, HB0.out⟩

theorem spTag1 {gk : Nat} (W : World) (t : Tg) (k : ByteArray) (hk : W.cell? ⟨gk, 0, none⟩ = some (.string k)) (hlt : gk < W.heap.size) :
    Calls Try.prog 56 #[.agg #[.string t.key, .string t.val], .pointer (some ⟨gk, 0, none⟩)] W fun e W' => e = .returned (.bool (decide (t.key = k))) ∧ Below W.heap.size W W' := by
  have hk1 := (World.cell?_alloc_lt W (.cells #[.string t.key, .string t.val] 42) ⟨gk, 0, none⟩ hlt).trans hk
  have d1 : decide (t.key = k) = (t.key.toList == k.toList) := strEq_of'.symm
  rw [d1]
  clear d1
  go_enter Try.func56, Try.ntmps56
  go_wp2
  go_ret
  exact ⟨rfl, (Below.refl _ W).alloc (Nat.le_refl _) _⟩

set_option maxHeartbeats 400000 in
theorem spIndexTag {A : Option Addr} {c n B gk : Nat} {l : List Tg} (k : ByteArray) (w : World) (hf : RbT w B A l) (hn : l.length = n) (hB : B ≤ w.heap.size) (hnl : n ≤ 9223372036854775807) (hk : w.cell? ⟨gk, 0, none⟩ = some (.string k)) (hgk : gk < w.heap.size) :
    Calls Try.prog 55 #[.slice A n c, .func (.func 56) #[] #[.pointer (some ⟨gk, 0, none⟩)]] w fun e w' => e = .returned (.int .i64 (idxT (fun t => decide (t.key = k)) l)) ∧ Below w.heap.size w w' := by
  have HN := Lib.hid hn
  obtain ⟨q, hq⟩ : ∃ q, idxT (fun t => decide (t.key = k)) l = q := ⟨_, rfl⟩
  rw [hq]
  have HQ := Lib.hid hq
  have HK := Lib.hid hk
  clear hn hq hk
  go_enter Try.func55, Try.ntmps55
  go_wp2
  go_loopw [8] (fun iv_ wr => ∃ j : Nat, j ≤ n ∧ iv_ = .int .i64 j ∧ (l.take j).any (fun t => decide (t.key = k)) = false ∧ Below w.heap.size w wr) (fun i _ => n - (intOf i).toNat)
  case atStart => exact ⟨0, by omega, rfl, rfl, Below.refl _ _⟩
  case round =>
    obtain ⟨j, hj, rfl, hall, hb⟩ := hrel
    have HA := Lib.hid hall
    clear hall
    have hsr := hb.size
    by_cases hlt : j < n
    · have hlt' : (j : Int) < (n : Int) := by omega
      obtain ⟨x, hx⟩ : ∃ x, l[j]? = some x := ⟨_, List.getElem?_eq_getElem (by rw [HN.out]; exact hlt)⟩
      obtain ⟨b, o, rfl, hbb, h1, h2⟩ := RbT.get (Rd.below hf (hb.mono hB)) hx
      have hc := spTag1 wr x k ((hb.cell (p := ⟨gk, 0, none⟩) hgk).trans HK.out) (by omega)
      have HX := Lib.hid hx
      obtain ⟨p, hp⟩ : ∃ p, decide (x.key = k) = p := ⟨_, rfl⟩
      rw [hp] at hc
      have HP := Lib.hid hp
      have HC := Lib.hid hc
      clear hx hp hc
      cases p with
      | true =>
        go_wp2_with (go_at_call 56; refine HC.out.mono ?_; rintro e w' ⟨rfl, hb'⟩)
        have hb2 := hb.trans (hb'.mono hb.size)
        go_ret
        have hqt : q = (j : Int) := by
          rw [← HQ.out]
          exact idxT_hit HA.out HX.out HP.out
        exact ⟨by rw [hqt]; rfl, hb2⟩
      | false =>
        go_wp2_with (go_at_call 56; refine HC.out.mono ?_; rintro e w' ⟨rfl, hb'⟩)
        have hb2 := hb.trans (hb'.mono hb.size)
        go_roundw
        case rel => exact ⟨j + 1, by omega, by go_num, by rw [take_snoc HX.out, List.any_append, HA.out]; simpa using HP.out, hb2⟩
        case measure => simp [intOf]; omega
    · have hlt' : decide ((j : Int) < (n : Int)) = false := by simp; omega
      go_wp2
      go_ret
      have : q = -1 := by
        rw [← HQ.out]
        have h1 := HA.out
        rw [List.take_of_length_le (by rw [HN.out]; omega)] at h1
        exact idxT_none h1
      exact ⟨by rw [this]; rfl, hb⟩

theorem idxT_find {l : List Tg} {k : ByteArray} : (idxT (fun t => decide (t.key = k)) l = -1 ∧ tagOf l k = none) ∨ ∃ (j : Nat) (x : Tg), idxT (fun t => decide (t.key = k)) l = j ∧ l[j]? = some x ∧ tagOf l k = some x.val := by
  cases hf : l.findIdx? (fun t => decide (t.key = k)) with
  | none =>
    have h := List.findIdx?_eq_none_iff.1 hf
    exact .inl ⟨by rw [idxT, hf], tagOf_none (List.any_eq_false.2 fun x hx => by rw [h x hx]; simp)⟩
  | some j =>
    obtain ⟨hj, h1, h2⟩ := List.findIdx?_eq_some_iff_getElem.1 hf
    refine .inr ⟨j, l[j], by rw [idxT, hf], List.getElem?_eq_getElem hj, ?_⟩
    have h3 : (l.take j).any (fun t => decide (t.key = k)) = false := by
      rw [List.any_eq_false]
      intro x hx
      obtain ⟨i, hi, rfl⟩ := List.mem_take_iff_getElem.1 hx
      exact h2 i (by omega)
    exact tagOf_hit h3 (List.getElem?_eq_getElem hj) (by simpa using h1)

set_option maxRecDepth 100000 in
set_option maxHeartbeats 2000000 in
theorem spTag {A : Option Addr} {c n B : Nat} (s : Sp) (k : ByteArray) (w : World) (hf : RbT w B A s.tags) (hn : s.tags.length = n) (hB : B ≤ w.heap.size) (hnl : n ≤ 9223372036854775807) :
    Calls Try.prog 17 #[spV s A n c, .string k] w fun e w' => e = .returned (.tuple #[.string (tagVal s.tags k), .bool (tagIs s.tags k)]) ∧ Below w.heap.size w w' := by
  have hb0 : Below w.heap.size w ((w.alloc (.cells (spC s A n c) 27)).alloc (.cells #[.string k] 9)) := ((Below.refl _ w).alloc (Nat.le_refl _) _).alloc (by simp) _
  have hf1 := Rd.below hf (hb0.mono hB)
  have bk := (Bk.new w 27 (spC s A n c)).alloc (.cells #[.string k] 9)
  have bs := Bk.new (w.alloc (.cells (spC s A n c) 27)) 9 #[.string k]
  rw [World.size_alloc] at bs
  obtain ⟨w1, hw1⟩ : ∃ w1, (w.alloc (.cells (spC s A n c) 27)).alloc (.cells #[.string k] 9) = w1 := ⟨_, rfl⟩
  rw [hw1] at hb0 hf1 bk bs
  have HW := Lib.hid hw1
  obtain ⟨g, hg⟩ : ∃ g, w.heap.size = g := ⟨_, rfl⟩
  rw [hg] at bk bs
  have HG := Lib.hid hg
  have HN := Lib.hid hn
  have HB0 := Lib.hid hb0
  have k10 : w1.cell? ⟨g, 10, none⟩ = some (.slice A n c) := bk.cell 10
  have hc := spIndexTag (c := c) k w1 hf1 hn (by have := hb0.size; omega) hnl (bs.cell 0) bs.lt
  have hfind := idxT_find (l := s.tags) (k := k)
  obtain ⟨q, hq⟩ : ∃ q, idxT (fun t => decide (t.key = k)) s.tags = q := ⟨_, rfl⟩
  rw [hq] at hc hfind
  have HC := Lib.hid hc
  clear hw1 hg hn hb0 hf hq hc
  rcases hfind with ⟨rfl, ht⟩ | ⟨j, x, rfl, hx, ht⟩
  · have hv : tagVal s.tags k = ⟨#[]⟩ ∧ tagIs s.tags k = false := by rw [tagVal, tagIs, ht]; exact ⟨rfl, rfl⟩
    rw [hv.1, hv.2]
    clear hv ht
    go_enter Try.func17, Try.ntmps17
    go_upto_region 1 with fail
    rw [HW.out, HG.out]
    go_wp2_with (go_at_call 55; refine HC.out.mono ?_; rintro e w' ⟨rfl, hb'⟩)
    go_ret2
    exact ⟨rfl, HB0.out.trans (hb'.mono HB0.out.size)⟩
  · have hv : tagVal s.tags k = x.val ∧ tagIs s.tags k = true := by rw [tagVal, tagIs, ht]; exact ⟨rfl, rfl⟩
    rw [hv.1, hv.2]
    have hjn : j < n := by have := (List.getElem?_eq_some_iff.1 hx).1; rw [HN.out] at this; exact this
    have hjn' : (j : Int) < (n : Int) := by omega
    have hsz : B ≤ w1.heap.size := Nat.le_trans hB HB0.out.size
    have HX := Lib.hid hx
    clear hv ht hx
    go_enter Try.func17, Try.ntmps17
    go_upto_region 1 with fail
    rw [HW.out, HG.out]
    go_wp2_with fail
    refine HC.out.mono ?_
    rintro e w' ⟨rfl, hb'⟩
    have bk2 := bk.below hb' bk.lt
    have k10' : w'.cell? ⟨g, 10, none⟩ = some (.slice A n c) := bk2.cell 10
    obtain ⟨b, o, rfl, hbb, c1, c2⟩ := RbT.get (Rd.below hf1 (hb'.mono hsz)) HX.out
    go_wp2
    go_ret2
    exact ⟨rfl, HB0.out.trans (hb'.mono HB0.out.size)⟩


@[go_sem] theorem nil_eq_tags (W : World) (a : Option Addr) (n c n' c' : Nat) : (binOp .eql 25 (.slice a n c) (.slice none n' c')).run Try.prog W = .ok (.bool a.isNone) W :=
  Lib.run_eql_slice_nil W _ _ a n c n' c' Try.underlying25
theorem wpList_appTg (w : World) {ops : Array Oper} {rest : List Oper} {o : Oper} {a : Act} {Q : Exit → Act → World → Prop} (hgd : o.guard = none) (s x : Operand)
    (ho : o.op = .call { callee := .builtin .append, args := #[s, x], argTypes := #[25, 25] })
    (base : Nat) (v : Value) (n : Nat) (l : List Tg) (hs : a.eval s = v) (hown : w.ownsRow base 42 2 v n (tgs l))
    (B : Nat) (A : Option Addr) (m c : Nat) (news : List Tg) (hx : a.eval x = .slice A m c) (hl : news.length = m) (hr : RbT w B A news)
    (hbytes : n + m ≤ 4398046511104) (hbase : base ≤ w.heap.size)
    (h : ∀ A' c' w', App base 42 2 w v w' (.slice A' (n + m) c') (n + m) (tgs (l ++ news)) → (A' = none → v = .slice none 0 0 ∧ m = 0) → wpList Try.prog ops Q rest (a.put o.dst (.slice A' (n + m) c')) w') :
    wpList Try.prog ops Q (o :: rest) a w :=
  wpList_plain hgd fun _ hK => wp_appT w s x ho base v n l hs hown B A m c news hx hl hr hbytes hbase fun A' c' w' h1 h2 => hK _ _ (h A' c' w' h1 h2)

theorem tags_nil {w : World} {B : Nat} {l : List Tg} (h : RbT w B none l) : l = [] := by
  cases l with
  | nil => rfl
  | cons x l =>
    obtain ⟨b, o, e, _⟩ := h (by intro e; have := tgs_length (x :: l); rw [e] at this; simp at this)
    cases e
set_option maxHeartbeats 400000 in
theorem slCloneT {A : Option Addr} {c B n : Nat} {l : List Tg} (w : World) (ha : RbT w B A l) (hB : B ≤ w.heap.size) (hx : n ≤ 4398046511104) (hn : l.length = n) :
    Calls Try.prog 70 #[.slice A n c] w (RetNew 42 2 w n (tgs l) (fun A' => A' = none → A = none)) := by
  subst hn
  cases A with
  | none =>
    obtain rfl : l = [] := tags_nil ha
    go_enter Try.func70, Try.ntmps70
    go_wp2
    go_ret
    exact ⟨none, 0, rfl, App.refl (World.ownsRow_nil _ _ _ _), by simp⟩
  | some a =>
    go_enter Try.func70, Try.ntmps70
    go_wp2_with (at_builtin; go_loud (refine wpList_appTg _ rfl (.tmp 5) (.tmp 6) rfl w.heap.size _ 0 [] rfl (World.ownsRow_lit w #[] 0 (Nat.le_refl _) (by simp [maxLen]) rfl) B _ l.length c l rfl rfl (ha.alloc hB _) (by omega) (by simp) ?_))
    intro A' c' w' happ hne
    go_wp2
    go_ret
    exact ⟨A', c', rfl, happ.fresh1, fun h => absurd h hne⟩

/-- Copy hands back the same span, its tags in memory of its own. -/
def CopyPost (w : World) (s : Sp) (n : Nat) (A : Option Addr) (e : Ending) (w' : World) : Prop :=
  ∃ A' c', e = .returned (.agg (spC s A' n c')) ∧ RbT w' w'.heap.size A' s.tags ∧ Below w.heap.size w w' ∧ n ≤ c' ∧ (∀ a, A' = some a → w.heap.size ≤ a.block) ∧ (A' = none → A = none ∧ n = 0 ∧ c' = 0)

theorem grown_setCell (W : World) (b o : Nat) (v : Value) : W.grownBy (W.setCell ⟨b, o, none⟩ v) (some b) :=
  ⟨rfl, rfl, rfl, by simp, fun i _ hne => Below.heap_setCell W ⟨b, o, none⟩ v i (fun e => hne (by rw [e]))⟩

set_option maxRecDepth 100000 in
set_option maxHeartbeats 2000000 in
theorem spCopy {A : Option Addr} {c n B : Nat} (s : Sp) (w : World) (hf : RbT w B A s.tags) (hn : s.tags.length = n) (hB : B ≤ w.heap.size) (hnl : n ≤ 4398046511104) :
    Calls Try.prog 30 #[spV s A n c] w (CopyPost w s n A) := by
  have hb0 : Below w.heap.size w ((w.alloc (.cells (spC s A n c) 27)).alloc (.cells zspC 27)) := ((Below.refl _ w).alloc (Nat.le_refl _) _).alloc (by simp) _
  have hf1 := Rd.below hf (hb0.mono hB)
  have bk := (Bk.new w 27 (spC s A n c)).alloc (.cells zspC 27)
  have br := Bk.new (w.alloc (.cells (spC s A n c) 27)) 27 zspC
  rw [World.size_alloc] at br
  have hs1 : ((w.alloc (.cells (spC s A n c) 27)).alloc (.cells zspC 27)).heap.size = w.heap.size + 2 := by simp
  obtain ⟨w1, hw1⟩ : ∃ w1, (w.alloc (.cells (spC s A n c) 27)).alloc (.cells zspC 27) = w1 := ⟨_, rfl⟩
  rw [hw1] at hb0 hf1 bk br hs1
  have HW := Lib.hid hw1
  obtain ⟨g, hg⟩ : ∃ g, w.heap.size = g := ⟨_, rfl⟩
  rw [hg] at bk br
  have HG := Lib.hid hg
  have hg1 : g + 2 ≤ w1.heap.size := by omega
  have hcl := slCloneT (c := c) w1 hf1 (by omega) hnl hn
  have HC := Lib.hid hcl
  have HN := Lib.hid hn
  have k10 : w1.cell? ⟨g, 10, none⟩ = some (.slice A n c) := bk.cell 10
  clear hw1 hg hn hcl hf hs1
  go_enter Try.func30, Try.ntmps30
  go_upto_region 1 with fail
  rw [HW.out, HG.out]
  go_wp2_with fail
  refine HC.out.mono ?_
  rintro e w2 ⟨A', c', rfl, happ, hne⟩
  have hb2 := happ.below0
  have bk2 := bk.below hb2 bk.lt
  have br2 := br.below hb2 br.lt
  have hlo := happ.lo
  have hrd := Rd.of_own happ.own
  have hcap : n ≤ c' ∧ (A' = none → n = 0 ∧ c' = 0) := by
    rcases happ.own.2 with ⟨h1, h2⟩ | ⟨q, cap, cur, h1, _, _, h3, _⟩
    · injection h1 with _ _ h4
      exact ⟨by omega, fun _ => ⟨h2, h4⟩⟩
    · injection h1 with h4 _ h5
      subst h5
      exact ⟨h3, fun h => by rw [h] at h4; cases h4⟩
  have k10b : w2.cell? ⟨g, 10, none⟩ = some (.slice A n c) := bk2.cell 10
  have f10b : w2.frozen? ⟨g, 10, none⟩ = false := bk2.frozen 10
  have bk3 := bk2.set 10 (.slice A' n c')
  have br3 := br2.far (p := ⟨g, 10, none⟩) (by show g + 1 ≠ g; omega) (.slice A' n c')
  have hb3 := (hb0.trans (hb2.mono hb0.size)).setCell (p := ⟨g, 10, none⟩) (by show w.heap.size ≤ g; rw [HG.out]; exact Nat.le_refl _) (.slice A' n c')
  have hrd3 := hrd.grownS (grown_setCell w2 g 10 (.slice A' n c')) (fun a ha e => by
    have h1 := (hlo a ha).1
    have h2 := Option.some.inj e
    omega)
  have bk3' : Bk (w2.setCell ⟨g, 10, none⟩ (.slice A' n c')) g 27 (spC s A' n c') := bk3
  obtain ⟨w3, hw3⟩ : ∃ w3, w2.setCell ⟨g, 10, none⟩ (.slice A' n c') = w3 := ⟨_, rfl⟩
  rw [hw3] at bk3' br3 hb3 hrd3
  have HW3 := Lib.hid hw3
  clear hw3 bk3 bk2 br2 hb2 hrd happ HC hf1 bk br
  go_wp2_with (first
    | (refine wpList_load_row rfl 27 (.tmp 1) rfl g rfl 27 (spC s A' n c') (0, 0) _ (by rw [HW3.out]; exact bk3') Try.underlying27 rfl (by rfl) ?_; rw [HW3.out])
    | (refine wpList_store_row rfl 27 (.tmp 2) (.tmp 7) rfl (g + 1) (spC s A' n c') rfl rfl 27 zspC br3 (by rfl) rfl (spC_one s A' n c') ?_))
  try simp only [Exit.inBlock, Exit.then]
  refine bodyPost_ret (results_cell_row rfl _ _ (g + 1) 27 (spC s A' n c') (0, 0) _ rfl (br3.row _) Try.underlying27 rfl (by rfl)) rfl ?_
  refine ⟨A', c', rfl, ?_, ?_, hcap.1, ?_, ?_⟩
  · refine hrd3.grownS (only_row (g + 1) _) (fun a ha e => ?_)
    have h1 := (hlo a ha).1
    have h2 := Option.some.inj e
    omega
  · refine hb3.trans ?_
    exact ⟨rfl, rfl, rfl, by simp [World.setRow], fun i hi => by
      have := HG.out
      have := hb3.size
      simp [World.setRow, Array.getElem?_modify]
      intro e
      omega⟩
  · intro a ha
    have h1 := (hlo a ha).1
    have := hb0.size
    omega
  · intro h
    exact ⟨hne h, (hcap.2 h).1, (hcap.2 h).2⟩


/-- The first j digits. -/
def idP (x j : Nat) : List Int := (List.range j).map fun p => hexD (x / 16 ^ (15 - p) % 16)
theorem idP_all (x : Nat) : idP x 16 = idL x := rfl
theorem idP_len (x j : Nat) : (idP x j).length = j := by simp [idP]
theorem idP_succ (x j : Nat) : idP x (j + 1) = idP x j ++ [hexD (x / 16 ^ (15 - j) % 16)] := by simp [idP, List.range_succ]
theorem strOfNums_append (a b : List Int) : strOfNums (a ++ b) = strOfNums a ++ strOfNums b := by
  apply ByteArray.ext
  apply Array.ext'
  rw [ByteArray.data_append, Array.toList_append, strOfNums_data, strOfNums_data, strOfNums_data, List.map_append]
theorem strOfNums_size (a : List Int) : (strOfNums a).size = a.length := by
  have : (strOfNums a).data.toList.length = a.length := by rw [strOfNums_data, List.length_map]
  rwa [Array.length_toList] at this
theorem digits_cut (z : Nat) (hz : z < 16) : digits16.extract z (z + 1) = strOfNums [hexD z] := by
  have key : ∀ z : Nat, z < 16 → (digits16.extract z (z + 1)).data.toList = [hexD z].map fun n => UInt8.ofNat n.toNat := by decide +kernel
  apply ByteArray.ext
  apply Array.ext'
  rw [strOfNums_data]
  exact key z hz

set_option maxHeartbeats 800000 in
theorem rIDText {x : Nat} (w : World) (hx : x < 18446744073709551616) :
    Calls Try.prog 29 #[.int .u64 (x : Nat)] w fun e w' => e = .returned (.string (strOfNums (idL x))) ∧ w' = w := by
  go_enter Try.func29, Try.ntmps29
  go_wp2
  go_loop [3, 4, 5] (fun sv iv_ _ => ∃ (j : Nat) (i : Int), j ≤ 16 ∧ iv_ = .int .i64 i ∧ 15 - (j : Int) ≤ i ∧ i ≤ 15 - (j : Int) ∧ sv = .string (strOfNums (idP x j))) (fun _ i _ => (intOf i + 1).toNat)
  case atStart => exact ⟨0, 15, by omega, rfl, by omega, by omega, rfl⟩
  case round =>
    obtain ⟨j, i, hj, rfl, hi1, hi2, rfl⟩ := hrel
    have hus : (strOfNums (idP x j)).size = j := by rw [strOfNums_size, idP_len]
    obtain ⟨u, hu⟩ : ∃ u, strOfNums (idP x j) = u := ⟨_, rfl⟩
    rw [hu] at hus ⊢
    have HU := Lib.hid hu
    have hus' : u.size ≤ 16 := by omega
    clear hu hus
    by_cases hlt : j < 16
    · obtain ⟨k, hk⟩ : ∃ k : Nat, 15 - j = k := ⟨_, rfl⟩
      obtain rfl : i = (k : Int) := by omega
      obtain ⟨z, hz⟩ : ∃ z : Nat, x / 16 ^ k % 16 = z := ⟨_, rfl⟩
      have hz16 : z < 16 := by omega
      have hq : x / 16 ^ k < 18446744073709551616 := Nat.lt_of_le_of_lt (Nat.div_le_self _ _) hx
      have hand : bits .and .u64 ((x : Int) / 2 ^ (4 * k)) 15 = (z : Int) := by
        rw [shr_nib k rfl, and15 _ hq, hz]
      have hd := digits_cut z hz16
      obtain ⟨v, hv⟩ : ∃ v, strOfNums [hexD z] = v := ⟨_, rfl⟩
      have hvs : v.size = 1 := by rw [← hv, strOfNums_size]; rfl
      have hcut : (⟨#[48, 49, 50, 51, 52, 53, 54, 55, 56, 57, 97, 98, 99, 100, 101, 102]⟩ : ByteArray).extract z (z + 1) = v := by rw [← hv, ← hd]; rfl
      have hst : u ++ v = strOfNums (idP x (j + 1)) := by rw [idP_succ, strOfNums_append, HU.out, hk, hz, hv]
      have hadd : ∀ W : World, (Op.stringOp .add u v).run Try.prog W = .ok (.string (u ++ v)) W := fun W => run_string_add_sum _ _ _ (by omega)
      have HST := Lib.hid hst
      have HK := Lib.hid hk
      have hvs' : v.size ≤ 1 := by omega
      clear hst hd hv hz hq hk hvs
      go_wp2
      go_round
      case rel => exact ⟨j + 1, _, by omega, rfl, by have := HK.out; omega, by have := HK.out; omega, by rw [HST.out]⟩
      case measure => simp [intOf]
    · obtain rfl : j = 16 := by omega
      have h16 := HU.out
      rw [idP_all] at h16
      have HUU := Lib.hid h16
      go_wp2
      go_ret
      exact ⟨by first | rfl | (rw [HUU.out]; rfl), rfl⟩
set_option maxHeartbeats 800000 in
theorem rTraceText {hi lo : Nat} (w : World) (h1 : hi < 18446744073709551616) (h2 : lo < 18446744073709551616) :
    Calls Try.prog 27 #[.agg #[.int .u64 (hi : Nat), .int .u64 (lo : Nat)]] w fun e w' => e = .returned (.string (strOfNums (idL hi) ++ strOfNums (idL lo))) ∧ Below w.heap.size w w' := by
  obtain ⟨u, hu⟩ : ∃ u, strOfNums (idL hi) = u := ⟨_, rfl⟩
  obtain ⟨v, hv⟩ : ∃ v, strOfNums (idL lo) = v := ⟨_, rfl⟩
  have hus : u.size = 16 := by rw [← hu, ← nums_len, nums_strOf (idL_byt hi)]; simp [idL]
  have hvs : v.size = 16 := by rw [← hv, ← nums_len, nums_strOf (idL_byt lo)]; simp [idL]
  have c1 := fun W => rIDText (x := hi) W h1
  have c2 := fun W => rIDText (x := lo) W h2
  rw [hu] at c1 ⊢
  rw [hv] at c2 ⊢
  have hadd : ∀ W : World, (Op.stringOp .add u v).run Try.prog W = .ok (.string (u ++ v)) W := fun W => run_string_add_sum _ _ _ (by omega)
  have C1 := Lib.hid c1
  have C2 := Lib.hid c2
  have hsum : u.size + v.size ≤ 9223372036854775807 := by omega
  clear hu hv hus hvs c1 c2
  have bk := Bk.new w 24 #[.int .u64 (hi : Nat), .int .u64 (lo : Nat)]
  have hb0 : Below w.heap.size w (w.alloc (.cells #[.int .u64 (hi : Nat), .int .u64 (lo : Nat)] 24)) := (Below.refl _ w).alloc (Nat.le_refl _) _
  have hs1 : (w.alloc (.cells #[.int .u64 (hi : Nat), .int .u64 (lo : Nat)] 24)).heap.size = w.heap.size + 1 := by simp
  obtain ⟨w1, hw1⟩ : ∃ w1, w.alloc (.cells #[.int .u64 (hi : Nat), .int .u64 (lo : Nat)] 24) = w1 := ⟨_, rfl⟩
  rw [hw1] at bk hb0 hs1
  have HW := Lib.hid hw1
  have k0 : w1.cell? ⟨w.heap.size, 0, none⟩ = some (.int .u64 (hi : Nat)) := bk.cell 0
  have k1 : w1.cell? ⟨w.heap.size, 1, none⟩ = some (.int .u64 (lo : Nat)) := bk.cell 1
  clear hw1
  go_enter Try.func27, Try.ntmps27
  go_upto_region 1 with fail
  rw [HW.out]
  obtain ⟨g, hg⟩ : ∃ g, w.heap.size = g := ⟨_, rfl⟩
  rw [hg] at bk k0 k1 hb0 hs1 ⊢
  have g0 : w1.drew.cell? ⟨g, 0, none⟩ = some (.int .u64 (hi : Nat)) := k0
  have g1 : w1.drew.cell? ⟨g, 1, none⟩ = some (.int .u64 (lo : Nat)) := k1
  go_quiet (first
    | (go_at_call_of 29 (Value.int .u64 (hi : Nat)); go_loud (exact (C1.out _).mono (fun _ _ h => ⟨h.1, _, h.2⟩)))
    | (go_at_call_of 29 (Value.int .u64 (lo : Nat)); go_loud (exact (C2.out _).mono (fun _ _ h => ⟨h.1, _, h.2⟩))))
  go_wp2
  go_ret
  exact ⟨rfl, below_drewN (by rw [hg]; exact hb0) _⟩
end Go.Proofs.Ytohnpogoldbplaa

/-
  DERIVED: THE SHELF's CONTRACTS AT THIS DUMP, IN PLAIN WORDS (tools/lay-plain.mjs out of 'TryShelf.lean', which tools/lay-shelf.mjs wrote): THE SAME DECLARATIONS UNDER THE SAME NAMES: 'import', 'namespace', 'open', 'def', 'theorem' AND NOTHING ELSE: no command of the shelf's: FOR A HAND-IN. Each laying: the table of numbers ('.._ren') and one theorem, a field a fact of the dump's own or the kernel's comparison; each contract: ONE APPLICATION.
-/
namespace Go.Proofs
open Go.Shelf
def Try.lays128_ren : Go.Shelf.Ren := ⟨fun | 128 => 103 | n => n, fun | 51 => 118 | 3 => 3 | 4 => 4 | 46 => 76 | 5 => 5 | 9 => 9 | n => n, fun | n => n⟩
theorem Try.lays128 : Go.Proofs.Lays.n128 Try.prog Try.lays128_ren := {
  mixed := by kernel_rfl
  f128 := Try.func103.trans (congrArg some (by kernel_rfl))
  t3 := Try.underlying3
  a3 := Try.isAgg3
  z3 := Try.sizeOf3
  v3 := Try.zeroValue3
  t4 := Try.underlying4
  a4 := Try.isAgg4
  z4 := Try.sizeOf4
  v4 := Try.zeroValue4
  t5 := Try.underlying5
  a5 := Try.isAgg5
  z5 := Try.sizeOf5
  v5 := Try.zeroValue5
  t9 := Try.underlying9
  a9 := Try.isAgg9
  z9 := Try.sizeOf9
  v9 := Try.zeroValue9
  t46 := Try.underlying76
  a46 := Try.isAgg76
  z46 := Try.sizeOf76
  v46 := Try.zeroValue76
  t51 := Try.underlying118
  a51 := Try.isAgg118
  z51 := Try.sizeOf118
  v51 := Try.zeroValue118 }
/-- bits.Len32: "Len32 returns the minimum number of bits required to represent x; the result is 0 for x == 0.": IT RETURNS 'Lib.bitLen x'; the world is as it was. ('h0', 'h1': x is a uint32.) (LAID: no walk: one application.) -/
theorem Try.bits_Len32 (x : Int) (w : World) (h0 : 0 ≤ x) (h1 : x ≤ 4294967295) :
    Calls Try.prog 103 #[.int .u32 x] w fun e w' => e = .returned (.int .i64 (Lib.bitLen x.toNat)) ∧ w' = w := Any.bits_Len32 Try.lays128 x w h0 h1
def Try.lays125_ren : Go.Shelf.Ren := ⟨fun | 125 => 91 | 128 => 103 | 129 => 104 | n => n, fun | 46 => 76 | 3 => 3 | 51 => 118 | 53 => 22 | 4 => 4 | 5 => 5 | 9 => 9 | n => n, fun | n => n⟩
theorem Try.lays125 : Go.Proofs.Lays.n125 Try.prog Try.lays125_ren := {
  mixed := by kernel_rfl
  f125 := Try.func91.trans (congrArg some (by kernel_rfl))
  f128 := Try.func103.trans (congrArg some (by kernel_rfl))
  f129 := Try.func104.trans (congrArg some (by kernel_rfl))
  t3 := Try.underlying3
  a3 := Try.isAgg3
  z3 := Try.sizeOf3
  v3 := Try.zeroValue3
  t4 := Try.underlying4
  a4 := Try.isAgg4
  z4 := Try.sizeOf4
  v4 := Try.zeroValue4
  t5 := Try.underlying5
  a5 := Try.isAgg5
  z5 := Try.sizeOf5
  v5 := Try.zeroValue5
  t9 := Try.underlying9
  a9 := Try.isAgg9
  z9 := Try.sizeOf9
  v9 := Try.zeroValue9
  t46 := Try.underlying76
  a46 := Try.isAgg76
  z46 := Try.sizeOf76
  v46 := Try.zeroValue76
  t51 := Try.underlying118
  a51 := Try.isAgg118
  z51 := Try.sizeOf118
  v51 := Try.zeroValue118
  t53 := Try.underlying22
  a53 := Try.isAgg22
  z53 := Try.sizeOf22
  v53 := Try.zeroValue22 }
/-- bits.Len: "Len returns the minimum number of bits required to represent x; the result is 0 for x == 0.": IT RETURNS 'Lib.bitLen x'; the world is as it was. (A uint has 64 bits in the model.) ITS CALLEE bits.Len64 IS MET BY ITS OWN CONTRACT OFF THE SHELF (lay that first). (LAID: no walk: one application.) -/
theorem Try.bits_Len (x : Int) (w : World) (h0 : 0 ≤ x) (h1 : x ≤ 18446744073709551615) :
    Calls Try.prog 91 #[.int .u64 x] w fun e w' => e = .returned (.int .i64 (Lib.bitLen x.toNat)) ∧ w' = w := Any.bits_Len Try.lays125 x w h0 h1
def Try.lays137_ren : Go.Shelf.Ren := ⟨fun | 137 => 48 | 217 => 83 | 266 => 94 | n => n, fun | 9 => 9 | 5 => 5 | 3 => 3 | n => n, fun | n => n⟩
theorem Try.lays137 : Go.Proofs.Lays.n137 Try.prog Try.lays137_ren := {
  mixed := by kernel_rfl
  f137 := Try.func48.trans (congrArg some (by kernel_rfl))
  f217 := Try.func83.trans (congrArg some (by kernel_rfl))
  f266 := Try.func94.trans (congrArg some (by kernel_rfl))
  t3 := Try.underlying3
  a3 := Try.isAgg3
  z3 := Try.sizeOf3
  v3 := Try.zeroValue3
  t5 := Try.underlying5
  a5 := Try.isAgg5
  z5 := Try.sizeOf5
  v5 := Try.zeroValue5
  t9 := Try.underlying9
  a9 := Try.isAgg9
  z9 := Try.sizeOf9
  v9 := Try.zeroValue9 }
open Go.RowKit in
/-- strings.IndexByte: "IndexByte returns the index of the first instance of c in s, or -1 if c is not present in s.": IT RETURNS 'Lib.indexByte s c'; the world is as it was. (LAID: no walk: one application.) -/
theorem Try.strings_IndexByte (s : ByteArray) (c : Int) (w : World) :
    Calls Try.prog 48 #[.string s, .int .u8 c] w fun e w' => e = .returned (.int .i64 (Lib.indexByte s.data.toList c.toNat.toUInt8)) ∧ w' = w := Any.strings_IndexByte Try.lays137 s c w
def Try.lays129_ren : Go.Shelf.Ren := ⟨fun | 129 => 104 | n => n, fun | 53 => 22 | 3 => 3 | 4 => 4 | 46 => 76 | 5 => 5 | 9 => 9 | n => n, fun | n => n⟩
theorem Try.lays129 : Go.Proofs.Lays.n129 Try.prog Try.lays129_ren := {
  mixed := by kernel_rfl
  f129 := Try.func104.trans (congrArg some (by kernel_rfl))
  t3 := Try.underlying3
  a3 := Try.isAgg3
  z3 := Try.sizeOf3
  v3 := Try.zeroValue3
  t4 := Try.underlying4
  a4 := Try.isAgg4
  z4 := Try.sizeOf4
  v4 := Try.zeroValue4
  t5 := Try.underlying5
  a5 := Try.isAgg5
  z5 := Try.sizeOf5
  v5 := Try.zeroValue5
  t9 := Try.underlying9
  a9 := Try.isAgg9
  z9 := Try.sizeOf9
  v9 := Try.zeroValue9
  t46 := Try.underlying76
  a46 := Try.isAgg76
  z46 := Try.sizeOf76
  v46 := Try.zeroValue76
  t53 := Try.underlying22
  a53 := Try.isAgg22
  z53 := Try.sizeOf22
  v53 := Try.zeroValue22 }
/-- bits.Len64: "Len64 returns the minimum number of bits required to represent x; the result is 0 for x == 0.": IT RETURNS 'Lib.bitLen x'; the world is as it was. ('h0', 'h1': x is a uint64.) (LAID: no walk: one application.) -/
theorem Try.bits_Len64 (x : Int) (w : World) (h0 : 0 ≤ x) (h1 : x ≤ 18446744073709551615) :
    Calls Try.prog 104 #[.int .u64 x] w fun e w' => e = .returned (.int .i64 (Lib.bitLen x.toNat)) ∧ w' = w := Any.bits_Len64 Try.lays129 x w h0 h1
def Try.lays217_ren : Go.Shelf.Ren := ⟨fun | 217 => 83 | 266 => 94 | n => n, fun | 9 => 9 | 5 => 5 | 3 => 3 | n => n, fun | n => n⟩
theorem Try.lays217 : Go.Proofs.Lays.n217 Try.prog Try.lays217_ren := {
  mixed := by kernel_rfl
  f217 := Try.func83.trans (congrArg some (by kernel_rfl))
  f266 := Try.func94.trans (congrArg some (by kernel_rfl))
  t3 := Try.underlying3
  a3 := Try.isAgg3
  z3 := Try.sizeOf3
  v3 := Try.zeroValue3
  t5 := Try.underlying5
  a5 := Try.isAgg5
  z5 := Try.sizeOf5
  v5 := Try.zeroValue5
  t9 := Try.underlying9
  a9 := Try.isAgg9
  z9 := Try.sizeOf9
  v9 := Try.zeroValue9 }
open Go.RowKit Go.Lib in
/-- internal/stringslite.IndexByte (what strings.IndexByte calls): IT RETURNS 'Lib.indexByte s c'; the world is as it was. (LAID: no walk: one application.) -/
theorem Try.stringslite_IndexByte (s : ByteArray) (c : Int) (w : World) :
    Calls Try.prog 83 #[.string s, .int .u8 c] w fun e w' => e = .returned (.int .i64 (Lib.indexByte s.data.toList c.toNat.toUInt8)) ∧ w' = w := Any.stringslite_IndexByte Try.lays217 s c w
def Try.laysNm237_ren : Go.Shelf.Ren := ⟨fun | 37 => 89 | n => n, fun | 3 => 3 | 4 => 4 | n => n, fun | n => n⟩
theorem Try.laysNm237 : Go.Proofs.Lays2.n37 Try.prog Try.laysNm237_ren := {
  mixed := by kernel_rfl
  f37 := Try.func89.trans (congrArg some (by kernel_rfl))
  t3 := Try.underlying3
  a3 := Try.isAgg3
  z3 := Try.sizeOf3
  v3 := Try.zeroValue3
  t4 := Try.underlying4
  a4 := Try.isAgg4
  z4 := Try.sizeOf4
  v4 := Try.zeroValue4 }
open Go.RowKit Go.Lib in
/-- cmp.isNaN[int]: 'x != x': false. (LAID: no walk: one application.) -/
theorem Try.cmp_isNaN_int2 (x : Int) (w : World) :
    Calls Try.prog 89 #[.int .i64 x] w fun e w' => e = .returned (.bool false) ∧ w' = w := Any.cmp_isNaN_int2 Try.laysNm237 x w
end Go.Proofs

/- Spans: ParseTrace. -/
namespace Go.Proofs.Ytohnpogoldbplaa
open Go.RowKit

/-- A hexadecimal digit's value, or -1. -/
def hexV (c : Int) : Int := if 48 ≤ c ∧ c ≤ 57 then c - 48 else if 97 ≤ c ∧ c ≤ 102 then c - 87 else -1
theorem hexV_rng (c : Int) : -1 ≤ hexV c ∧ hexV c ≤ 15 := by
  unfold hexV
  split
  · omega
  · split <;> omega
theorem hexV_index (c : Int) (h0 : 0 ≤ c) (h1 : c ≤ 255) : Lib.indexByte (⟨#[48, 49, 50, 51, 52, 53, 54, 55, 56, 57, 97, 98, 99, 100, 101, 102]⟩ : ByteArray).data.toList c.toNat.toUInt8 = hexV c := by
  have key : ∀ n : Nat, n < 256 → Lib.indexByte (⟨#[48, 49, 50, 51, 52, 53, 54, 55, 56, 57, 97, 98, 99, 100, 101, 102]⟩ : ByteArray).data.toList n.toUInt8 = hexV n := by decide +kernel
  have := key c.toNat (by omega)
  rwa [show ((c.toNat : Nat) : Int) = c from by omega] at this
/-- The two numbers that 32 digits tell. -/
def ptG : List Int → Nat → Nat → Nat → Option (Nat × Nat)
  | [], _, a, b => some (a, b)
  | c :: l, i, a, b => if hexV c < 0 then none else if i < 16 then ptG l (i + 1) (a * 16 + (hexV c).toNat) b else ptG l (i + 1) a (b * 16 + (hexV c).toNat)
/-- What ParseTrace tells: the trace, the error. -/
def ptOf (s : ByteArray) : Nat × Nat × Nat :=
  if s.size ≠ 32 then (0, 0, 2) else match ptG (nums s) 0 0 0 with
    | none => (0, 0, 2)
    | some (a, b) => if a = 0 ∧ b = 0 then (0, 0, 2) else (a, b, 0)
theorem or_nib (v d : Nat) (hv : v < 1152921504606846976) (hd : d < 16) : bits .or .u64 (((v * 16 : Nat)) : Int) (d : Int) = ((v * 16 + d : Nat) : Int) := by
  rw [u64_or_nat _ _ (by omega) (by omega)]
  have e : v * 16 = 2 ^ 4 * v := by omega
  rw [e, ← Nat.two_pow_add_eq_or_of_lt (show d < 2 ^ 4 from by omega) v]

theorem resCellTmp {P : Program} {fn : Func} {p u : Tmp} {ty : TypeId} (h : fn.results = #[.cell p ty, .tmp u]) (tmps : Array Value) (w : World) (g : Nat) (t : TypeId) (cs : Array Value) (d : TypeDesc)
    (hp : tmps.getD p undef = .pointer (some ⟨g, 0, none⟩)) (hg : Bk w g t cs)
    (hu : P.underlying ty = some d) (hd : (match d with | .struct _ | .array _ _ => true | _ => false) = true) (hi : (P.info? ty).map (·.size) = some cs.size) :
    (results fn tmps).run P w = .ok (.tuple #[.agg cs, tmps.getD u undef]) w := by
  rw [results_cell_tmp h, hp]
  simp [asAddr, Result.andThen, run_loadVar_row w g t ty cs (0, 0) d hg hu hd hi]

theorem eqArr2 (a b c d : Int) (w : World) : (Op.equalIn 10000 74 (.agg #[.int .u64 a, .int .u64 b]) (.agg #[.int .u64 c, .int .u64 d])).run Try.prog w = .ok (a == c && b == d) w := by
  have u3 := Try.underlying22
  have a3 := Try.isAgg22
  have z3 := Try.sizeOf22
  rw [show (10000 : Nat) = 9999 + 1 from rfl, Op.equalIn]
  simp only [Sem.run_bind, run_underlying Try.underlying74, Result.andThen_ok]
  simp only [Std.Legacy.Range.forIn_eq_forIn_range', Std.Legacy.Range.size, Nat.sub_zero, Nat.add_sub_cancel, Nat.div_one, List.range'_succ, List.range'_zero, List.forIn_cons, List.forIn_nil]
  go_simp
  by_cases h1 : a = c <;> by_cases h2 : b = d <;> simp [h1, h2]
theorem Bk.rowT {w : World} {g : Nat} {t : TypeId} {old : Array Value} (h : Bk w g t old) (cs : Array Value) : Bk (w.setRow g cs) g t cs := setRow_heap w g old cs t (0, 0) h
theorem below_rowT (w : World) {B g : Nat} (h : B ≤ g) (cs : Array Value) : Below B w (w.setRow g cs) :=
  ⟨rfl, rfl, rfl, by simp [World.setRow], fun i hi => by simp [World.setRow, Array.getElem?_modify]; intro e; omega⟩
theorem ptG_drop {s : ByteArray} {i a b : Nat} {c : Int} (h : (nums s)[i]? = some c) : ptG ((nums s).drop i) i a b = if hexV c < 0 then none else if i < 16 then ptG ((nums s).drop (i + 1)) (i + 1) (a * 16 + (hexV c).toNat) b else ptG ((nums s).drop (i + 1)) (i + 1) a (b * 16 + (hexV c).toNat) := by
  have hl := (List.getElem?_eq_some_iff.1 h).1
  have e : (nums s).drop i = c :: (nums s).drop (i + 1) := by
    rw [List.drop_eq_getElem_cons hl, (List.getElem?_eq_some_iff.1 h).2]
  rw [e, ptG]

set_option maxRecDepth 100000 in
set_option maxHeartbeats 4000000 in
theorem spParseTrace (w : World) (s : ByteArray) :
    Calls Try.prog 12 #[.string s] w fun e w' => e = .returned (.tuple #[.agg #[.int .u64 (ptOf s).1, .int .u64 (ptOf s).2.1], .int .i64 (ptOf s).2.2]) ∧ Below w.heap.size w w' := by
  have hb0 : Below w.heap.size w (w.alloc (.cells #[.int .u64 0, .int .u64 0] 24)) := (Below.refl _ w).alloc (Nat.le_refl _) _
  have bk0 := Bk.new w 24 #[.int .u64 0, .int .u64 0]
  obtain ⟨w1, hw1⟩ : ∃ w1, w.alloc (.cells #[.int .u64 0, .int .u64 0] 24) = w1 := ⟨_, rfl⟩
  have hs1 : w1.heap.size = w.heap.size + 1 := by rw [← hw1]; simp
  rw [hw1] at hb0 bk0
  have HW := Lib.hid hw1
  obtain ⟨r, hr⟩ : ∃ r, ptOf s = r := ⟨_, rfl⟩
  rw [hr]
  have HR := Lib.hid hr
  clear hw1 hr
  go_enter Try.func12, Try.ntmps12
  go_upto_region 1 with fail
  rw [HW.out]
  by_cases hn : s.size = 32
  case neg =>
    have hr : r = (0, 0, 2) := by rw [← HR.out, ptOf, if_pos hn]
    subst hr
    have d1 : ((s.size : Int) != 32) = true := by rw [bne_iff_ne]; omega
    go_wp2_with (refine wpList_store_row rfl 24 (.tmp 2) (.tmp 10) rfl w.heap.size #[.int .u64 0, .int .u64 0] rfl rfl 24 #[.int .u64 0, .int .u64 0] bk0 (by rfl) rfl (by simp [Value.oneCell']) ?_)
    try simp only [Exit.inBlock, Exit.then]
    refine bodyPost_ret (resCellTmp rfl _ _ w.heap.size 24 #[.int .u64 0, .int .u64 0] _ rfl (bk0.rowT _) Try.underlying24 rfl (by rfl)) rfl ?_
    exact ⟨rfl, hb0.trans (below_rowT w1 (Nat.le_refl _) _)⟩
  have d1 : ((s.size : Int) != 32) = false := by rw [bne_eq_false_iff_eq]; omega
  go_upto_region 4 with fail
  have hb2 := hb0.alloc (by omega) (.cells #[.int .u64 0, .int .u64 0] 74)
  have bk2 := bk0.alloc (.cells #[.int .u64 0, .int .u64 0] 74)
  have bq2 := Bk.new w1 74 #[.int .u64 0, .int .u64 0]
  obtain ⟨w2, hw2⟩ : ∃ w2, w1.alloc (.cells #[.int .u64 0, .int .u64 0] 74) = w2 := ⟨_, rfl⟩
  rw [hw2] at hb2 bk2 bq2 ⊢
  rw [hs1] at bq2
  obtain ⟨q, hq⟩ : ∃ q, w.heap.size + 1 = q := ⟨_, rfl⟩
  rw [hq] at bq2 ⊢
  have hqg : w.heap.size ≠ q := by omega
  have hqle : w.heap.size ≤ q := by omega
  have HB2 := Lib.hid (And.intro hb2 (And.intro bk2 bq2))
  clear hw2 hb0 bk0 hs1 HW hq hb2 bk2 bq2
  go_wp2_with fail
  go_loopw [13] (fun iv_ wr => ∃ (i a b : Nat), i ≤ 32 ∧ iv_ = .int .i64 i ∧ a < 16 ^ (min i 16) ∧ b < 16 ^ (i - 16) ∧ ptG ((nums s).drop i) i a b = ptG (nums s) 0 0 0 ∧ Below w.heap.size w wr ∧ Bk wr w.heap.size 24 #[.int .u64 0, .int .u64 0] ∧ Bk wr q 74 #[.int .u64 (a : Nat), .int .u64 (b : Nat)]) (fun i _ => 32 - (intOf i).toNat)
  case atStart => exact ⟨0, 0, 0, by omega, rfl, by simp, by simp, rfl, HB2.out.1, HB2.out.2.1, HB2.out.2.2⟩
  case round =>
    obtain ⟨i, a, b, hi, rfl, ha, hbb, hpt, hb, bk, bq⟩ := hrel
    have HPT := Lib.hid hpt
    clear HB2 hpt
    by_cases hlt : i < 32
    · have hlt' : (i : Int) < 32 := by omega
      have his : i < s.size := by omega
      obtain ⟨c, hc⟩ : ∃ c : Int, c = ((s[i]'his).toNat : Int) := ⟨_, rfl⟩
      have hcc : ((s[i]'his).toNat : Int) = c := hc.symm
      have HC : Hid ((nums s)[i]? = some c) := by rw [hc]; exact nums_get his
      have hcb := (nums_byt s).get HC.out
      clear hc
      have hib := fun W => Try.strings_IndexByte ⟨#[48, 49, 50, 51, 52, 53, 54, 55, 56, 57, 97, 98, 99, 100, 101, 102]⟩ c W
      rw [hexV_index c hcb.1 hcb.2] at hib
      have hstep := ptG_drop (a := a) (b := b) HC.out
      rw [HPT.out] at hstep
      obtain ⟨v, hv⟩ : ∃ v, hexV c = v := ⟨_, rfl⟩
      have hvr := hexV_rng c
      rw [hv] at hib hstep hvr
      have HIB := Lib.hid hib
      have HST := Lib.hid hstep
      clear hib hstep hv
      by_cases hv0 : v < 0
      · have hr : r = (0, 0, 2) := by
          have := HST.out
          rw [if_pos hv0] at this
          rw [← HR.out, ptOf, if_neg (by omega), this]
        subst hr
        go_wp2_with (first
          | (go_at_call 48; refine (HIB.out _).mono ?_; rintro en w' ⟨rfl, hw⟩; rw [hw]; clear hw w')
          | (refine wpList_store_row rfl 24 (.tmp 2) (.tmp 22) rfl w.heap.size #[.int .u64 0, .int .u64 0] rfl rfl 24 #[.int .u64 0, .int .u64 0] bk (by rfl) rfl (by simp [Value.oneCell']) ?_))
        try simp only [Exit.inBlock, Exit.then]
        refine bodyPost_ret (resCellTmp rfl _ _ w.heap.size 24 #[.int .u64 0, .int .u64 0] _ rfl (bk.rowT _) Try.underlying24 rfl (by rfl)) rfl ?_
        exact ⟨rfl, hb.trans (below_rowT wr (Nat.le_refl _) _)⟩
      · have hv0' : decide (v < 0) = false := by simp; omega
        obtain ⟨dd, rfl⟩ : ∃ dd : Nat, v = dd := ⟨v.toNat, by omega⟩
        by_cases hi16 : i < 16
        · have hdiv : (i : Int) / 16 = 0 := by omega
          have hdivn : i / 16 = 0 := by omega
          have kq : wr.cell? ⟨q, 0, none⟩ = some (.int .u64 (a : Nat)) := bq.cell 0
          have fq : wr.frozen? ⟨q, 0, none⟩ = false := bq.frozen 0
          have hvb : a < 1152921504606846976 := Nat.lt_of_lt_of_le ha (show _ ≤ 16 ^ 15 from Nat.pow_le_pow_right (by omega) (by omega))
          obtain ⟨y, hy⟩ : ∃ y : Nat, a * 16 + dd = y := ⟨_, rfl⟩
          have hor : bits .or .u64 ((a : Int) * 16) (dd : Int) = (y : Int) := by
            have := or_nib a dd hvb (by omega)
            rw [hy] at this
            rw [← this]
            rfl
          have hwrap : IntKind.u64.wrap ((a : Int) * 16) = (a : Int) * 16 := IntWalk.u64_in _ ⟨by omega, by omega⟩
          have hyb : y < 16 ^ (min (i + 1) 16) := by
            have e : min (i + 1) 16 = min i 16 + 1 := by omega
            rw [e, Nat.pow_succ]
            omega
          have b2 := bq.set 0 (.int .u64 (y : Nat))
          have bk2 := bk.far (p := ⟨q, 0, none⟩) hqg (.int .u64 (y : Nat))
          have hb2 := hb.setCell (p := ⟨q, 0, none⟩) hqle (.int .u64 (y : Nat))
          have hst := HST.out
          rw [if_neg hv0, if_pos hi16, Int.toNat_natCast, hy] at hst
          have HST2 := Lib.hid hst
          have HYB := Lib.hid hyb
          clear hst HST hy hyb hvb hqle
          go_wp2_with (go_at_call 48; refine (HIB.out _).mono ?_; rintro en w' ⟨rfl, hw⟩; rw [hw]; clear hw w')
          go_roundw
          case rel => exact ⟨i + 1, y, b, by omega, by go_num, HYB.out, by rw [show i + 1 - 16 = i - 16 from by omega]; exact hbb, HST2.out.symm, hb2, bk2, b2⟩
          case measure => simp [intOf]; omega
        · have hdiv : (i : Int) / 16 = 1 := by omega
          have hdivn : i / 16 = 1 := by omega
          have kq : wr.cell? ⟨q, 1, none⟩ = some (.int .u64 (b : Nat)) := bq.cell 1
          have fq : wr.frozen? ⟨q, 1, none⟩ = false := bq.frozen 1
          have hvb : b < 1152921504606846976 := Nat.lt_of_lt_of_le hbb (show _ ≤ 16 ^ 15 from Nat.pow_le_pow_right (by omega) (by omega))
          obtain ⟨y, hy⟩ : ∃ y : Nat, b * 16 + dd = y := ⟨_, rfl⟩
          have hor : bits .or .u64 ((b : Int) * 16) (dd : Int) = (y : Int) := by
            have := or_nib b dd hvb (by omega)
            rw [hy] at this
            rw [← this]
            rfl
          have hwrap : IntKind.u64.wrap ((b : Int) * 16) = (b : Int) * 16 := IntWalk.u64_in _ ⟨by omega, by omega⟩
          have hyb : y < 16 ^ (i + 1 - 16) := by
            have e : i + 1 - 16 = i - 16 + 1 := by omega
            rw [e, Nat.pow_succ]
            omega
          have b2 := bq.set 1 (.int .u64 (y : Nat))
          have bk2 := bk.far (p := ⟨q, 1, none⟩) hqg (.int .u64 (y : Nat))
          have hb2 := hb.setCell (p := ⟨q, 1, none⟩) hqle (.int .u64 (y : Nat))
          have hst := HST.out
          rw [if_neg hv0, if_neg hi16, Int.toNat_natCast, hy] at hst
          have HST2 := Lib.hid hst
          have HYB := Lib.hid hyb
          clear hst HST hy hyb hvb hqle
          go_wp2_with (go_at_call 48; refine (HIB.out _).mono ?_; rintro en w' ⟨rfl, hw⟩; rw [hw]; clear hw w')
          go_roundw
          case rel => exact ⟨i + 1, a, y, by omega, by go_num, by rw [show min (i + 1) 16 = min i 16 from by omega]; exact ha, HYB.out, HST2.out.symm, hb2, bk2, b2⟩
          case measure => simp [intOf]; omega
    · have hlt' : decide ((i : Int) < 32) = false := by simp; omega
      obtain rfl : i = 32 := by omega
      have hpt := HPT.out
      rw [List.drop_eq_nil_of_le (by rw [nums_len]; omega), ptG] at hpt
      have hr := HR.out
      rw [ptOf, if_neg (by omega), ← hpt] at hr
      simp only at hr
      have kq0 : wr.cell? ⟨q, 0, none⟩ = some (.int .u64 (a : Nat)) := bq.cell 0
      have kq1 : wr.cell? ⟨q, 1, none⟩ = some (.int .u64 (b : Nat)) := bq.cell 1
      have hea := fun W => eqArr2 (a : Int) (b : Int) 0 0 W
      by_cases hz : a = 0 ∧ b = 0
      · rw [if_pos hz] at hr
        obtain ⟨rfl, rfl⟩ := hz
        subst hr
        clear hpt
        have hea0 := fun W => eqArr2 0 0 0 0 W
        go_wp2_with (refine wpList_store_row rfl 24 (.tmp 2) (.tmp 38) rfl w.heap.size #[.int .u64 0, .int .u64 0] rfl rfl 24 #[.int .u64 0, .int .u64 0] bk (by rfl) rfl (by simp [Value.oneCell']) ?_)
        try simp only [Exit.inBlock, Exit.then]
        refine bodyPost_ret (resCellTmp rfl _ _ w.heap.size 24 #[.int .u64 0, .int .u64 0] _ rfl (bk.rowT _) Try.underlying24 rfl (by rfl)) rfl ?_
        exact ⟨rfl, hb.trans (below_rowT wr (Nat.le_refl _) _)⟩
      · rw [if_neg hz] at hr
        subst hr
        clear hpt
        have hz' : ((a : Int) == 0 && (b : Int) == 0) = false := by
          rw [Bool.and_eq_false_iff, beq_eq_false_iff_ne, beq_eq_false_iff_ne]
          omega
        rw [hz'] at hea
        go_wp2_with (refine wpList_store_row rfl 24 (.tmp 2) (.tmp 43) rfl w.heap.size #[.int .u64 (a : Nat), .int .u64 (b : Nat)] rfl rfl 24 #[.int .u64 0, .int .u64 0] bk (by rfl) rfl (by simp [Value.oneCell']) ?_)
        all_goals
          try simp only [Exit.inBlock, Exit.then]
          refine bodyPost_ret (resCellTmp rfl _ _ w.heap.size 24 #[.int .u64 (a : Nat), .int .u64 (b : Nat)] _ rfl (bk.rowT _) Try.underlying24 rfl (by rfl)) rfl ?_
          exact ⟨rfl, hb.trans (below_rowT wr (Nat.le_refl _) _)⟩
end Go.Proofs.Ytohnpogoldbplaa

/- Rows of spans of the call's own: append; span.Order. -/
namespace Go.Proofs.Ytohnpogoldbplaa
open Go.RowKit
attribute [local go_sem ↓] loadK_shut

theorem spinfo : (Try.prog.info? 27).map (fun i => (i.zero, i.size, i.bytes)) = some (some (.agg zspC), 11, 120) := by kernel_rfl
/-- append of spans. -/
theorem wpList_appS (w : World) {ops : Array Oper} {rest : List Oper} {o : Oper} {a : Act} {Q : Exit → Act → World → Prop} (hgd : o.guard = none) (s x : Operand)
    (ho : o.op = .call { callee := .builtin .append, args := #[s, x], argTypes := #[52, 52] })
    (base : Nat) (v : Value) (n : Nat) (l : List El) (hs : a.eval s = v) (hown : w.ownsRow base 27 11 v n (els l))
    (B : Nat) (A : Option Addr) (m c : Nat) (news : List El) (hx : a.eval x = .slice A m c) (hl : news.length = m) (hr : Rd w B A (els news))
    (hbytes : n + m ≤ 1048576) (hbase : base ≤ w.heap.size)
    (h : ∀ A' c' w', App base 27 11 w v w' (.slice A' (n + m) c') (n + m) (els (l ++ news)) → (A' = none → v = .slice none 0 0 ∧ m = 0) → wpList Try.prog ops Q rest (a.put o.dst (.slice A' (n + m) c')) w') :
    wpList Try.prog ops Q (o :: rest) a w := by
  obtain ⟨i0, hi0, hz0, hz1, hz2⟩ := info_parts spinfo
  refine wpList_app w hgd s x _ ho base 27 i0 _ 11 120 Try.underlying52 hi0 hz0 hz1 hz2 rfl (by omega) v n (els l) hs hown B A m c (els news) hx (by rw [els_length]; omega) hr (els_one news) (by simp only [maxLen]; omega) (by omega) hbase ?_
  intro A' c' w' h1 h2 h3 h4
  rw [← els_append] at h1
  exact h A' c' w' ((App.refl hown).step h1 h2 h3) h4

theorem RowS.app {w w' : World} {base j : Nat} {v v' : Value} {l es : List El} (h : RowS w base v j l) (hap : App base 27 11 w v w' v' (j + es.length) (els (l ++ es)))
    (hes : ∀ e ∈ es, ElOk w w.heap.size e) (hfe : ∀ e ∈ es, e.s.tags ≠ [] → ∀ a, e.A = some a → v.ownBlock ≠ some a.block) : RowS w' base v' (j + es.length) (l ++ es) := by
  have hall : ∀ e ∈ l ++ es, ElOk w w.heap.size e ∧ (e.s.tags ≠ [] → ∀ a, e.A = some a → v.ownBlock ≠ some a.block) := fun e he => by
    rcases List.mem_append.1 he with he | he
    · exact ⟨h.ok e he, h.far e he⟩
    · exact ⟨hes e he, hfe e he⟩
  refine ⟨hap.own, by simp [h.len], fun e he => ?_, fun e he ht a ha => ?_⟩
  · obtain ⟨h1, h2⟩ := hall e he
    refine ⟨?_, h1.len, h1.max⟩
    by_cases ht : e.s.tags = []
    · rw [ht]
      exact Rd.nil
    · exact h1.rd.grownS hap.grown fun a ha => h2 ht a ha
  · obtain ⟨h1, h2⟩ := hall e he
    rcases hap.block with hb | ⟨k, hb, hk⟩
    · rw [hb]
      exact h2 ht a ha
    · rw [hb]
      intro e1
      have e2 := Option.some.inj e1
      obtain ⟨b, o, hA, hlt, _⟩ := h1.rd (by intro e0; have := tgs_length e.s.tags; rw [e0] at this; exact ht (List.eq_nil_of_length_eq_zero (by simp at this; omega)))
      rw [ha] at hA
      have e3 := Option.some.inj hA
      subst e3
      simp only at e2
      omega
theorem RowS.bS {w w' : World} {base n : Nat} {v : Value} {l : List El} (h : RowS w base v n l) (hb : Below w.heap.size w w') : RowS w' base v n l :=
  ⟨((App.refl h.own).later hb).own, h.len, fun e he => ((h.ok e he).below hb).more hb.size, h.far⟩
theorem RowS.own_lt {w : World} {base n : Nat} {v : Value} {l : List El} (h : RowS w base v n l) : ∀ k, v.ownBlock = some k → k < w.heap.size ∧ base ≤ k := fun k hk => by
  rcases h.own.2 with ⟨h1, _⟩ | ⟨g, cap, cur, h1, hbase, hb, _⟩
  · rw [h1] at hk
    cases hk
  · rw [h1] at hk
    have e := Option.some.inj hk
    simp only at e
    subst e
    exact ⟨(Array.getElem?_eq_some_iff.1 hb).1, hbase⟩
theorem RowS.nil (w : World) (base : Nat) : RowS w base (.slice none 0 0) 0 [] := ⟨World.ownsRow_nil _ _ _ _, rfl, fun _ h => absurd h (by simp), fun _ h => absurd h (by simp)⟩
theorem RowS.rbs {w : World} {base n c : Nat} {A : Option Addr} {l : List El} (h : RowS w base (.slice A n c) n l) : RbS w w.heap.size A l := ⟨Rd.of_own h.own, h.ok⟩
theorem sps_append (a b : List El) : sps (a ++ b) = sps a ++ sps b := by simp [sps]
theorem els_single (e : El) : els [e] = elC e := by simp [els]
theorem rd_span {w : World} {g : Nat} (hg : w.heap.size = g) (e : El) : Rd (w.alloc (.cells (spC e.s e.A e.n e.c) 27)) (g + 1) (some ⟨g, 0, none⟩) (els [e]) := by
  rw [els_single]
  exact Rd.lit' hg

/-- A slice of spans of the call's own, in the order l tells. -/
def OutPost (w : World) (n : Nat) (ss : List Sp) (e : Ending) (w' : World) : Prop :=
  ∃ A' c' l', e = .returned (.slice A' n c') ∧ sps l' = ss ∧ RowS w' w.heap.size (.slice A' n c') n l' ∧ Below w.heap.size w w'
set_option maxRecDepth 100000 in
set_option maxHeartbeats 2000000 in
theorem spOrder {A : Option Addr} {c n B : Nat} {l : List El} (w : World) (hf : RbS w B A l) (hn : l.length = n) (hB : B ≤ w.heap.size) (hnl : n ≤ 1000000) (hsm : ∀ e ∈ l, e.n ≤ 1000000) :
    Calls Try.prog 32 #[.slice A n c] w (OutPost w n (ordS (sps l))) := by
  have HN := Lib.hid hn
  have HSM := Lib.hid hsm
  clear hn hsm
  go_enter Try.func32, Try.ntmps32
  go_wp2
  go_loopw [3, 8] (fun v iv_ wr => ∃ (j : Nat) (A' : Option Addr) (c' : Nat) (l' : List El), j ≤ n ∧ v = .slice A' j c' ∧ iv_ = .int .i64 j ∧ sps l' = sps (l.take j) ∧ RowS wr w.heap.size (.slice A' j c') j l' ∧ Below w.heap.size w wr) (fun _ i _ => n - (intOf i).toNat)
  case atStart => exact ⟨0, none, 0, [], by omega, rfl, rfl, rfl, RowS.nil _ _, Below.refl _ _⟩
  case round =>
    obtain ⟨j, A', c', l', hj, rfl, rfl, hl', hrow, hb⟩ := hrel
    have HL := Lib.hid hl'
    clear hl'
    by_cases hlt : j < n
    · have hlt' : (j : Int) < (n : Int) := by omega
      obtain ⟨x, hx⟩ : ∃ x, l[j]? = some x := ⟨_, List.getElem?_eq_getElem (by rw [HN.out]; exact hlt)⟩
      obtain ⟨b, o, rfl, hbb, hc, hok⟩ := (hf.below (hb.mono hB)).get hx
      have hld := loadK_el hc
      have hxn := HSM.out x (List.mem_of_getElem? hx)
      have HX := Lib.hid hx
      have hln := hok.len
      have hbw := hb.size
      have hb1 : Below wr.heap.size wr (wr.alloc (.cells (spC x.s x.A x.n x.c) 27)) := (Below.refl _ wr).alloc (Nat.le_refl _) _
      have bk1 := Bk.new wr 27 (spC x.s x.A x.n x.c)
      have hld1 := loadK_sp bk1
      have hrow1 := hrow.bS hb1
      have hok1 := (hok.below (hb1.mono (Nat.le_trans hB hbw)))
      have hcp := spCopy (c := x.c) x.s _ hok1.rd hok1.len (Nat.le_trans (Nat.le_trans hB hbw) hb1.size) (by omega)
      have HCP := Lib.hid hcp
      have hbW := hb.trans (hb1.mono hbw)
      clear hc hcp hok hok1 hb1 bk1
      go_wp2_with (go_at_call 30; refine HCP.out.mono ?_)
      rintro e w2 ⟨A2, c2, rfl, hr2, hb2, hc2, hlo2, hnil2⟩
      have hrow2 := hrow1.bS hb2
      obtain ⟨el, hel⟩ : ∃ el : El, el = ⟨x.s, A2, x.n, c2⟩ := ⟨_, rfl⟩
      have hb3 : Below w2.heap.size w2 (w2.alloc (.cells (spC x.s A2 x.n c2) 27)) := (Below.refl _ w2).alloc (Nat.le_refl _) _
      have hrow3 := hrow2.bS hb3
      have hek : ElOk (w2.alloc (.cells (spC x.s A2 x.n c2) 27)) (w2.alloc (.cells (spC x.s A2 x.n c2) 27)).heap.size ⟨x.s, A2, x.n, c2⟩ := ⟨Rd.belowS hr2 hb3, hln, by show x.n ≤ _; omega⟩
      have hrd := rd_span (w := w2) rfl ⟨x.s, A2, x.n, c2⟩
      have hbw2 : w.heap.size ≤ w2.heap.size := Nat.le_trans hbW.size hb2.size
      have hbase : w.heap.size ≤ (w2.alloc (.cells (spC x.s A2 x.n c2) 27)).heap.size := Nat.le_trans hbw2 hb3.size
      have hbX := (hbW.trans (hb2.mono hbW.size)).trans (hb3.mono hbw2)
      have hlo3 : ∀ a, A2 = some a → w.heap.size ≤ a.block := fun a ha => Nat.le_trans hbW.size (hlo2 a ha)
      have hown : ∀ k, (Value.slice A' j c').ownBlock = some k → k < wr.heap.size ∧ w.heap.size ≤ k := hrow.own_lt
      clear hrow1 hrow2 hld1
      go_wp2_with (at_builtin; go_loud (refine wpList_appS _ rfl (.tmp 12) (.tmp 15) rfl w.heap.size _ j l' rfl hrow3.own _ _ 1 1 [⟨x.s, A2, x.n, c2⟩] rfl rfl hrd (by omega) hbase ?_))
      intro A3 c3 w3 hap _
      have hrow4 := hrow3.app (es := [⟨x.s, A2, x.n, c2⟩]) hap (by simpa using hek) (fun e he _ a ha => by
        obtain rfl : e = _ := by simpa using he
        intro e1
        have h1 := (hown _ e1).1
        have h2 := hlo2 a ha
        have h3 : wr.heap.size < (wr.alloc (.cells (spC x.s x.A x.n x.c) 27)).heap.size := by simp
        omega)
      go_wp2
      go_roundw
      case rel =>
        refine ⟨j + 1, A3, c3, l' ++ [⟨x.s, A2, x.n, c2⟩], by omega, rfl, by go_num, ?_, hrow4, ?_⟩
        · rw [take_snoc HX.out, sps_append, sps_append, HL.out]
          rfl
        · exact hbX.trans (hap.below hbase (fun k hk => (hown k hk).2))
      case measure => simp [intOf]; omega
    · have hlt' : decide ((j : Int) < (n : Int)) = false := by simp; omega
      obtain rfl : j = n := by omega
      have hs := sortSpans wr hrow (by omega)
      have HS := Lib.hid hs
      clear hs
      go_wp2_with (go_at_call 71; refine HS.out.mono ?_; rintro e w' ⟨rfl, l2, hl2, hrow2, hgr⟩)
      go_ret
      refine ⟨A', c', l2, rfl, ?_, hrow2, ?_⟩
      · rw [hl2, HL.out, List.take_of_length_le (by rw [HN.out]; omega)]
      · refine hb.trans ?_
        exact ⟨hgr.os, hgr.tape, hgr.output, hgr.size, fun i hi => hgr.block i (Nat.lt_of_lt_of_le hi hb.size) (fun e => by have := (hrow.own_lt _ e.symm).2; omega)⟩
end Go.Proofs.Ytohnpogoldbplaa
