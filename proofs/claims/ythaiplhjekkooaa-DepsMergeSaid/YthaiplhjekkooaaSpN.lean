/- Spans: the order of spans is one: plain laws. -/
import Derived.Test.YthaiplhjekkooaaSpPl
namespace Go.Proofs.Ythaiplhjekkooaa
open Go.RowKit

/-- A comparison that tells apart, and is in order. -/
structure Cmp {α : Type} (f : α → α → Int) : Prop where
  rng : ∀ a b, f a b = -1 ∨ f a b = 0 ∨ f a b = 1
  eq : ∀ a b, f a b = 0 ↔ a = b
  neg : ∀ a b, f b a = - f a b
  tr : ∀ a b c, f a b = -1 → f b c = -1 → f a c = -1
theorem Cmp.lex {α β : Type} {f : α → α → Int} {g : β → β → Int} (F : Cmp f) (G : Cmp g) : Cmp (fun (a b : α × β) => if f a.1 b.1 ≠ 0 then f a.1 b.1 else g a.2 b.2) := by
  refine ⟨fun a b => ?_, fun a b => ?_, fun a b => ?_, fun a b c => ?_⟩
  · by_cases h : f a.1 b.1 = 0
    · simp only [h]; simpa using G.rng a.2 b.2
    · rw [if_pos h]; exact F.rng a.1 b.1
  · by_cases h : f a.1 b.1 = 0
    · have h1 := (F.eq a.1 b.1).1 h
      simp only [h, ne_eq, not_true_eq_false, if_false]
      rw [G.eq]
      exact ⟨fun h2 => Prod.ext h1 h2, fun h2 => by rw [h2]⟩
    · simp only [h, ne_eq, not_false_eq_true, if_true, false_iff]
      rintro rfl
      exact h ((F.eq _ _).2 rfl)
  · by_cases h : f a.1 b.1 = 0
    · have h1 : f b.1 a.1 = 0 := by rw [F.neg, h]; rfl
      simp only [h, h1, ne_eq, not_true_eq_false, if_false]
      exact G.neg _ _
    · have h1 : f b.1 a.1 ≠ 0 := by rw [F.neg]; omega
      simp only [h, h1, ne_eq, not_false_eq_true, if_true]
      exact F.neg _ _
  · intro h1 h2
    by_cases e1 : f a.1 b.1 = 0
    · have q1 := (F.eq _ _).1 e1
      rw [if_neg (by simp [e1])] at h1
      by_cases e2 : f b.1 c.1 = 0
      · rw [if_neg (by simp [e2])] at h2
        rw [if_neg (by rw [q1, e2]; simp)]
        exact G.tr _ _ _ h1 h2
      · rw [if_pos e2] at h2
        rw [if_pos (by rw [q1]; exact e2), q1]
        exact h2
    · rw [if_pos e1] at h1
      by_cases e2 : f b.1 c.1 = 0
      · have q2 := (F.eq _ _).1 e2
        rw [if_pos (by rw [← q2]; exact e1), ← q2]
        exact h1
      · rw [if_pos e2] at h2
        have := F.tr _ _ _ h1 h2
        rw [if_pos (by omega)]
        exact this
theorem Cmp.pull {α γ : Type} {f : α → α → Int} (F : Cmp f) (h : γ → α) (hi : ∀ x y, h x = h y → x = y) : Cmp (fun x y => f (h x) (h y)) :=
  ⟨fun _ _ => F.rng _ _, fun x y => (F.eq _ _).trans ⟨hi x y, fun e => by rw [e]⟩, fun _ _ => F.neg _ _, fun _ _ _ => F.tr _ _ _⟩
theorem cmpI_cmp : Cmp cmpI := by
  have key : ∀ a b : Int, (cmpI a b = -1 ∧ a < b) ∨ (cmpI a b = 0 ∧ a = b) ∨ (cmpI a b = 1 ∧ b < a) := fun a b => by
    unfold cmpI
    by_cases h1 : a < b
    · rw [if_pos h1]; omega
    · rw [if_neg h1]
      by_cases h2 : b < a
      · rw [if_pos h2]; omega
      · rw [if_neg h2]; omega
  refine ⟨fun a b => ?_, fun a b => ?_, fun a b => ?_, fun a b c h1 h2 => ?_⟩
  · have := key a b; omega
  · have := key a b
    constructor <;> intro h <;> omega
  · have := key a b
    have := key b a
    omega
  · have := key a b
    have := key b c
    have := key a c
    omega
theorem strLt_ltb (s t : ByteArray) : strLt s t = ltb (nums s) (nums t) := by
  have := ltb_str (nums_byt s) (nums_byt t)
  rw [strOf_nums, strOf_nums] at this
  exact this
theorem ltb_irr : ∀ (a : List Int), ltb a a = false
  | [] => rfl
  | x :: a => by rw [ltb, ltb_irr a]; simp
theorem ltb_tr : ∀ (a b c : List Int), ltb a b = true → ltb b c = true → ltb a c = true
  | a, [], _, h, _ => by simp [ltb] at h
  | _, y :: b, [], _, h => by simp [ltb] at h
  | [], _ :: _, _ :: _, _, _ => rfl
  | x :: a, y :: b, z :: c, h1, h2 => by
    simp only [ltb, Bool.or_eq_true, Bool.and_eq_true, decide_eq_true_eq] at h1 h2 ⊢
    rcases h1 with h1 | ⟨h1, h1'⟩
    · rcases h2 with h2 | ⟨h2, _⟩ <;> exact .inl (by omega)
    · rcases h2 with h2 | ⟨h2, h2'⟩
      · exact .inl (by omega)
      · exact .inr ⟨by omega, ltb_tr a b c h1' h2'⟩
theorem ltb_tri : ∀ (a b : List Int), ltb a b = false → ltb b a = false → a = b
  | [], [], _, _ => rfl
  | [], _ :: _, h, _ => by cases h
  | _ :: _, [], _, h => by cases h
  | x :: a, y :: b, h1, h2 => by
    simp only [ltb, Bool.or_eq_false_iff, Bool.and_eq_false_iff, decide_eq_false_iff_not] at h1 h2
    have hxy : x = y := by omega
    subst hxy
    rw [ltb_tri a b (by rcases h1.2 with h | h; · exact absurd rfl h
                        · exact h) (by rcases h2.2 with h | h; · exact absurd rfl h
                                       · exact h)]
theorem cmpS_cmp : Cmp cmpS := by
  have asym : ∀ s t, strLt s t = true → strLt t s = false := fun s t h => by
    cases h2 : strLt t s with
    | false => rfl
    | true =>
      rw [strLt_ltb] at h h2
      have := ltb_tr _ _ _ h h2
      rw [ltb_irr] at this
      cases this
  have irr : ∀ s, strLt s s = false := fun s => by rw [strLt_ltb, ltb_irr]
  have tri : ∀ s t, strLt s t = false → s ≠ t → strLt t s = true := fun s t h hne => by
    cases h2 : strLt t s with
    | true => rfl
    | false =>
      rw [strLt_ltb] at h h2
      exact absurd (nums_inj (ltb_tri _ _ h h2)) hne
  refine ⟨fun a b => ?_, fun a b => ?_, fun a b => ?_, fun a b c => ?_⟩
  · unfold cmpS; split
    · simp
    · split <;> simp
  · unfold cmpS
    cases h : strLt a b with
    | true =>
      simp
      rintro rfl
      rw [irr] at h
      cases h
    | false => simp
  · by_cases he : a = b
    · subst he
      unfold cmpS
      rw [irr]; simp
    · cases h : strLt a b with
      | true =>
        have h2 := asym _ _ h
        unfold cmpS
        rw [h, h2, if_neg (by simp), if_neg (fun e => he e.symm), if_pos rfl]
        rfl
      | false =>
        have h2 := tri _ _ h he
        unfold cmpS
        rw [h, h2, if_pos rfl, if_neg (by simp), if_neg he]
  · unfold cmpS
    intro h1 h2
    have k1 : strLt a b = true := by
      cases h : strLt a b with
      | true => rfl
      | false => rw [h] at h1; simp at h1; split at h1 <;> cases h1
    have k2 : strLt b c = true := by
      cases h : strLt b c with
      | true => rfl
      | false => rw [h] at h2; simp at h2; split at h2 <;> cases h2
    have k3 : strLt a c = true := by
      rw [strLt_ltb] at k1 k2 ⊢
      exact ltb_tr _ _ _ k1 k2
    rw [k3]; rfl
theorem orL2 (x y : Int) : orL [x, y] = if x ≠ 0 then x else y := by
  simp only [orL]
  by_cases h : x = 0
  · by_cases h2 : y = 0
    · simp [h, h2]
    · simp [h, h2]
  · simp [h]
theorem cmpTg_cmp : Cmp cmpTg := by
  have := (cmpS_cmp.lex cmpS_cmp).pull (fun t : Tg => (t.key, t.val)) (fun x y h => by cases x; cases y; simp at h; simp [h])
  have e : cmpTg = fun x y : Tg => if cmpS x.key y.key ≠ 0 then cmpS x.key y.key else cmpS x.val y.val := by
    funext x y
    rw [cmpTg, orL2]
  rw [e]
  exact this
theorem cmpTL_cmp : Cmp cmpTL := by
  have F := cmpTg_cmp
  refine ⟨fun a => ?_, fun a => ?_, fun a => ?_, fun a => ?_⟩
  · induction a with
    | nil => intro b; cases b <;> simp [cmpTL]
    | cons x a ih =>
      intro b
      cases b with
      | nil => simp [cmpTL]
      | cons y b =>
        rw [cmpTL]
        by_cases h : cmpTg x y = 0
        · rw [if_neg (by simp [h])]; exact ih b
        · rw [if_pos h]; exact F.rng x y
  · induction a with
    | nil => intro b; cases b <;> simp [cmpTL]
    | cons x a ih =>
      intro b
      cases b with
      | nil => simp [cmpTL]
      | cons y b =>
        rw [cmpTL]
        by_cases h : cmpTg x y = 0
        · rw [if_neg (by simp [h]), ih b, (F.eq _ _).1 h]; simp
        · rw [if_pos h]
          refine ⟨fun e => absurd e h, fun e => ?_⟩
          injection e with e1 e2
          exact (F.eq _ _).2 e1
  · induction a with
    | nil => intro b; cases b <;> simp [cmpTL]
    | cons x a ih =>
      intro b
      cases b with
      | nil => simp [cmpTL]
      | cons y b =>
        rw [cmpTL, cmpTL]
        have hn := F.neg x y
        by_cases h : cmpTg x y = 0
        · rw [if_neg (by omega), if_neg (by simp [h])]; exact ih b
        · rw [if_pos (by omega), if_pos h]; exact hn
  · induction a with
    | nil =>
      intro b c h1 h2
      cases b with
      | nil => simp [cmpTL] at h1
      | cons y b =>
        cases c with
        | nil => simp [cmpTL] at h2
        | cons z c => rfl
    | cons x a ih =>
      intro b c h1 h2
      cases b with
      | nil => simp [cmpTL] at h1
      | cons y b =>
        cases c with
        | nil => simp [cmpTL] at h2
        | cons z c =>
          rw [cmpTL] at h1 h2 ⊢
          by_cases e1 : cmpTg x y = 0
          · have q1 := (F.eq _ _).1 e1
            rw [if_neg (by simp [e1])] at h1
            by_cases e2 : cmpTg y z = 0
            · rw [if_neg (by simp [e2])] at h2
              rw [if_neg (by rw [q1, e2]; simp)]
              exact ih b c h1 h2
            · rw [if_pos e2] at h2
              rw [if_pos (by rw [q1]; exact e2), q1]
              exact h2
          · rw [if_pos e1] at h1
            by_cases e2 : cmpTg y z = 0
            · have q2 := (F.eq _ _).1 e2
              rw [if_pos (by rw [← q2]; exact e1), ← q2]
              exact h1
            · rw [if_pos e2] at h2
              have := F.tr _ _ _ h1 h2
              rw [if_pos (by omega)]
              exact this
theorem Cmp.of_eq {α : Type} {f g : α → α → Int} (F : Cmp f) (h : ∀ a b, g a b = f a b) : Cmp g := by
  have e : g = f := by funext a b; exact h a b
  rw [e]; exact F
theorem cmpNat_cmp : Cmp (fun x y : Nat => cmpI (x : Int) (y : Int)) := cmpI_cmp.pull (fun x : Nat => (x : Int)) (fun x y h => by omega)
theorem cmpBool_cmp : Cmp (fun x y : Bool => cmpI (if x = true then 1 else 0) (if y = true then 1 else 0)) := cmpI_cmp.pull (fun x : Bool => if x = true then (1 : Int) else 0) (fun x y h => by cases x <;> cases y <;> simp at h <;> rfl)
def spTup (s : Sp) : (Nat × Nat) × Nat × Nat × Int × Int × ByteArray × ByteArray × Int × Bool × List Tg := ((s.hi, s.lo), s.id, s.parent, s.start, s.length, s.service, s.name, s.kind, s.fails, s.tags)
theorem orL1 (x : Int) : orL [x] = x := by
  simp only [orL]
  by_cases h : x = 0
  · simp [h]
  · simp [h]
theorem orL_cons (x y : Int) (l : List Int) : orL (x :: y :: l) = if x ≠ 0 then x else orL (y :: l) := rfl
/-- The order of spans is one: it tells spans apart, the other way round it is the opposite, and it goes on over a third. -/
theorem spCmp_cmp : Cmp spCmp := by
  have C := ((cmpNat_cmp.lex cmpNat_cmp).lex (cmpNat_cmp.lex (cmpNat_cmp.lex (cmpI_cmp.lex (cmpI_cmp.lex (cmpS_cmp.lex (cmpS_cmp.lex (cmpI_cmp.lex (cmpBool_cmp.lex cmpTL_cmp))))))))).pull spTup (fun x y h => by
    cases x; cases y
    simp only [spTup, Prod.mk.injEq] at h
    obtain ⟨⟨h1, h2⟩, h3, h4, h5, h6, h7, h8, h9, h10, h11⟩ := h
    subst h1 h2 h3 h4 h5 h6 h7 h8 h9 h10 h11
    rfl)
  refine C.of_eq fun a b => ?_
  rw [spCmp, orL_cons, orL_cons, orL_cons, orL_cons, orL_cons, orL_cons, orL_cons, orL_cons, orL_cons, orL1, cmpTr, orL2]
  rfl
end Go.Proofs.Ythaiplhjekkooaa
