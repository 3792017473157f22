/- Texts of the proof of AdjustTreeSaid, joined: SpPl SpN Byt Kit WireM WireNum WireM2 Rdr. -/
import Derived.Test.YtchpekidnbdpdaaJAdjustTree1
import Derived.Test.YtchpekidnbdpdaaProg
import Derived.Lib.SliceRun
import Derived.WalkMore
/- The order of spans, plain. -/
namespace Go.Proofs.Ytchpekidnbdpdaa
open Go.RowKit

/-- The first that is not nought. -/
def orL : List Int → Int
  | [] => 0
  | x :: l => if x ≠ 0 then x else orL l
theorem orL_drop {l : List Int} {j : Nat} {x : Int} (h : l[j]? = some x) : orL (l.drop j) = if x ≠ 0 then x else orL (l.drop (j + 1)) := by
  have hl := (List.getElem?_eq_some_iff.1 h).1
  rw [List.drop_eq_getElem_cons hl, (List.getElem?_eq_some_iff.1 h).2, orL]
def cmpTr (h1 l1 h2 l2 : Int) : Int := orL [cmpI h1 h2, cmpI l1 l2]
def cmpTg (a b : Tg) : Int := orL [cmpS a.key b.key, cmpS a.val b.val]
/-- Two lists of tags. -/
def cmpTL : List Tg → List Tg → Int
  | [], [] => 0
  | [], _ :: _ => -1
  | _ :: _, [] => 1
  | a :: la, b :: lb => if cmpTg a b ≠ 0 then cmpTg a b else cmpTL la lb
theorem cmpTL_step {la lb : List Tg} {j : Nat} {a b : Tg} (ha : la[j]? = some a) (hb : lb[j]? = some b) : cmpTL (la.drop j) (lb.drop j) = if cmpTg a b ≠ 0 then cmpTg a b else cmpTL (la.drop (j + 1)) (lb.drop (j + 1)) := by
  have h1 := (List.getElem?_eq_some_iff.1 ha).1
  have h2 := (List.getElem?_eq_some_iff.1 hb).1
  rw [List.drop_eq_getElem_cons h1, List.drop_eq_getElem_cons h2, (List.getElem?_eq_some_iff.1 ha).2, (List.getElem?_eq_some_iff.1 hb).2, cmpTL]
/-- What Compare tells. -/
def spCmp (a b : Sp) : Int := orL [cmpTr a.hi a.lo b.hi b.lo, cmpI a.id b.id, cmpI a.parent b.parent, cmpI a.start b.start, cmpI a.length b.length, cmpS a.service b.service, cmpS a.name b.name, cmpI a.kind b.kind, cmpI (if a.fails = true then 1 else 0) (if b.fails = true then 1 else 0), cmpTL a.tags b.tags]
end Go.Proofs.Ytchpekidnbdpdaa


/- Spans: the order of spans is one: plain laws. -/
namespace Go.Proofs.Ytchpekidnbdpdaa
open Go.RowKit

/-- A comparison that tells apart, and is in order. -/
structure Cmp {α : Type} (f : α → α → Int) : Prop where
  rng : ∀ a b, f a b = -1 ∨ f a b = 0 ∨ f a b = 1
  eq : ∀ a b, f a b = 0 ↔ a = b
  neg : ∀ a b, f b a = - f a b
  tr : ∀ a b c, f a b = -1 → f b c = -1 → f a c = -1
theorem Cmp.lex {α β : Type} {f : α → α → Int} {g : β → β → Int} (F : Cmp f) (G : Cmp g) : Cmp (fun (a b : α × β) => if f a.1 b.1 ≠ 0 then f a.1 b.1 else g a.2 b.2) := by
  refine ⟨fun a b => ?_, fun a b => ?_, fun a b => ?_, fun a b c => ?_⟩
  · by_cases h : f a.1 b.1 = 0
    · simp only [h]; simpa using G.rng a.2 b.2
    · rw [if_pos h]; exact F.rng a.1 b.1
  · by_cases h : f a.1 b.1 = 0
    · have h1 := (F.eq a.1 b.1).1 h
      simp only [h, ne_eq, not_true_eq_false, if_false]
      rw [G.eq]
      exact ⟨fun h2 => Prod.ext h1 h2, fun h2 => by rw [h2]⟩
    · simp only [h, ne_eq, not_false_eq_true, if_true, false_iff]
      rintro rfl
      exact h ((F.eq _ _).2 rfl)
  · by_cases h : f a.1 b.1 = 0
    · have h1 : f b.1 a.1 = 0 := by rw [F.neg, h]; rfl
      simp only [h, h1, ne_eq, not_true_eq_false, if_false]
      exact G.neg _ _
    · have h1 : f b.1 a.1 ≠ 0 := by rw [F.neg]; omega
      simp only [h, h1, ne_eq, not_false_eq_true, if_true]
      exact F.neg _ _
  · intro h1 h2
    by_cases e1 : f a.1 b.1 = 0
    · have q1 := (F.eq _ _).1 e1
      rw [if_neg (by simp [e1])] at h1
      by_cases e2 : f b.1 c.1 = 0
      · rw [if_neg (by simp [e2])] at h2
        rw [if_neg (by rw [q1, e2]; simp)]
        exact G.tr _ _ _ h1 h2
      · rw [if_pos e2] at h2
        rw [if_pos (by rw [q1]; exact e2), q1]
        exact h2
    · rw [if_pos e1] at h1
      by_cases e2 : f b.1 c.1 = 0
      · have q2 := (F.eq _ _).1 e2
        rw [if_pos (by rw [← q2]; exact e1), ← q2]
        exact h1
      · rw [if_pos e2] at h2
        have := F.tr _ _ _ h1 h2
        rw [if_pos (by omega)]
        exact this
theorem Cmp.pull {α γ : Type} {f : α → α → Int} (F : Cmp f) (h : γ → α) (hi : ∀ x y, h x = h y → x = y) : Cmp (fun x y => f (h x) (h y)) :=
  ⟨fun _ _ => F.rng _ _, fun x y => (F.eq _ _).trans ⟨hi x y, fun e => by rw [e]⟩, fun _ _ => F.neg _ _, fun _ _ _ => F.tr _ _ _⟩
theorem cmpI_cmp : Cmp cmpI := by
  have key : ∀ a b : Int, (cmpI a b = -1 ∧ a < b) ∨ (cmpI a b = 0 ∧ a = b) ∨ (cmpI a b = 1 ∧ b < a) := fun a b => by
    unfold cmpI
    by_cases h1 : a < b
    · rw [if_pos h1]; omega
    · rw [if_neg h1]
      by_cases h2 : b < a
      · rw [if_pos h2]; omega
      · rw [if_neg h2]; omega
  refine ⟨fun a b => ?_, fun a b => ?_, fun a b => ?_, fun a b c h1 h2 => ?_⟩
  · have := key a b; omega
  · have := key a b
    constructor <;> intro h <;> omega
  · have := key a b
    have := key b a
    omega
  · have := key a b
    have := key b c
    have := key a c
    omega
theorem strLt_ltb (s t : ByteArray) : strLt s t = ltb (nums s) (nums t) := by
  have := ltb_str (nums_byt s) (nums_byt t)
  rw [strOf_nums, strOf_nums] at this
  exact this
theorem ltb_irr : ∀ (a : List Int), ltb a a = false
  | [] => rfl
  | x :: a => by rw [ltb, ltb_irr a]; simp
theorem ltb_tr : ∀ (a b c : List Int), ltb a b = true → ltb b c = true → ltb a c = true
  | a, [], _, h, _ => by simp [ltb] at h
  | _, y :: b, [], _, h => by simp [ltb] at h
  | [], _ :: _, _ :: _, _, _ => rfl
  | x :: a, y :: b, z :: c, h1, h2 => by
    simp only [ltb, Bool.or_eq_true, Bool.and_eq_true, decide_eq_true_eq] at h1 h2 ⊢
    rcases h1 with h1 | ⟨h1, h1'⟩
    · rcases h2 with h2 | ⟨h2, _⟩ <;> exact .inl (by omega)
    · rcases h2 with h2 | ⟨h2, h2'⟩
      · exact .inl (by omega)
      · exact .inr ⟨by omega, ltb_tr a b c h1' h2'⟩
theorem ltb_tri : ∀ (a b : List Int), ltb a b = false → ltb b a = false → a = b
  | [], [], _, _ => rfl
  | [], _ :: _, h, _ => by cases h
  | _ :: _, [], _, h => by cases h
  | x :: a, y :: b, h1, h2 => by
    simp only [ltb, Bool.or_eq_false_iff, Bool.and_eq_false_iff, decide_eq_false_iff_not] at h1 h2
    have hxy : x = y := by omega
    subst hxy
    rw [ltb_tri a b (by rcases h1.2 with h | h; · exact absurd rfl h
                        · exact h) (by rcases h2.2 with h | h; · exact absurd rfl h
                                       · exact h)]
theorem cmpS_cmp : Cmp cmpS := by
  have asym : ∀ s t, strLt s t = true → strLt t s = false := fun s t h => by
    cases h2 : strLt t s with
    | false => rfl
    | true =>
      rw [strLt_ltb] at h h2
      have := ltb_tr _ _ _ h h2
      rw [ltb_irr] at this
      cases this
  have irr : ∀ s, strLt s s = false := fun s => by rw [strLt_ltb, ltb_irr]
  have tri : ∀ s t, strLt s t = false → s ≠ t → strLt t s = true := fun s t h hne => by
    cases h2 : strLt t s with
    | true => rfl
    | false =>
      rw [strLt_ltb] at h h2
      exact absurd (nums_inj (ltb_tri _ _ h h2)) hne
  refine ⟨fun a b => ?_, fun a b => ?_, fun a b => ?_, fun a b c => ?_⟩
  · unfold cmpS; split
    · simp
    · split <;> simp
  · unfold cmpS
    cases h : strLt a b with
    | true =>
      simp
      rintro rfl
      rw [irr] at h
      cases h
    | false => simp
  · by_cases he : a = b
    · subst he
      unfold cmpS
      rw [irr]; simp
    · cases h : strLt a b with
      | true =>
        have h2 := asym _ _ h
        unfold cmpS
        rw [h, h2, if_neg (by simp), if_neg (fun e => he e.symm), if_pos rfl]
        rfl
      | false =>
        have h2 := tri _ _ h he
        unfold cmpS
        rw [h, h2, if_pos rfl, if_neg (by simp), if_neg he]
  · unfold cmpS
    intro h1 h2
    have k1 : strLt a b = true := by
      cases h : strLt a b with
      | true => rfl
      | false => rw [h] at h1; simp at h1; split at h1 <;> cases h1
    have k2 : strLt b c = true := by
      cases h : strLt b c with
      | true => rfl
      | false => rw [h] at h2; simp at h2; split at h2 <;> cases h2
    have k3 : strLt a c = true := by
      rw [strLt_ltb] at k1 k2 ⊢
      exact ltb_tr _ _ _ k1 k2
    rw [k3]; rfl
theorem orL2 (x y : Int) : orL [x, y] = if x ≠ 0 then x else y := by
  simp only [orL]
  by_cases h : x = 0
  · by_cases h2 : y = 0
    · simp [h, h2]
    · simp [h, h2]
  · simp [h]
theorem cmpTg_cmp : Cmp cmpTg := by
  have := (cmpS_cmp.lex cmpS_cmp).pull (fun t : Tg => (t.key, t.val)) (fun x y h => by cases x; cases y; simp at h; simp [h])
  have e : cmpTg = fun x y : Tg => if cmpS x.key y.key ≠ 0 then cmpS x.key y.key else cmpS x.val y.val := by
    funext x y
    rw [cmpTg, orL2]
  rw [e]
  exact this
theorem cmpTL_cmp : Cmp cmpTL := by
  have F := cmpTg_cmp
  refine ⟨fun a => ?_, fun a => ?_, fun a => ?_, fun a => ?_⟩
  · induction a with
    | nil => intro b; cases b <;> simp [cmpTL]
    | cons x a ih =>
      intro b
      cases b with
      | nil => simp [cmpTL]
      | cons y b =>
        rw [cmpTL]
        by_cases h : cmpTg x y = 0
        · rw [if_neg (by simp [h])]; exact ih b
        · rw [if_pos h]; exact F.rng x y
  · induction a with
    | nil => intro b; cases b <;> simp [cmpTL]
    | cons x a ih =>
      intro b
      cases b with
      | nil => simp [cmpTL]
      | cons y b =>
        rw [cmpTL]
        by_cases h : cmpTg x y = 0
        · rw [if_neg (by simp [h]), ih b, (F.eq _ _).1 h]; simp
        · rw [if_pos h]
          refine ⟨fun e => absurd e h, fun e => ?_⟩
          injection e with e1 e2
          exact (F.eq _ _).2 e1
  · induction a with
    | nil => intro b; cases b <;> simp [cmpTL]
    | cons x a ih =>
      intro b
      cases b with
      | nil => simp [cmpTL]
      | cons y b =>
        rw [cmpTL, cmpTL]
        have hn := F.neg x y
        by_cases h : cmpTg x y = 0
        · rw [if_neg (by omega), if_neg (by simp [h])]; exact ih b
        · rw [if_pos (by omega), if_pos h]; exact hn
  · induction a with
    | nil =>
      intro b c h1 h2
      cases b with
      | nil => simp [cmpTL] at h1
      | cons y b =>
        cases c with
        | nil => simp [cmpTL] at h2
        | cons z c => rfl
    | cons x a ih =>
      intro b c h1 h2
      cases b with
      | nil => simp [cmpTL] at h1
      | cons y b =>
        cases c with
        | nil => simp [cmpTL] at h2
        | cons z c =>
          rw [cmpTL] at h1 h2 ⊢
          by_cases e1 : cmpTg x y = 0
          · have q1 := (F.eq _ _).1 e1
            rw [if_neg (by simp [e1])] at h1
            by_cases e2 : cmpTg y z = 0
            · rw [if_neg (by simp [e2])] at h2
              rw [if_neg (by rw [q1, e2]; simp)]
              exact ih b c h1 h2
            · rw [if_pos e2] at h2
              rw [if_pos (by rw [q1]; exact e2), q1]
              exact h2
          · rw [if_pos e1] at h1
            by_cases e2 : cmpTg y z = 0
            · have q2 := (F.eq _ _).1 e2
              rw [if_pos (by rw [← q2]; exact e1), ← q2]
              exact h1
            · rw [if_pos e2] at h2
              have := F.tr _ _ _ h1 h2
              rw [if_pos (by omega)]
              exact this
theorem Cmp.of_eq {α : Type} {f g : α → α → Int} (F : Cmp f) (h : ∀ a b, g a b = f a b) : Cmp g := by
  have e : g = f := by funext a b; exact h a b
  rw [e]; exact F
theorem cmpNat_cmp : Cmp (fun x y : Nat => cmpI (x : Int) (y : Int)) := cmpI_cmp.pull (fun x : Nat => (x : Int)) (fun x y h => by omega)
theorem cmpBool_cmp : Cmp (fun x y : Bool => cmpI (if x = true then 1 else 0) (if y = true then 1 else 0)) := cmpI_cmp.pull (fun x : Bool => if x = true then (1 : Int) else 0) (fun x y h => by cases x <;> cases y <;> simp at h <;> rfl)
def spTup (s : Sp) : (Nat × Nat) × Nat × Nat × Int × Int × ByteArray × ByteArray × Int × Bool × List Tg := ((s.hi, s.lo), s.id, s.parent, s.start, s.length, s.service, s.name, s.kind, s.fails, s.tags)
theorem orL1 (x : Int) : orL [x] = x := by
  simp only [orL]
  by_cases h : x = 0
  · simp [h]
  · simp [h]
theorem orL_cons (x y : Int) (l : List Int) : orL (x :: y :: l) = if x ≠ 0 then x else orL (y :: l) := rfl
/-- The order of spans is one: it tells spans apart, the other way round it is the opposite, and it goes on over a third. -/
theorem spCmp_cmp : Cmp spCmp := by
  have C := ((cmpNat_cmp.lex cmpNat_cmp).lex (cmpNat_cmp.lex (cmpNat_cmp.lex (cmpI_cmp.lex (cmpI_cmp.lex (cmpS_cmp.lex (cmpS_cmp.lex (cmpI_cmp.lex (cmpBool_cmp.lex cmpTL_cmp))))))))).pull spTup (fun x y h => by
    cases x; cases y
    simp only [spTup, Prod.mk.injEq] at h
    obtain ⟨⟨h1, h2⟩, h3, h4, h5, h6, h7, h8, h9, h10, h11⟩ := h
    subst h1 h2 h3 h4 h5 h6 h7 h8 h9 h10 h11
    rfl)
  refine C.of_eq fun a b => ?_
  rw [spCmp, orL_cons, orL_cons, orL_cons, orL_cons, orL_cons, orL_cons, orL_cons, orL_cons, orL_cons, orL1, cmpTr, orL2]
  rfl
end Go.Proofs.Ytchpekidnbdpdaa


/- Lists of bytes: equal, below; slices of bytes against nil; append of bytes. -/
namespace Go.Proofs.Ytchpekidnbdpdaa
open Go.RowKit

theorem u8info : (Try.prog.info? 5).map (fun i => (i.zero, i.size, i.bytes)) = some (some (.int .u8 0), 1, 1) := by kernel_rfl

end Go.Proofs.Ytchpekidnbdpdaa


/- The small functions on bytes that this seat has. -/


/- The plain mathematics of layer 1 (wire): no program in sight. -/
namespace Go.Proofs.Ytchpekidnbdpdaa

/-- A short number's bytes. -/
def numEnc (x : Nat) : List Int := if x < 128 then [(x : Int)] else ((x % 128 + 128 : Nat) : Int) :: numEnc (x / 128)
termination_by x
decreasing_by omega
theorem numEnc_lt {x : Nat} (h : x < 128) : numEnc x = [(x : Int)] := by rw [numEnc, if_pos h]
theorem numEnc_ge {x : Nat} (h : 128 ≤ x) : numEnc x = ((x % 128 + 128 : Nat) : Int) :: numEnc (x / 128) := by rw [numEnc, if_neg (by omega)]
theorem numEnc_pos (x : Nat) : 0 < (numEnc x).length := by
  by_cases h : x < 128
  · rw [numEnc_lt h]; simp
  · rw [numEnc_ge (by omega)]; simp
theorem numEnc_len : ∀ (k x : Nat), x < 128 ^ k → 0 < k → (numEnc x).length ≤ k := by
  intro k
  induction k with
  | zero => intro x _ h; omega
  | succ k ih =>
    intro x hx _
    by_cases h : x < 128
    · rw [numEnc_lt h]; simp
    · rw [numEnc_ge (by omega)]
      have h1 : x / 128 < 128 ^ k := by
        rw [Nat.pow_succ] at hx
        omega
      have hk : 0 < k := by
        rcases Nat.eq_zero_or_pos k with rfl | h0
        · simp at hx; omega
        · exact h0
      have := ih (x / 128) h1 hk
      simp only [List.length_cons]
      omega
theorem numEnc_u64 {x : Nat} (h : x < 18446744073709551616) : (numEnc x).length ≤ 10 :=
  numEnc_len 10 x (Nat.lt_of_lt_of_le h (by decide)) (by omega)
theorem numEnc_byt (x : Nat) : Byt (numEnc x) := by
  induction x using numEnc.induct with
  | case1 x h => rw [numEnc_lt h]; intro y hy; simp at hy; omega
  | case2 x h ih =>
    rw [numEnc_ge (by omega)]
    intro y hy
    rcases List.mem_cons.1 hy with rfl | hy
    · omega
    · exact ih y hy

/-- A number's eight bytes, in order. -/
def ordTo (x : Nat) : Nat → List Int
  | 0 => []
  | k + 1 => ((x / 256 ^ k % 256 : Nat) : Int) :: ordTo x k
def ordEnc (x : Nat) : List Int := ordTo x 8
theorem ordTo_len (x k : Nat) : (ordTo x k).length = k := by induction k with | zero => rfl | succ k ih => simp [ordTo, ih]
theorem ordEnc_len (x : Nat) : (ordEnc x).length = 8 := ordTo_len x 8
theorem ordTo_byt (x k : Nat) : Byt (ordTo x k) := by
  induction k with
  | zero => intro y hy; simp [ordTo] at hy
  | succ k ih =>
    intro y hy
    rcases List.mem_cons.1 hy with rfl | hy
    · omega
    · exact ih y hy
theorem ordEnc_byt (x : Nat) : Byt (ordEnc x) := ordTo_byt x 8

/-- A text's bytes in order, without the end. -/
def txtTo (s : List Int) : List Int := s.flatMap fun c => if c = 0 then [0, 255] else [c]
def txtEnc (s : List Int) : List Int := txtTo s ++ [0, 1]
theorem txtTo_snoc0 (s : List Int) : txtTo (s ++ [0]) = txtTo s ++ [0] ++ [255] := by simp [txtTo]
theorem txtTo_snoc (s : List Int) {c : Int} (h : c ≠ 0) : txtTo (s ++ [c]) = txtTo s ++ [c] := by simp [txtTo, h]
theorem txtTo_len (s : List Int) : (txtTo s).length ≤ 2 * s.length := by
  induction s with
  | nil => simp [txtTo]
  | cons c s ih =>
    have : txtTo (c :: s) = (if c = 0 then [0, 255] else [c]) ++ txtTo s := rfl
    rw [this, List.length_append, List.length_cons]
    split <;> simp <;> omega
theorem txtTo_byt {s : List Int} (h : Byt s) : Byt (txtTo s) := by
  intro y hy
  obtain ⟨c, hc, hy⟩ := List.mem_flatMap.1 hy
  have := h c hc
  split at hy
  · simp at hy; omega
  · simp at hy; omega

/-- How many bytes are left of the first n, when the 255s at their end are gone. -/
def cutN (p : List Int) : Nat → Nat
  | 0 => 0
  | n + 1 => if p[n]? = some 255 then cutN p n else n + 1
theorem cutN_le (p : List Int) (n : Nat) : cutN p n ≤ n := by
  induction n with
  | zero => simp [cutN]
  | succ n ih => rw [cutN]; split <;> omega
theorem cutN_last (p : List Int) (n : Nat) (h : 0 < cutN p n) : p[cutN p n - 1]? ≠ some 255 := by
  induction n with
  | zero => simp [cutN] at h
  | succ n ih =>
    by_cases hc : p[n]? = some 255
    · rw [cutN, if_pos hc] at h ⊢; exact ih h
    · rw [cutN, if_neg hc]; simpa using hc
theorem cutN_rest (p : List Int) (n j : Nat) (h : cutN p n ≤ j) (hj : j < n) : p[j]? = some 255 := by
  induction n with
  | zero => omega
  | succ n ih =>
    by_cases hc : p[n]? = some 255
    · rw [cutN, if_pos hc] at h
      by_cases hjn : j = n
      · rw [hjn]; exact hc
      · exact ih h (by omega)
    · rw [cutN, if_neg hc] at h; omega
/-- The least bytes above all that begin with p. -/
def aftOf (p : List Int) : List Int := p.take (cutN p p.length - 1) ++ [(p.getD (cutN p p.length - 1) 0) + 1]
theorem aftOf_len (p : List Int) (h : 0 < cutN p p.length) : (aftOf p).length = cutN p p.length := by
  have := cutN_le p p.length
  simp [aftOf]; omega

/-- The number that stands in some bytes, in order. -/
def ordVal (l : List Int) : Nat := l.foldl (fun a c => a * 256 + c.toNat) 0
theorem ordVal_snoc (l : List Int) (c : Int) : ordVal (l ++ [c]) = ordVal l * 256 + c.toNat := by simp [ordVal]
theorem ordVal_lt : ∀ (k : Nat) (l : List Int), Byt l → l.length = k → ordVal l < 256 ^ k := by
  intro k
  induction k with
  | zero => intro l _ h; obtain rfl := List.eq_nil_of_length_eq_zero h; simp [ordVal]
  | succ k ih =>
    intro l hb h
    obtain ⟨a, c, rfl⟩ : ∃ a c, l = a ++ [c] := by
      have hne : l ≠ [] := by rintro rfl; simp at h
      exact ⟨l.dropLast, l.getLast hne, (List.dropLast_concat_getLast hne).symm⟩
    have h1 := ih a (fun x hx => hb x (by simp [hx])) (by simpa using h)
    have h2 := hb c (by simp)
    rw [ordVal_snoc, Nat.pow_succ]
    omega
theorem ordTo_val (x : Nat) : ∀ (k : Nat), ordVal (ordTo x k) = x % 256 ^ k := by
  have gen : ∀ (k : Nat) (a : Nat), (ordTo x k).foldl (fun a c => a * 256 + c.toNat) a = a * 256 ^ k + x % 256 ^ k := by
    intro k
    induction k with
    | zero => intro a; simp [ordTo, Nat.mod_one]
    | succ k ih =>
      intro a
      have hp : 0 < 256 ^ k := Nat.pow_pos (by omega)
      have e : x % 256 ^ (k + 1) = (x / 256 ^ k % 256) * 256 ^ k + x % 256 ^ k := by
        rw [Nat.pow_succ, Nat.mod_mul, Nat.add_comm, Nat.mul_comm]
      simp only [ordTo, List.foldl_cons]
      rw [ih, Int.toNat_natCast, e, Nat.add_mul, Nat.pow_succ, Nat.mul_assoc, Nat.mul_comm 256 (256 ^ k)]
      omega
  intro k
  have := gen k 0
  simpa [ordVal] using this

/-- What a text in order says from place i on: the text and the place behind it; or the error. 12: more is wanted; 4: no such text. -/
def txtRead (b : List Int) (i : Nat) (out : List Int) : Nat → (List Int × Nat) ⊕ Nat
  | 0 => .inr 12
  | f + 1 => match b[i]? with
    | none => .inr 12
    | some x => if x ≠ 0 then txtRead b (i + 1) (out ++ [x]) f else
      match b[i + 1]? with
      | none => .inr 12
      | some y => if y = 1 then .inl (out, i + 2) else if y = 255 then txtRead b (i + 2) (out ++ [0]) f else .inr 4
theorem txtRead_end (b out : List Int) (i f : Nat) (h : b.length ≤ i) : txtRead b i out f = .inr 12 := by
  cases f with
  | zero => rfl
  | succ f => rw [txtRead, List.getElem?_eq_none h]
theorem txtRead_fuel (b : List Int) : ∀ (f g i : Nat) (out : List Int), b.length ≤ i + f → b.length ≤ i + g → txtRead b i out f = txtRead b i out g := by
  intro f
  induction f with
  | zero => intro g i out h1 h2; rw [txtRead_end b out i 0 (by omega), txtRead_end b out i g (by omega)]
  | succ f ih =>
    intro g i out h1 h2
    cases g with
    | zero => rw [txtRead_end b out i _ (by omega), txtRead_end b out i _ (by omega)]
    | succ g =>
      rw [txtRead, txtRead]
      cases b[i]? with
      | none => rfl
      | some x =>
        simp only
        split
        · exact ih g (i + 1) _ (by omega) (by omega)
        · cases b[i + 1]? with
          | none => rfl
          | some y =>
            simp only
            split
            · rfl
            · split
              · exact ih g (i + 2) _ (by omega) (by omega)
              · rfl
/-- From place k on. -/
def txtR (b : List Int) (k : Nat) (out : List Int) : (List Int × Nat) ⊕ Nat := txtRead b k out (b.length - k)
theorem txtR_over {b out : List Int} {k : Nat} (h : b.length ≤ k) : txtR b k out = .inr 12 := txtRead_end b out k _ h
theorem lt_of_get {b : List Int} {k : Nat} {x : Int} (h : b[k]? = some x) : k < b.length := (List.getElem?_eq_some_iff.1 h).1
theorem txtR_x {b out : List Int} {k : Nat} {x : Int} (h : b[k]? = some x) (hx : x ≠ 0) : txtR b k out = txtR b (k + 1) (out ++ [x]) := by
  have := lt_of_get h
  rw [txtR, txtR, show b.length - k = (b.length - (k + 1)) + 1 from by omega, txtRead, h]
  simp [hx]
theorem txtR_more {b out : List Int} {k : Nat} (h : b[k]? = some 0) (h1 : k + 1 = b.length) : txtR b k out = .inr 12 := by
  rw [txtR, show b.length - k = 0 + 1 from by omega, txtRead, h, List.getElem?_eq_none (show b.length ≤ k + 1 from by omega)]
  simp
theorem txtR_end {b out : List Int} {k : Nat} (h : b[k]? = some 0) (h1 : b[k + 1]? = some 1) : txtR b k out = .inl (out, k + 2) := by
  have := lt_of_get h
  rw [txtR, show b.length - k = (b.length - (k + 1)) + 1 from by omega, txtRead, h, h1]
  simp
theorem txtR_zero {b out : List Int} {k : Nat} (h : b[k]? = some 0) (h1 : b[k + 1]? = some 255) : txtR b k out = txtR b (k + 2) (out ++ [0]) := by
  have := lt_of_get h
  rw [txtR, txtR, show b.length - k = (b.length - (k + 1)) + 1 from by omega, txtRead, h, h1]
  simp
  exact txtRead_fuel b _ _ _ _ (by omega) (by omega)
theorem txtR_bad {b out : List Int} {k : Nat} {y : Int} (h : b[k]? = some 0) (h1 : b[k + 1]? = some y) (hy1 : y ≠ 1) (hy2 : y ≠ 255) : txtR b k out = .inr 4 := by
  have := lt_of_get h
  rw [txtR, show b.length - k = (b.length - (k + 1)) + 1 from by omega, txtRead, h, h1]
  simp [hy1, hy2]
/-- The whole. -/
def txtOf (b : List Int) : (List Int × Nat) ⊕ Nat := txtR b 0 []
end Go.Proofs.Ytchpekidnbdpdaa


/- (wire.Number alone) Contracts of wire's and bootprintref01's writers: Number, Ordered, OrderedText, Piece, Size. -/
namespace Go.Proofs.Ytchpekidnbdpdaa
open Go.RowKit

theorem or128 : ∀ n : Nat, n < 256 → bits .or .u8 (n : Int) 128 = ((n % 128 + 128 : Nat) : Int) := by decide +kernel
theorem or128' (y : Nat) : bits .or .u8 ((y : Int) % 256) 128 = ((y % 128 + 128 : Nat) : Int) := by
  have h := or128 (y % 256) (by omega)
  rw [show ((y : Int) % 256) = ((y % 256 : Nat) : Int) from by omega, h]
  omega

end Go.Proofs.Ytchpekidnbdpdaa


/- The plain mathematics of reading a short number. -/
namespace Go.Proofs.Ytchpekidnbdpdaa

/-- A short number from place k on, x gathered till there: the number, the place behind it, the error (0: none, 4: bad, 12: more is wanted). -/
def shortG (zs : List Int) (k x : Nat) : Nat → Nat × Nat × Nat
  | 0 => (0, 0, 12)
  | f + 1 => match zs[k]? with
    | none => (0, 0, 12)
    | some c => if k = 9 ∧ 1 < c then (0, 0, 4) else if c = 0 ∧ 0 < k then (0, 0, 4) else if c < 128 then (x + c.toNat * 128 ^ k, k + 1, 0) else shortG zs (k + 1) (x + (c.toNat - 128) * 128 ^ k) f
def shortOf (zs : List Int) : Nat × Nat × Nat := shortG zs 0 0 10

theorem shortG_step {zs : List Int} {k x f : Nat} {c : Int} (h : zs[k]? = some c) : shortG zs k x (f + 1) =
    if k = 9 ∧ 1 < c then (0, 0, 4) else if c = 0 ∧ 0 < k then (0, 0, 4) else if c < 128 then (x + c.toNat * 128 ^ k, k + 1, 0) else shortG zs (k + 1) (x + (c.toNat - 128) * 128 ^ k) f := by
  rw [shortG, h]
theorem shortG_none {zs : List Int} {k x f : Nat} (h : zs.length ≤ k) : shortG zs k x f = (0, 0, 12) := by
  cases f with
  | zero => rfl
  | succ f => rw [shortG, List.getElem?_eq_none h]

/-- What is told is told of bytes that are there; the number fits. -/
theorem shortG_ok {zs : List Int} (hz : Byt zs) : ∀ (f k x : Nat), k + f = 10 → x < 128 ^ k → ∀ y n, shortG zs k x f = (y, n, 0) → n ≤ zs.length ∧ k < n ∧ y < 18446744073709551616 := by
  intro f
  induction f with
  | zero => intro k x _ _ y n h; simp [shortG] at h
  | succ f ih =>
    intro k x hk hx y n h
    cases hc : zs[k]? with
    | none => rw [shortG, hc] at h; simp at h
    | some c =>
      have hlt := lt_of_get hc
      have hb := hz.get hc
      rw [shortG_step hc] at h
      by_cases h1 : k = 9 ∧ 1 < c
      · rw [if_pos h1] at h; simp at h
      · rw [if_neg h1] at h
        by_cases h2 : c = 0 ∧ 0 < k
        · rw [if_pos h2] at h; simp at h
        · rw [if_neg h2] at h
          by_cases h3 : c < 128
          · rw [if_pos h3] at h
            simp only [Prod.mk.injEq, and_true] at h
            obtain ⟨rfl, rfl⟩ := h
            refine ⟨by omega, by omega, ?_⟩
            by_cases hk9 : k = 9
            · subst hk9
              have hc1 : c.toNat ≤ 1 := by omega
              have : (128 : Nat) ^ 9 = 9223372036854775808 := by decide
              rw [this] at hx ⊢
              omega
            · have hp : 128 ^ (k + 1) ≤ 128 ^ 9 := Nat.pow_le_pow_right (by omega) (by omega)
              have h9 : (128 : Nat) ^ 9 = 9223372036854775808 := by decide
              rw [h9, Nat.pow_succ] at hp
              have hm : c.toNat * 128 ^ k ≤ 127 * 128 ^ k := Nat.mul_le_mul_right _ (by omega)
              omega
          · rw [if_neg h3] at h
            have hx' : x + (c.toNat - 128) * 128 ^ k < 128 ^ (k + 1) := by
              rw [Nat.pow_succ]
              have hm : (c.toNat - 128) * 128 ^ k ≤ 127 * 128 ^ k := Nat.mul_le_mul_right _ (by omega)
              omega
            obtain ⟨a, b, d⟩ := ih (k + 1) _ (by omega) hx' y n h
            exact ⟨a, by omega, d⟩
theorem shortOf_ok {zs : List Int} (hz : Byt zs) {y n : Nat} (h : shortOf zs = (y, n, 0)) : n ≤ zs.length ∧ 0 < n ∧ y < 18446744073709551616 :=
  shortG_ok hz 10 0 0 rfl (by omega) y n h

/-- The errors. -/
theorem shortG_err : ∀ (f : Nat) {zs : List Int} (k x : Nat), (shortG zs k x f).2.2 = 0 ∨ shortG zs k x f = (0, 0, 4) ∨ shortG zs k x f = (0, 0, 12) := by
  intro f
  induction f with
  | zero => intro zs k x; simp [shortG]
  | succ f ih =>
    intro zs k x
    cases hc : zs[k]? with
    | none => rw [shortG, hc]; simp
    | some c =>
      rw [shortG_step hc]
      split
      · simp
      · split
        · simp
        · split
          · simp
          · exact ih _ _
theorem shortOf_err (zs : List Int) : (shortOf zs).2.2 = 0 ∨ shortOf zs = (0, 0, 4) ∨ shortOf zs = (0, 0, 12) := shortG_err 10 0 0

/-- What is put together is read again, whatever stands behind it. -/
theorem shortG_num : ∀ (f k x y : Nat) (pre rest : List Int), k + f = 10 → pre.length = k → y * 128 ^ k < 18446744073709551616 → (0 < k → 0 < y) →
    shortG (pre ++ numEnc y ++ rest) k x f = (x + y * 128 ^ k, k + (numEnc y).length, 0) := by
  intro f
  induction f with
  | zero =>
    intro k x y pre rest hk hp hy hy0
    obtain rfl : k = 10 := by omega
    have := hy0 (by omega)
    have h10 : (128 : Nat) ^ 10 = 1180591620717411303424 := by decide
    rw [h10] at hy
    omega
  | succ f ih =>
    intro k x y pre rest hk hp hy hy0
    by_cases hlt : y < 128
    · have hget : (pre ++ numEnc y ++ rest)[k]? = some (y : Int) := by
        rw [numEnc_lt hlt, List.append_assoc, List.getElem?_append_right (by omega)]
        simp [hp]
      rw [shortG_step hget]
      rw [if_neg, if_neg, if_pos (by omega), numEnc_lt hlt]
      · simp
      · rintro ⟨h0, h1⟩
        have := hy0 h1
        omega
      · rintro ⟨rfl, h1⟩
        have h9 : (128 : Nat) ^ 9 = 9223372036854775808 := by decide
        rw [h9] at hy
        omega
    · have hget : (pre ++ numEnc y ++ rest)[k]? = some ((y % 128 + 128 : Nat) : Int) := by
        rw [numEnc_ge (by omega), List.append_assoc, List.getElem?_append_right (by omega)]
        simp [hp]
      have hk9 : k ≠ 9 := by
        rintro rfl
        have h9 : (128 : Nat) ^ 9 = 9223372036854775808 := by decide
        rw [h9] at hy
        omega
      rw [shortG_step hget, if_neg (by rintro ⟨h, _⟩; exact hk9 h), if_neg (by rintro ⟨h, _⟩; omega), if_neg (by omega)]
      have e : pre ++ numEnc y ++ rest = (pre ++ [((y % 128 + 128 : Nat) : Int)]) ++ numEnc (y / 128) ++ rest := by
        rw [numEnc_ge (x := y) (by omega)]; simp
      have hdm : y = 128 * (y / 128) + y % 128 := by omega
      have hmul : y * 128 ^ k = (y / 128) * 128 ^ (k + 1) + (y % 128) * 128 ^ k := by
        rw [Nat.pow_succ]
        conv => lhs; rw [hdm]
        rw [Nat.add_mul, Nat.mul_comm 128 (y / 128), Nat.mul_assoc, Nat.mul_comm 128 (128 ^ k)]
      rw [e, ih (k + 1) _ (y / 128) _ rest (by omega) (by simp [hp]) (by omega) (by omega)]
      have e2 : (((y % 128 + 128 : Nat) : Int).toNat - 128) = y % 128 := by omega
      rw [e2, numEnc_ge (x := y) (by omega)]
      simp only [List.length_cons, Prod.mk.injEq, and_true]
      omega
theorem shortOf_num (y : Nat) (rest : List Int) (hy : y < 18446744073709551616) : shortOf (numEnc y ++ rest) = (y, (numEnc y).length, 0) := by
  have := shortG_num 10 0 0 y [] rest rfl rfl (by simpa using hy) (by omega)
  simpa [shortOf] using this

/-- And what is read was so put together. -/
theorem shortG_back {zs : List Int} (hz : Byt zs) : ∀ (f k x y n : Nat), k + f = 10 → shortG zs k x f = (y, n, 0) → ∃ v, y = x + v * 128 ^ k ∧ (0 < k → 0 < v) ∧ n = k + (numEnc v).length ∧ (zs.drop k).take (n - k) = numEnc v := by
  intro f
  induction f with
  | zero => intro k x y n _ h; simp [shortG] at h
  | succ f ih =>
    intro k x y n hk h
    cases hc : zs[k]? with
    | none => rw [shortG, hc] at h; simp at h
    | some c =>
      have hlt := lt_of_get hc
      have hb := hz.get hc
      have hdrop : zs.drop k = c :: zs.drop (k + 1) := by
        rw [List.drop_eq_getElem_cons hlt]
        rw [List.getElem?_eq_getElem hlt] at hc
        injection hc with hc
        rw [hc]
      rw [shortG_step hc] at h
      by_cases h1 : k = 9 ∧ 1 < c
      · rw [if_pos h1] at h; simp at h
      · rw [if_neg h1] at h
        by_cases h2 : c = 0 ∧ 0 < k
        · rw [if_pos h2] at h; simp at h
        · rw [if_neg h2] at h
          by_cases h3 : c < 128
          · rw [if_pos h3] at h
            simp only [Prod.mk.injEq, and_true] at h
            obtain ⟨rfl, rfl⟩ := h
            have hcl : c.toNat < 128 := by omega
            refine ⟨c.toNat, rfl, by omega, by rw [numEnc_lt hcl]; rfl, ?_⟩
            rw [numEnc_lt hcl, show k + 1 - k = 1 from by omega, hdrop]
            simp
            omega
          · rw [if_neg h3] at h
            obtain ⟨v, hy, hv, hn, ht⟩ := ih (k + 1) _ y n (by omega) h
            have hv0 := hv (by omega)
            have hge : 128 ≤ (c.toNat - 128) + 128 * v := by omega
            refine ⟨(c.toNat - 128) + 128 * v, ?_, by omega, ?_, ?_⟩
            · rw [hy, Nat.pow_succ, Nat.add_mul, Nat.mul_comm 128 v, Nat.mul_assoc, Nat.mul_comm 128 (128 ^ k), Nat.add_assoc]
            · rw [numEnc_ge hge, show (c.toNat - 128 + 128 * v) / 128 = v from by omega, List.length_cons]
              omega
            · rw [numEnc_ge hge, show (c.toNat - 128 + 128 * v) / 128 = v from by omega, hdrop, show n - k = (n - (k + 1)) + 1 from by omega, List.take_succ_cons, ht]
              congr 1
              omega
theorem shortOf_back {zs : List Int} (hz : Byt zs) {y n : Nat} (h : shortOf zs = (y, n, 0)) : zs.take n = numEnc y ∧ n = (numEnc y).length := by
  obtain ⟨v, hy, _, hn, ht⟩ := shortG_back hz 10 0 0 y n rfl h
  obtain rfl : y = v := by omega
  exact ⟨by simpa using ht, by omega⟩
end Go.Proofs.Ytchpekidnbdpdaa


/- Contracts of wire's reader. -/
namespace Go.Proofs.Ytchpekidnbdpdaa
open Go.RowKit

theorem and127 (c : Int) (h0 : 0 ≤ c) (h1 : c ≤ 255) : bits .and .u8 c 127 = c % 128 := by
  have key : ∀ n : Nat, n < 256 → bits .and .u8 (n : Int) 127 = ((n % 128 : Nat) : Int) := by decide +kernel
  have := key c.toNat (by omega)
  rw [show ((c.toNat : Nat) : Int) = c from by omega] at this
  rw [this]
  omega

theorem or_high (x k d : Nat) (hx : x < 128 ^ k) (hx64 : x < 18446744073709551616) (hd : d * 128 ^ k < 18446744073709551616) : bits .or .u64 (x : Int) ((d * 128 ^ k : Nat) : Int) = ((x + d * 128 ^ k : Nat) : Int) := by
  have hp : (128 : Nat) ^ k = 2 ^ (7 * k) := by rw [Nat.pow_mul]
  rw [u64_or_nat _ _ hx64 hd, Nat.or_comm, Nat.mul_comm d, hp, ← Nat.two_pow_add_eq_or_of_lt (by rw [← hp]; exact hx) d, Nat.add_comm]
theorem or_short (x k : Nat) (c : Int) (h0 : 0 ≤ c) (hx : x < 128 ^ k) (hk : k ≤ 8) : bits .or .u64 (x : Int) (IntKind.u64.wrap (c % 128 * 2 ^ (7 * k))) = ((x + (c % 128).toNat * 128 ^ k : Nat) : Int) := by
  have hp : (128 : Nat) ^ k = 2 ^ (7 * k) := by rw [Nat.pow_mul]
  have h8 : 128 ^ k ≤ 128 ^ 8 := Nat.pow_le_pow_right (by omega) hk
  have e8 : (128 : Nat) ^ 8 = 72057594037927936 := by decide
  rw [e8] at h8
  have hm : (c % 128).toNat * 128 ^ k ≤ 127 * 128 ^ k := Nat.mul_le_mul_right _ (by omega)
  have e : c % 128 * 2 ^ (7 * k) = (((c % 128).toNat * 128 ^ k : Nat) : Int) := by
    rw [hp, Int.natCast_mul, Int.natCast_pow, Int.toNat_of_nonneg (by omega)]
    rfl
  rw [e, IntWalk.u64_in _ ⟨by omega, by omega⟩, or_high x k _ hx (by omega) (by omega)]

end Go.Proofs.Ytchpekidnbdpdaa

