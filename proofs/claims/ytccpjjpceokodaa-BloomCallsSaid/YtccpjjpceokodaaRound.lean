/- A region that draws its order, in a round of a range over a function: all operations but the last few only read, so that one walk in the order of the text serves every order. Over any program; at the wide fence. -/
import Derived.StillTailTactics
import Derived.RangeFuncNested
import Derived.RangeFuncCalls
import Derived.TacticsInMore
namespace Go.Proofs.Ytccpjjpceokodaa
open Go.RowKit

def noDefer (o : Oper) : Bool := match o.op with
  | .defer _ => false
  | _ => true
theorem noDefer_spec {o : Oper} (h : noDefer o = true) : ∀ c, o.op ≠ .defer c := fun c e => by rw [noDefer, e] at h; cases h

theorem wpOps_round {P : Program} {ops : Array Oper} {r m : Nat} (hnd : ∀ (i : Nat) (o : Oper), ops[i]? = some o → noDefer o = true) {Q : Exit → Act → World → Prop} :
    ∀ (is : List Nat) (a : Act) (w : World), wpOps P ops (fun e a w => e = .normal ∧ Q .normal a w) is a w → wpOpsIn (Fence.wide.inRound r) m P ops Q is a w := by
  have hlet : ¬ LetsOut (fun e a w => e = Exit.normal ∧ Q .normal a w) := by
    rintro ⟨a, w, h, _⟩
    cases h
  intro is
  induction is with
  | nil => intro a w h; exact h.2
  | cons i is ih =>
    intro a w h
    unfold wpOps at h
    unfold wpOpsIn
    cases ho : ops[i]? with
    | none => rw [ho] at h; exact ih a w h
    | some o =>
      rw [ho] at h
      simp only at h ⊢
      split
      · rename_i hw
        rw [if_pos hw] at h
        have h := h.resolve_right (fun hh => hlet hh.2)
        refine ⟨fun _ _ => trivial, ?_⟩
        rw [show (Fence.wide.inRound r).round = some r from rfl, Oper.semAt_some r _ o (noDefer_spec (hnd i o ho))]
        unfold Oper.wp at h
        generalize (execOp a.eval o).run P w = res at h ⊢
        cases res with
        | ok x w' =>
          cases x with
          | value v => exact ih _ _ h
          | skip => exact ih _ _ h
          | defer d => exact ih _ _ h
          | enter f args =>
            refine ⟨fun hd => (by cases hd), CallsIn.inRound r (callsIn_wide.2 (Calls.mono h ?_))⟩
            intro e w'' he
            cases e with
            | returned v => exact ih _ _ he
            | panicked chain => cases he.1
            | outgrown => exact absurd he hlet
          | row row args =>
            refine ⟨fun hd => (by cases hd), fun c cs _ => ?_⟩
            obtain ⟨v, w'', h1, h2⟩ := h c cs
            exact ⟨v, w'', ih _ _ h1, stepsIn_wide.2 h2⟩
          | _ => exact absurd h id
        | halt x w' =>
          cases x with
          | panic v => cases h.1
          | _ => exact absurd h id
      · rename_i hw
        rw [if_neg hw] at h
        exact ⟨fun _ _ => trivial, ih _ _ h⟩

theorem wpIn_region_still_round {P : Program} {id r m : Nat} {Q : Exit → Act → World → Prop} {a : Act} {w : World} {l : List Oper} (n : Nat) (hm : P.follows .mixedOrders = true) (hnd : l.all noDefer = true) (hB : Region.lexTailB .any l.toArray n = true)
    (h : wpStill P l.toArray w.drew (fun a' => wpList P l.toArray (fun e a w => e = .normal ∧ Q .normal a w) (l.drop n) a' w.drew) (l.take n) a) : (Code.region id l.toArray true).wpIn (Fence.wide.inRound r) m P Q a w := by
  have hsz : l.toArray.size = l.length := by simp
  unfold Region.lexTailB at hB
  rw [Bool.and_eq_true, Bool.and_eq_true, Bool.and_eq_true, Bool.and_eq_true, decide_eq_true_eq] at hB
  obtain ⟨⟨⟨⟨hsel, hn⟩, hsink⟩, hchain⟩, hlex⟩ := hB
  have hlt : (l.take n).length = n := by rw [List.length_take]; omega
  have hld : (l.drop n).length = l.toArray.size - n := by rw [List.length_drop, hsz]
  have start : HeadInv .any l.toArray n (Array.replicate l.toArray.size false) :=
    { size := by simp
      closed := fun j oj _ hj => by rw [getD_replicate_false] at hj; cases hj
      tail := fun t _ ht => getD_in (by simpa using ht) (getD_replicate_false _ _) }
  have key := wpAnyL_lex (md := .any) (g := l.toArray.size - n) hsel hsink hchain hn (l.take n) 0 _ a
    (fun j hj => by rw [hlt] at hj; rw [List.getElem?_take, if_pos hj]; simp) (by rw [hlt]; omega) start (by rw [hlt]; exact hlex) h
  rw [hlt] at key
  have whole := wpAny_of_head (Q' := fun e a w => e = .normal ∧ Q .normal a w) (g := l.toArray.size - n) (fun listed a' hL => by
    have := wpAny_of_seq (md := .any) (Q' := fun e a w => e = .normal ∧ Q .normal a w) (l.drop n) n listed a' w.drew (fun j => by rw [List.getElem?_drop]; simp) (by rw [hld]; exact hL.1) hL.2
    rwa [hld] at this) _ _ _ key
  rw [show n + (l.toArray.size - n) = l.toArray.size from by omega] at whole
  refine wpIn_region_draw fun t => ?_
  rw [Region.schedule, hm, Bool.true_or, if_pos rfl]
  refine wpOps_round (fun i o ho => ?_) _ _ _ (wpAny_sound _ t _ _ _ whole)
  exact List.all_eq_true.1 hnd o (by
    have : l[i]? = some o := by simpa using ho
    exact List.mem_of_getElem? this)
theorem wpOps_wide {P : Program} {ops : Array Oper} {m : Nat} (hnd : ∀ (i : Nat) (o : Oper), ops[i]? = some o → noDefer o = true) {Q : Exit → Act → World → Prop} :
    ∀ (is : List Nat) (a : Act) (w : World), wpOps P ops (fun e a w => e = .normal ∧ Q .normal a w) is a w → wpOpsIn Fence.wide m P ops Q is a w := by
  have hlet : ¬ LetsOut (fun e a w => e = Exit.normal ∧ Q .normal a w) := by
    rintro ⟨a, w, h, _⟩
    cases h
  intro is
  induction is with
  | nil => intro a w h; exact h.2
  | cons i is ih =>
    intro a w h
    unfold wpOps at h
    unfold wpOpsIn
    cases ho : ops[i]? with
    | none => rw [ho] at h; exact ih a w h
    | some o =>
      rw [ho] at h
      simp only at h ⊢
      split
      · rename_i hw
        rw [if_pos hw] at h
        have h := h.resolve_right (fun hh => hlet hh.2)
        refine ⟨fun _ _ => trivial, ?_⟩
        rw [show Fence.wide.round = none from rfl, Oper.semAt_none]
        unfold Oper.wp at h
        generalize (execOp a.eval o).run P w = res at h ⊢
        cases res with
        | ok x w' =>
          cases x with
          | value v => exact ih _ _ h
          | skip => exact ih _ _ h
          | defer d => exact ih _ _ h
          | enter f args =>
            refine ⟨fun hd => (by cases hd), callsIn_wide.2 (Calls.mono h ?_)⟩
            intro e w'' he
            cases e with
            | returned v => exact ih _ _ he
            | panicked chain => cases he.1
            | outgrown => exact absurd he hlet
          | row row args =>
            refine ⟨fun hd => (by cases hd), fun c cs _ => ?_⟩
            obtain ⟨v, w'', h1, h2⟩ := h c cs
            exact ⟨v, w'', ih _ _ h1, stepsIn_wide.2 h2⟩
          | _ => exact absurd h id
        | halt x w' =>
          cases x with
          | panic v => cases h.1
          | _ => exact absurd h id
      · rename_i hw
        rw [if_neg hw] at h
        exact ⟨fun _ _ => trivial, ih _ _ h⟩

theorem wpIn_region_still_wide {P : Program} {id m : Nat} {Q : Exit → Act → World → Prop} {a : Act} {w : World} {l : List Oper} (n : Nat) (hm : P.follows .mixedOrders = true) (hnd : l.all noDefer = true) (hB : Region.lexTailB .any l.toArray n = true)
    (h : wpStill P l.toArray w.drew (fun a' => wpList P l.toArray (fun e a w => e = .normal ∧ Q .normal a w) (l.drop n) a' w.drew) (l.take n) a) : (Code.region id l.toArray true).wpIn Fence.wide m P Q a w := by
  have hsz : l.toArray.size = l.length := by simp
  unfold Region.lexTailB at hB
  rw [Bool.and_eq_true, Bool.and_eq_true, Bool.and_eq_true, Bool.and_eq_true, decide_eq_true_eq] at hB
  obtain ⟨⟨⟨⟨hsel, hn⟩, hsink⟩, hchain⟩, hlex⟩ := hB
  have hlt : (l.take n).length = n := by rw [List.length_take]; omega
  have hld : (l.drop n).length = l.toArray.size - n := by rw [List.length_drop, hsz]
  have start : HeadInv .any l.toArray n (Array.replicate l.toArray.size false) :=
    { size := by simp
      closed := fun j oj _ hj => by rw [getD_replicate_false] at hj; cases hj
      tail := fun t _ ht => getD_in (by simpa using ht) (getD_replicate_false _ _) }
  have key := wpAnyL_lex (md := .any) (g := l.toArray.size - n) hsel hsink hchain hn (l.take n) 0 _ a
    (fun j hj => by rw [hlt] at hj; rw [List.getElem?_take, if_pos hj]; simp) (by rw [hlt]; omega) start (by rw [hlt]; exact hlex) h
  rw [hlt] at key
  have whole := wpAny_of_head (Q' := fun e a w => e = .normal ∧ Q .normal a w) (g := l.toArray.size - n) (fun listed a' hL => by
    have := wpAny_of_seq (md := .any) (Q' := fun e a w => e = .normal ∧ Q .normal a w) (l.drop n) n listed a' w.drew (fun j => by rw [List.getElem?_drop]; simp) (by rw [hld]; exact hL.1) hL.2
    rwa [hld] at this) _ _ _ key
  rw [show n + (l.toArray.size - n) = l.toArray.size from by omega] at whole
  refine wpIn_region_draw fun t => ?_
  rw [Region.schedule, hm, Bool.true_or, if_pos rfl]
  refine wpOps_wide (fun i o ho => ?_) _ _ _ (wpAny_sound _ t _ _ _ whole)
  exact List.all_eq_true.1 hnd o (by
    have : l[i]? = some o := by simpa using ho
    exact List.mem_of_getElem? this)
end Go.Proofs.Ytccpjjpceokodaa
