/- The order of spans, plain. -/
import Derived.Test.YthaiplhjekkooaaStw
namespace Go.Proofs.Ythaiplhjekkooaa
open Go.RowKit

/-- The first that is not nought. -/
def orL : List Int → Int
  | [] => 0
  | x :: l => if x ≠ 0 then x else orL l
theorem orL_drop {l : List Int} {j : Nat} {x : Int} (h : l[j]? = some x) : orL (l.drop j) = if x ≠ 0 then x else orL (l.drop (j + 1)) := by
  have hl := (List.getElem?_eq_some_iff.1 h).1
  rw [List.drop_eq_getElem_cons hl, (List.getElem?_eq_some_iff.1 h).2, orL]
def cmpTr (h1 l1 h2 l2 : Int) : Int := orL [cmpI h1 h2, cmpI l1 l2]
def cmpTg (a b : Tg) : Int := orL [cmpS a.key b.key, cmpS a.val b.val]
/-- Two lists of tags. -/
def cmpTL : List Tg → List Tg → Int
  | [], [] => 0
  | [], _ :: _ => -1
  | _ :: _, [] => 1
  | a :: la, b :: lb => if cmpTg a b ≠ 0 then cmpTg a b else cmpTL la lb
theorem cmpTL_step {la lb : List Tg} {j : Nat} {a b : Tg} (ha : la[j]? = some a) (hb : lb[j]? = some b) : cmpTL (la.drop j) (lb.drop j) = if cmpTg a b ≠ 0 then cmpTg a b else cmpTL (la.drop (j + 1)) (lb.drop (j + 1)) := by
  have h1 := (List.getElem?_eq_some_iff.1 ha).1
  have h2 := (List.getElem?_eq_some_iff.1 hb).1
  rw [List.drop_eq_getElem_cons h1, List.drop_eq_getElem_cons h2, (List.getElem?_eq_some_iff.1 ha).2, (List.getElem?_eq_some_iff.1 hb).2, cmpTL]
/-- What Compare tells. -/
def spCmp (a b : Sp) : Int := orL [cmpTr a.hi a.lo b.hi b.lo, cmpI a.id b.id, cmpI a.parent b.parent, cmpI a.start b.start, cmpI a.length b.length, cmpS a.service b.service, cmpS a.name b.name, cmpI a.kind b.kind, cmpI (if a.fails = true then 1 else 0) (if b.fails = true then 1 else 0), cmpTL a.tags b.tags]
end Go.Proofs.Ythaiplhjekkooaa
