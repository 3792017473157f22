/- The document's layer 21, plain: what Unique, Up, Adjust answer. -/
import Derived.Test.YthaiplhjekkooaaAdP
import Derived.Test.YthaiplhjekkooaaRaU
namespace Go.Proofs.Ythaiplhjekkooaa
open Go.RowKit

def upOf (u : List Sp) (i : Nat) (x : Sp) : Ad :=
  if x.parent = 0 then ⟨x, 0, 0, 0⟩ else if plc u x.parent < 0 then ⟨x, 0, 0, 1⟩ else if cyc u i x = true then ⟨x, 0, 0, 2⟩ else ⟨x, x.parent, 0, 0⟩
/-- What Up has of the first i. -/
def upsTo (u : List Sp) : Nat → List Ad
  | 0 => []
  | i + 1 => match u[i]? with
    | some x => upsTo u i ++ [upOf u i x]
    | none => upsTo u i
def ups (l : List Sp) : List Ad := upsTo (uniq l) (uniq l).length
/-- How far a span is moved below another one. -/
def shiftS (c : Sp) (p : Ad) : Int :=
  if c.service = p.s.service then p.shift
  else if p.s.length < c.length then (if c.start < p.s.start then p.s.start - c.start else 0)
  else if p.s.start ≤ c.start ∧ c.start + c.length ≤ p.s.start + p.s.length then 0
  else p.s.start + (p.s.length - c.length) / 2 - c.start
/-- x moved below y. -/
def mvAd (x y : Ad) : Ad :=
  ⟨{ x.s with start := min (max 0 (x.s.start + shiftS x.s y)) (4611686018427387903 - x.s.length) }, x.up, shiftS x.s y, x.flag⟩
/-- Adjust's state: the spans, and which are done. -/
structure AjS where
  o : List Ad
  d : List Bool
def ajK (i : Nat) (st : AjS) (k : Nat) : AjS :=
  match st.o[k]?, st.o[i]?, st.d[k]? with
  | some y, some x, some true => if y.s.id = x.up then ⟨st.o.set i (mvAd x y), st.d.set i true⟩ else st
  | _, _, _ => st
def ajI (n : Nat) (st : AjS) (i : Nat) : AjS :=
  match st.o[i]?, st.d[i]? with
  | some x, some false => if x.up = 0 then ⟨st.o, st.d.set i true⟩ else (List.range n).foldl (ajK i) st
  | _, _ => st
def ajN (n : Nat) (st : AjS) (_ : Nat) : AjS := (List.range n).foldl (ajI n) st
def ajAll (o : List Ad) : AjS := (List.range o.length).foldl (ajN o.length) ⟨o, List.replicate o.length false⟩
/-- The first error of some spans. -/
def spErr : List Sp → Nat
  | [] => 0
  | x :: l => if spChk x ≠ 0 then spChk x else spErr l
/-- Are all of the first one's trace? -/
def oneTr : List Sp → Bool
  | [] => true
  | x :: l => (x :: l).all fun y => decide (y.hi = x.hi) && decide (y.lo = x.lo)
/-- What Adjust answers. -/
def adjS (l : List Sp) : List Ad × Nat :=
  if l.length = 0 then ([], 2) else if 64 < l.length then ([], 3) else if spErr l ≠ 0 then ([], spErr l) else if oneTr l = false then ([], 2) else ((ajAll (ups l)).o, 0)
end Go.Proofs.Ythaiplhjekkooaa
