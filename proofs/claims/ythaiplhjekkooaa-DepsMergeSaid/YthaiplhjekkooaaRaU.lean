/- The document's layer 21, plain: what Unique, place, cycle answer. -/
import Derived.Test.YthaiplhjekkooaaSoR
import Derived.Test.YthaiplhjekkooaaSpPl
namespace Go.Proofs.Ythaiplhjekkooaa
open Go.RowKit

/-- Is y ahead of x, the i-th, and of its ID? -/
def ahd (x y : Sp) (k i : Nat) : Bool := decide (y.id = x.id) && (decide (spCmp y x < 0) || (decide (spCmp y x = 0) && decide (k < i)))
/-- Is none of the first n ahead of x, the i-th? -/
def fstTo (l : List Sp) (x : Sp) (i n : Nat) : Bool := (List.range n).all fun k => match l[k]? with | some y => !ahd x y k i | none => true
/-- Where an ID is put: looked for from k on down. -/
def insK (id : Nat) (out : List Sp) : Nat → Nat
  | 0 => 0
  | k + 1 => match out[k]? with
    | some y => if id < y.id then insK id out k else k + 1
    | none => k + 1
def insAt (x : Sp) (out : List Sp) : List Sp := out.take (insK x.id out out.length) ++ x :: out.drop (insK x.id out out.length)
/-- What Unique has of the first i. -/
def uniqTo (l : List Sp) : Nat → List Sp
  | 0 => []
  | i + 1 => match l[i]? with
    | some x => if fstTo l x i l.length = true then insAt x (uniqTo l i) else uniqTo l i
    | none => uniqTo l i
def uniq (l : List Sp) : List Sp := uniqTo l l.length
/-- The place of an ID. -/
def plcG (id : Nat) : List Sp → Nat → Int
  | [], _ => -1
  | x :: l, i => if x.id = id then (i : Int) else plcG id l (i + 1)
def plc (l : List Sp) (id : Nat) : Int := plcG id l 0
def cycGo (l : List Sp) (i : Nat) (x : Sp) : Nat → Int → Bool
  | 0, _ => false
  | n + 1, p => if p < 0 then false else match l[p.toNat]? with
    | none => false
    | some y => if x.parent = 0 ∨ y.id < x.id then false else if p = (i : Int) then true else if y.parent = 0 then false else cycGo l i x n (plc l y.parent)
/-- Is the i-th on a cycle, and has the least ID of it? -/
def cyc (l : List Sp) (i : Nat) (x : Sp) : Bool := cycGo l i x (l.length + 1) (plc l x.parent)
end Go.Proofs.Ythaiplhjekkooaa
