/- Texts of the proof of VfsScriptSaid, joined: SrT. -/
import Derived.Test.YtdjmmdhjjdnbdaaJVfsScript1
import Derived.Shelf.SortM.Plain
/- Texts in order, plain. -/
namespace Go.Proofs.Ytdjmmdhjjdnbdaa
open Go.RowKit Go.Sort Go

/-- Is a text below another one? -/
def txLt (s t : ByteArray) : Bool := Op.bytesLess s.toList t.toList
/-- Texts in order. -/
def SortV (l : List ByteArray) : Prop := l.Pairwise fun a b => txLt b a = false
theorem txLt_iff {s t : ByteArray} : txLt s t = decide (s.data.toList < t.data.toList) := by
  rw [txLt, bytesLess_eq, ByteArray.toList_eq, ByteArray.toList_eq]
theorem txLt_irr (s : ByteArray) : txLt s s = false := by
  rw [txLt_iff]
  exact decide_eq_false (List.lt_irrefl _)
theorem txLt_anti {s t : ByteArray} (h : txLt s t = false) (k : txLt t s = false) : s = t := by
  rw [txLt_iff, decide_eq_false_iff_not] at h k
  exact ByteArray.ext (Array.ext' (List.le_antisymm (List.not_lt.1 k) (List.not_lt.1 h)))
theorem txLt_tr {a b c : ByteArray} (h : txLt b a = false) (k : txLt c b = false) : txLt c a = false := by
  rw [txLt_iff, decide_eq_false_iff_not] at h k ⊢
  exact List.not_lt.2 (List.le_trans (List.not_lt.1 h) (List.not_lt.1 k))
theorem SortV.eq {l m : List ByteArray} (hl : SortV l) (hm : SortV m) (h : l.Perm m) : l = m :=
  List.Perm.eq_of_pairwise (le := fun a b => txLt b a = false) (fun a b _ _ h1 h2 => txLt_anti h2 h1) hl hm h
end Go.Proofs.Ytdjmmdhjjdnbdaa
