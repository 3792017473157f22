/- Lists of adjusted spans, as they lie. -/
import Derived.Test.YthaiplhjekkooaaAdP
import Derived.Test.YthaiplhjekkooaaRow
namespace Go.Proofs.Ythaiplhjekkooaa
open Go.RowKit

/-- An adjusted span as it lies: itself, and its tags' slice. -/
structure AE where
  a : Ad
  A : Option Addr
  n : Nat
  c : Nat
def aeC (e : AE) : List Value := (adC e.a e.A e.n e.c).toList
theorem aeC_length (e : AE) : (aeC e).length = 14 := rfl
theorem aeC_one (e : AE) : ∀ u ∈ aeC e, u.oneCell' = true := by
  intro u hu
  have := adC_one e.a e.A e.n e.c
  rw [Array.all_eq_true'] at this
  exact this u (by simpa [aeC] using hu)
abbrev aes (l : List AE) : List Value := flatR aeC l
/-- Its tags lie where it says. -/
structure AeOk (w : World) (B : Nat) (e : AE) : Prop where
  rd : RbT w B e.A e.a.s.tags
  len : e.a.s.tags.length = e.n
  max : e.n ≤ 9223372036854775807
  ok : e.a.Ok
theorem AeOk.below {w w' : World} {B : Nat} {e : AE} (h : AeOk w B e) (hb : Below B w w') : AeOk w' B e := ⟨Rd.below h.rd hb, h.len, h.max, h.ok⟩
theorem AeOk.more {w : World} {B B' : Nat} {e : AE} (h : AeOk w B e) (hb : B ≤ B') : AeOk w B' e := ⟨Rd.more h.rd hb, h.len, h.max, h.ok⟩
/-- Adjusted spans that lie from A on, and their tags. -/
structure RbA (w : World) (B : Nat) (A : Option Addr) (l : List AE) : Prop where
  rd : Rd w B A (aes l)
  ok : ∀ e ∈ l, AeOk w B e
section
variable {w w' : World} {B B' : Nat} {A : Option Addr} {l : List AE}
theorem RbA.nil : RbA w B A [] := ⟨Rd.nil, fun _ h => by cases h⟩
theorem RbA.below (h : RbA w B A l) (hb : Below B w w') : RbA w' B A l := ⟨Rd.below h.rd hb, fun e he => (h.ok e he).below hb⟩
theorem RbA.more (h : RbA w B A l) (hB : B ≤ B') : RbA w B' A l := ⟨Rd.more h.rd hB, fun e he => (h.ok e he).more hB⟩
theorem RbA.bS (h : RbA w w.heap.size A l) (hb : Below w.heap.size w w') : RbA w' w'.heap.size A l := (h.below hb).more hb.size
theorem RbA.get (h : RbA w B A l) {i : Nat} {e : AE} (hi : l[i]? = some e) :
    ∃ b o, A = some ⟨b, o, none⟩ ∧ b < B ∧ (∀ j, j < 14 → w.cell? ⟨b, o + (i * 14 + j), none⟩ = (aeC e)[j]?) ∧ AeOk w B e := by
  obtain ⟨b, o, hA, hb, hc⟩ := flatR_at aeC_length (by omega) h.rd hi
  exact ⟨b, o, hA, hb, hc, h.ok e (List.mem_of_getElem? hi)⟩
end
set_option maxRecDepth 100000 in
theorem loadK_ae {w : World} {b o i : Nat} {e : AE} (h : ∀ j, j < 14 → w.cell? ⟨b, o + (i * 14 + j), none⟩ = (aeC e)[j]?) : (loadK 45 ⟨b, o + i * 14, none⟩).run Try.prog w = .ok (adV e.a e.A e.n e.c) w :=
  run_loadVar_cellsK w _ _ ⟨b, o + i * 14, none⟩ (aeC e) Try.underlying45 rfl (by rfl) (fun j v hv => by
    have hj : j < 14 := by have := (List.getElem?_eq_some_iff.1 hv).1; rwa [aeC_length] at this
    rw [Addr.add_lit, Nat.add_assoc, h j hj, hv])

/-- From when to when adjusted spans are. -/
def bndStep (b : Int × Int) (e : AE) : Int × Int := (min b.1 e.a.s.start, max b.2 (e.a.s.start + e.a.s.length))
def bnds : List AE → Int × Int
  | [] => (0, 0)
  | e :: l => (e :: l).foldl bndStep (e.a.s.start, e.a.s.start + e.a.s.length)
end Go.Proofs.Ythaiplhjekkooaa
