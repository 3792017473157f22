/- Lists of spans: how they lie in memory; bootprintkit.SmallSpans, SameSpans. -/
import Derived.Deep.Cut
import Derived.Deep.RegionHeld3
import Derived.Test.YthaiplhjekkooaaCel
import Derived.Test.YthaiplhjekkooaaSpP0
import Derived.Test.YthaiplhjekkooaaLoadK
namespace Go.Proofs.Ythaiplhjekkooaa
open Go.RowKit

/-- A span as it lies: itself, and its tags' slice. -/
structure El where
  s : Sp
  A : Option Addr
  n : Nat
  c : Nat
def elC (e : El) : List Value := (spC e.s e.A e.n e.c).toList
theorem elC_length (e : El) : (elC e).length = 11 := rfl
def els (l : List El) : List Value := l.flatMap elC
theorem els_length (l : List El) : (els l).length = l.length * 11 := by
  induction l with
  | nil => rfl
  | cons e l ih =>
    have : els (e :: l) = elC e ++ els l := rfl
    rw [this, List.length_append, ih, elC_length, List.length_cons]
    omega
theorem els_append (a b : List El) : els (a ++ b) = els a ++ els b := by simp [els]
theorem els_get : ∀ {l : List El} {i : Nat} {e : El}, l[i]? = some e → ∀ j, j < 11 → (els l)[i * 11 + j]? = (elC e)[j]? := by
  intro l
  induction l with
  | nil => intro i e h; simp at h
  | cons u l ih =>
    intro i e h j hj
    have q : els (u :: l) = elC u ++ els l := rfl
    rw [q]
    cases i with
    | zero =>
      simp at h
      subst h
      rw [List.getElem?_append_left (by rw [elC_length]; omega), Nat.zero_mul, Nat.zero_add]
    | succ i =>
      have := ih (i := i) (e := e) (by simpa using h) j hj
      rw [List.getElem?_append_right (by rw [elC_length]; omega), elC_length, show (i + 1) * 11 + j - 11 = i * 11 + j from by omega]
      exact this
theorem els_one (l : List El) : ∀ u ∈ els l, u.oneCell' = true := by
  intro u hu
  obtain ⟨e, _, he⟩ := List.mem_flatMap.1 hu
  have := spC_one e.s e.A e.n e.c
  rw [Array.all_eq_true'] at this
  exact this u (by simpa [elC] using he)
theorem els_take (l : List El) (k : Nat) : (els l).take (k * 11) = els (l.take k) := by
  induction l generalizing k with
  | nil => simp [els]
  | cons e l ih =>
    cases k with
    | zero => simp [els]
    | succ k =>
      have q : els (e :: l) = elC e ++ els l := rfl
      have q2 : els ((e :: l).take (k + 1)) = elC e ++ els (l.take k) := rfl
      rw [q, q2, ← ih k, List.take_append, elC_length, List.take_of_length_le (by rw [elC_length]; omega), show (k + 1) * 11 - 11 = k * 11 from by omega]
theorem els_drop (l : List El) (k : Nat) : (els l).drop (k * 11) = els (l.drop k) := by
  induction l generalizing k with
  | nil => simp [els]
  | cons e l ih =>
    cases k with
    | zero => simp [els]
    | succ k =>
      have q : els (e :: l) = elC e ++ els l := rfl
      have q2 : els ((e :: l).drop (k + 1)) = els (l.drop k) := rfl
      rw [q, q2, ← ih k, List.drop_append, elC_length, List.drop_eq_nil_of_le (by rw [elC_length]; omega), show (k + 1) * 11 - 11 = k * 11 from by omega, List.nil_append]
/-- A span's tags lie where it says. -/
structure ElOk (w : World) (B : Nat) (e : El) : Prop where
  rd : RbT w B e.A e.s.tags
  len : e.s.tags.length = e.n
  max : e.n ≤ 9223372036854775807
theorem ElOk.below {w w' : World} {B : Nat} {e : El} (h : ElOk w B e) (hb : Below B w w') : ElOk w' B e := ⟨Rd.below h.rd hb, h.len, h.max⟩
theorem ElOk.more {w : World} {B B' : Nat} {e : El} (h : ElOk w B e) (hb : B ≤ B') : ElOk w B' e := ⟨Rd.more h.rd hb, h.len, h.max⟩
/-- Spans that lie from A on, and their tags. -/
structure RbS (w : World) (B : Nat) (A : Option Addr) (l : List El) : Prop where
  rd : Rd w B A (els l)
  ok : ∀ e ∈ l, ElOk w B e
section
variable {w w' : World} {B B' : Nat} {A : Option Addr} {l : List El}
theorem RbS.nil : RbS w B A [] := ⟨Rd.nil, fun _ h => by cases h⟩
theorem RbS.below (h : RbS w B A l) (hb : Below B w w') : RbS w' B A l := ⟨Rd.below h.rd hb, fun e he => (h.ok e he).below hb⟩
theorem RbS.more (h : RbS w B A l) (hB : B ≤ B') : RbS w B' A l := ⟨Rd.more h.rd hB, fun e he => (h.ok e he).more hB⟩
theorem RbS.bS (h : RbS w w.heap.size A l) (hb : Below w.heap.size w w') : RbS w' w'.heap.size A l := (h.below hb).more hb.size
theorem RbS.drewN (h : RbS w B A l) (k : Nat) : RbS (w.drewN k) B A l := ⟨Rd.drewN h.rd k, fun e he => ⟨Rd.drewN (h.ok e he).rd k, (h.ok e he).len, (h.ok e he).max⟩⟩
theorem RbS.get (h : RbS w B A l) {i : Nat} {e : El} (hi : l[i]? = some e) :
    ∃ b o, A = some ⟨b, o, none⟩ ∧ b < B ∧ (∀ j, j < 11 → w.cell? ⟨b, o + i * 11 + j, none⟩ = (elC e)[j]?) ∧ ElOk w B e := by
  have hl := (List.getElem?_eq_some_iff.1 hi).1
  obtain ⟨b, o, hA, hb, hc⟩ := h.rd (by intro e0; have := els_length l; rw [e0, List.length_nil] at this; omega)
  refine ⟨b, o, hA, hb, fun j hj => ?_, h.ok e (List.mem_of_getElem? hi)⟩
  have h1 := els_get hi j hj
  have h2 : j < (elC e).length := by rw [elC_length]; exact hj
  rw [List.getElem?_eq_getElem h2] at h1 ⊢
  rw [Nat.add_assoc]
  exact hc _ _ h1
end
/-- The load of a whole span out of a row, shut. -/
theorem run_loadVar_cells {P : Program} (w : World) (ty : TypeId) (d : TypeDesc) (a : Addr) (xs : List Value) (hu : P.underlying ty = some d) (hd : (match d with | .struct _ | .array _ _ => true | _ => false) = true) (hi : (P.info? ty).map (·.size) = some xs.length)
    (hc : ∀ j v, xs[j]? = some v → w.cell? (a.add j) = some v) : (loadVar ty a).run P w = .ok (.agg xs.toArray) w := by
  have hl := run_loadCells_list (P := P) w a xs hc
  cases hq : P.info? ty with
  | none => simp [hq] at hi
  | some i =>
    have hs : i.size = xs.length := by simpa [hq] using hi
    have hagg : (isAgg ty).run P w = .ok true w := by
      unfold isAgg
      rw [Sem.run_bind, run_underlying hu w]
      cases d <;> simp_all
    simp [loadVar, Sem.run_bind, hagg, sizeOf, typeInfo, hq, hs, hl]
set_option maxRecDepth 100000 in
theorem loadK_el {w : World} {b o : Nat} {e : El} (h : ∀ j, j < 11 → w.cell? ⟨b, o + j, none⟩ = (elC e)[j]?) : (loadK 43 ⟨b, o, none⟩).run Try.prog w = .ok (spV e.s e.A e.n e.c) w :=
  run_loadVar_cells w _ _ ⟨b, o, none⟩ (elC e) Try.underlying43 rfl (by rfl) (fun j v hv => by
    have hj : j < 11 := by have := (List.getElem?_eq_some_iff.1 hv).1; rwa [elC_length] at this
    rw [Addr.add_lit, h j hj, hv])
set_option maxRecDepth 100000 in
theorem loadK_sp {w : World} {g n c : Nat} {s : Sp} {A : Option Addr} (h : Bk w g 43 (spC s A n c)) : (loadK 43 ⟨g, 0, none⟩).run Try.prog w = .ok (spV s A n c) w :=
  run_loadVar_row w g _ _ (spC s A n c) (0, 0) _ h Try.underlying43 rfl (by rfl)
end Go.Proofs.Ythaiplhjekkooaa
