/- What comes in: a list of edges. -/
import Derived.Test.YthaiplhjekkooaaAdI
import Derived.Test.YthaiplhjekkooaaDeA
namespace Go.Proofs.Ythaiplhjekkooaa
open Go.ChangeShapes Go.WideShapes Go.ChangeAt Go.RowKit

def Ed.Ok (e : Ed) : Prop := e.b < 18446744073709551616 ∧ e.n < 18446744073709551616 ∧ e.f.size ≤ maxLen ∧ e.t.size ≤ maxLen
/-- Edges that came in. -/
structure InEd (w : World) (A : Option Addr) (n c : Nat) (l : List Ed) : Prop where
  rd : RbD w w.heap.size A l
  len : l.length = n
  max : n ≤ 9223372036854775807
  ok : ∀ e ∈ l, e.Ok
set_option maxRecDepth 100000 in
theorem open_edCells {H : Type} {enc : TypeId × Value → H} {W : World} {base : Nat} {held : Bool} {c0 c1 c2 c3 : Value} {fuel : Nat} {x : DataW H × List MemPlace}
    (h : DataW.trod enc Try.prog W base (fun _ => true) held fuel 47 [c0, c1, c2, c3] = some x) :
    ∃ e : Ed, [c0, c1, c2, c3] = edC e ∧ e.Ok := by
  obtain ⟨xs, n, _, _, hlen, hyl, hf⟩ := DataW.trod_struct Try.underlying47 h
  match xs, hyl with
  | [y0, y1, y2, y3], _ =>
    have cU : Try.prog.cellsOf 29 = 1 := by kernel_rfl
    have cS : Try.prog.cellsOf 9 = 1 := by kernel_rfl
    obtain ⟨cs, hcs⟩ : ∃ cs, [c0, c1, c2, c3] = cs := ⟨_, rfl⟩
    rw [hcs] at hf
    have h0 : DataW.trod enc Try.prog W base (fun _ => true) held n 29 ((cs.drop 0).take (Try.prog.cellsOf 29)) = some y0 := hf 0 _ rfl
    have h1 : DataW.trod enc Try.prog W base (fun _ => true) held n 9 ((cs.drop 1).take (Try.prog.cellsOf 9)) = some y1 := hf 1 _ rfl
    have h2 : DataW.trod enc Try.prog W base (fun _ => true) held n 9 ((cs.drop 2).take (Try.prog.cellsOf 9)) = some y2 := hf 2 _ rfl
    have h3 : DataW.trod enc Try.prog W base (fun _ => true) held n 29 ((cs.drop 3).take (Try.prog.cellsOf 29)) = some y3 := hf 3 _ rfl
    subst hcs
    rw [cU] at h0 h3
    rw [cS] at h1 h2
    simp only [List.drop_zero, List.drop_succ_cons, List.take_succ_cons, List.take_zero] at h0 h1 h2 h3
    obtain ⟨q0, e0, -, w0⟩ := DataW.trod_int Try.underlying29 h0
    obtain ⟨q1, e1, -, w1⟩ := DataW.trod_string Try.underlying9 h1
    obtain ⟨q2, e2, -, w2⟩ := DataW.trod_string Try.underlying9 h2
    obtain ⟨q3, e3, -, w3⟩ := DataW.trod_int Try.underlying29 h3
    simp at e0 e1 e2 e3
    subst e0 e1 e2 e3
    have r0 := u64_of w0
    have r3 := u64_of w3
    refine ⟨⟨q0.toNat, q1, q2, q3.toNat⟩, ?_, by show q0.toNat < _; omega, by show q3.toNat < _; omega, w1, w2⟩
    simp only [edC, Int.toNat_of_nonneg r0.1, Int.toNat_of_nonneg r3.1]
set_option maxRecDepth 100000 in
theorem open_inEd {H : Type} {enc : TypeId × Value → H} {W : World} {base b0 : Nat} {r : Reach} {held : Bool} {v : Value} {d : DataW H} {p : List MemPlace} (_hv : Value.okWide Try.prog W r b0 25 v)
    (h : DataW.Trod enc Try.prog W base (fun _ => true) held 25 v d p) : ∃ (A : Option Addr) (n c : Nat) (l : List Ed), v = .slice A n c ∧ InEd W A n c l := by
  obtain ⟨aa, len, cap, rfl⟩ := okWide_slice Try.underlying25 _hv
  obtain ⟨fuel, hf⟩ := h
  rcases Deep.open_slice Try.underlying25 hf with ⟨hcs, _⟩ | ⟨a, len, cap, m, n, D, Pl, hcs, hb, hl, hm, hmm, hx, hi⟩
  · simp [Value.cells] at hcs
    obtain ⟨rfl, rfl, rfl⟩ := hcs
    exact ⟨none, 0, 0, [], rfl, ⟨Rd.nil, rfl, by omega, fun e he => by cases he⟩⟩
  · simp [Value.cells] at hcs
    obtain ⟨rfl, rfl, rfl⟩ := hcs
    rw [if_pos rfl] at hmm
    subst hmm
    have hC : Try.prog.cellsOf 47 = 4 := by kernel_rfl
    rw [hC] at hi
    obtain ⟨l, hll, hw⟩ := list_of (fun i (e : Ed) => (∀ j, j < 4 → W.cell? ((a.add (i * 4)).add j) = (edC e)[j]?) ∧ e.Ok) len fun i hil => by
      obtain ⟨cs', hc, ht⟩ := hi i (by omega)
      obtain ⟨_, hcl, hat⟩ := World.cells?_some hc
      match cs', hcl with
      | [c0, c1, c2, c3], _ =>
        obtain ⟨e, he, hin⟩ := open_edCells ht
        refine ⟨e, fun j hj => ?_, hin⟩
        have h1 := hat j hj
        rw [he] at h1
        exact h1
    refine ⟨some a, _, _, l, rfl, ⟨?_, hll, by simp only [maxLen] at hm; omega, ?_⟩⟩
    · intro hne
      have hpos : 0 < l.length := by
        rcases Nat.eq_zero_or_pos l.length with h0 | h0
        · rw [List.eq_nil_of_length_eq_zero h0] at hne
          exact absurd rfl hne
        · exact h0
      obtain ⟨x0, hx0⟩ : ∃ x0, l[0]? = some x0 := ⟨_, List.getElem?_eq_getElem hpos⟩
      obtain ⟨b, off, spot⟩ := a
      have h0 := (hw 0 x0 hx0).1 0 (by omega)
      simp only [Nat.zero_mul, Addr.add] at h0
      have h1 : (edC x0)[0]? = some (.int .u64 x0.b) := rfl
      rw [h1] at h0
      have hspot : spot = none := by simpa using World.cell?_spot h0
      subst hspot
      refine ⟨b, off, rfl, World.block_lt_of_cell? W ⟨b, off, none⟩ (by simpa using h0), fun j u hu => ?_⟩
      have hj : j < l.length * 4 := by
        have := (List.getElem?_eq_some_iff.1 hu).1
        rwa [eds_length] at this
      obtain ⟨x1, hx1⟩ : ∃ x1, l[j / 4]? = some x1 := ⟨_, List.getElem?_eq_getElem (by omega)⟩
      have h2 := (hw (j / 4) x1 hx1).1 (j % 4) (Nat.mod_lt _ (by omega))
      have h3 := flatR_get edC_length hx1 (j % 4) (Nat.mod_lt _ (by omega))
      rw [Addr.add_lit, Addr.add_lit, Nat.add_assoc, show j / 4 * 4 + j % 4 = j from by omega] at h2
      rw [show j / 4 * 4 + j % 4 = j from by omega] at h3
      rw [h2, ← h3, hu]
    · intro e he
      obtain ⟨i, hi, hxi⟩ := List.getElem_of_mem he
      exact (hw i e (by rw [List.getElem?_eq_getElem hi, hxi])).2
end Go.Proofs.Ythaiplhjekkooaa
