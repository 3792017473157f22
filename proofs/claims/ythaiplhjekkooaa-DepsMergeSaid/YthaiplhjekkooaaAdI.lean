/- What comes in: a list of adjusted spans. -/
import Derived.Test.YthaiplhjekkooaaAdO
import Derived.Test.YthaiplhjekkooaaAeP
namespace Go.Proofs.Ythaiplhjekkooaa
open Go.ChangeShapes Go.WideShapes Go.ChangeAt Go.RowKit

theorem InAd.ae {w : World} {a : Ad} {A : Option Addr} {n c : Nat} (h : InAd w a A n c) : AeOk w w.heap.size ⟨a, A, n, c⟩ :=
  ⟨h.sp.tags.rd, h.sp.tags.len, by have h1 := h.sp.tags.cap; have h2 := h.sp.tags.max; simp only [maxLen] at h2; show n ≤ _; omega, h.ok⟩
/-- Adjusted spans that came in. -/
structure InAs (w : World) (A : Option Addr) (n c : Nat) (l : List AE) : Prop where
  rd : RbA w w.heap.size A l
  len : l.length = n
  cap : n ≤ c
  max : c ≤ maxLen
  i64 : ∀ e ∈ l, e.a.s.I64
set_option maxRecDepth 100000 in
theorem open_inAs {H : Type} {enc : TypeId × Value → H} {W : World} {base b0 : Nat} {r : Reach} {held : Bool} {v : Value} {d : DataW H} {p : List MemPlace} (_hv : Value.okWide Try.prog W r b0 22 v)
    (h : DataW.Trod enc Try.prog W base (fun _ => true) held 22 v d p) : ∃ (A : Option Addr) (n c : Nat) (l : List AE), v = .slice A n c ∧ InAs W A n c l := by
  obtain ⟨aa, len, cap, rfl⟩ := okWide_slice Try.underlying22 _hv
  obtain ⟨fuel, hf⟩ := h
  rcases Deep.open_slice Try.underlying22 hf with ⟨hcs, _⟩ | ⟨a, len, cap, m, n, D, Pl, hcs, hb, hl, hm, hmm, hx, hi⟩
  · simp [Value.cells] at hcs
    obtain ⟨rfl, rfl, rfl⟩ := hcs
    exact ⟨none, 0, 0, [], rfl, ⟨RbA.nil, rfl, Nat.le_refl _, by simp [maxLen], fun e he => by cases he⟩⟩
  · simp [Value.cells] at hcs
    obtain ⟨rfl, rfl, rfl⟩ := hcs
    rw [if_pos rfl] at hmm
    subst hmm
    have hC : Try.prog.cellsOf 45 = 14 := by kernel_rfl
    rw [hC] at hi
    obtain ⟨l, hll, hw⟩ := list_of (fun i (e : AE) => (∀ j, j < 14 → W.cell? ((a.add (i * 14)).add j) = (aeC e)[j]?) ∧ AeOk W W.heap.size e ∧ e.a.s.I64) len fun i hil => by
      obtain ⟨cs', hc, ht⟩ := hi i (by omega)
      obtain ⟨_, hcl, hat⟩ := World.cells?_some hc
      match cs', hcl with
      | [c0, c1, c2, c3, c4, c5, c6, c7, c8, c9, c10, c11, c12, c13], _ =>
        obtain ⟨s, A, n, c, he, hin⟩ := open_adCells ht
        refine ⟨⟨s, A, n, c⟩, fun j hj => ?_, hin.ae, hin.sp.i64⟩
        have h1 := hat j hj
        rw [he] at h1
        exact h1
    refine ⟨some a, _, _, l, rfl, ⟨⟨?_, ?_⟩, hll, hl, hm, ?_⟩⟩
    · intro hne
      have hpos : 0 < l.length := by
        rcases Nat.eq_zero_or_pos l.length with h0 | h0
        · rw [List.eq_nil_of_length_eq_zero h0] at hne
          exact absurd rfl hne
        · exact h0
      obtain ⟨x0, hx0⟩ : ∃ x0, l[0]? = some x0 := ⟨_, List.getElem?_eq_getElem hpos⟩
      obtain ⟨b, off, spot⟩ := a
      have h0 := (hw 0 x0 hx0).1 0 (by omega)
      simp only [Nat.zero_mul, Addr.add] at h0
      have h1 : (aeC x0)[0]? = some (.int .u64 x0.a.s.hi) := rfl
      rw [h1] at h0
      have hspot : spot = none := by simpa using World.cell?_spot h0
      subst hspot
      refine ⟨b, off, rfl, World.block_lt_of_cell? W ⟨b, off, none⟩ (by simpa using h0), fun j u hu => ?_⟩
      have hj : j < l.length * 14 := by
        have := (List.getElem?_eq_some_iff.1 hu).1
        rwa [flatR_length aeC_length] at this
      obtain ⟨x1, hx1⟩ : ∃ x1, l[j / 14]? = some x1 := ⟨_, List.getElem?_eq_getElem (by omega)⟩
      have h2 := (hw (j / 14) x1 hx1).1 (j % 14) (Nat.mod_lt _ (by omega))
      have h3 := flatR_get aeC_length hx1 (j % 14) (Nat.mod_lt _ (by omega))
      rw [Addr.add_lit, Addr.add_lit, Nat.add_assoc, show j / 14 * 14 + j % 14 = j from by omega] at h2
      rw [show j / 14 * 14 + j % 14 = j from by omega] at h3
      rw [h2, ← h3, hu]
    · intro e he
      obtain ⟨i, hi, hxi⟩ := List.getElem_of_mem he
      exact (hw i e (by rw [List.getElem?_eq_getElem hi, hxi])).2.1
    · intro e he
      obtain ⟨i, hi, hxi⟩ := List.getElem_of_mem he
      exact (hw i e (by rw [List.getElem?_eq_getElem hi, hxi])).2.2
end Go.Proofs.Ythaiplhjekkooaa
