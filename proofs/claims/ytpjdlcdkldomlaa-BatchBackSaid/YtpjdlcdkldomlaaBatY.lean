/- BatchBack: a batch that came in. -/
import Derived.Test.YtpjdlcdkldomlaaBatX
import Derived.Test.YtpjdlcdkldomlaaBatO
namespace Go.Proofs.Ytpjdlcdkldomlaa
open Go.ChangeShapes Go.WideShapes Go.ChangeAt Go.RowKit

/-- Writes that came in. -/
structure InW (w : World) (A : Option Addr) (n c : Nat) (ws : List Wr) : Prop where
  rd : RbW w w.heap.size A ws
  len : ws.length = n
  cap : n ≤ c
  max : c ≤ maxLen
  byt : ∀ x ∈ ws, BytW x ∧ x.key.length ≤ maxLen ∧ x.val.length ≤ maxLen
/-- One write that came in: its three cells. -/
structure InX (w : World) (a : Addr) (x : Wr) (A1 : Option Addr) (n1 c1 : Nat) (A2 : Option Addr) (n2 c2 : Nat) : Prop where
  kind : w.cell? a = some (.int .i64 x.kind)
  key : w.cell? (a.add 1) = some (.slice A1 n1 c1)
  val : w.cell? (a.add 2) = some (.slice A2 n2 c2)
  k : InB w A1 n1 c1 x.key
  v : InB w A2 n2 c2 x.val
theorem open_inX {H : Type} {enc : TypeId × Value → H} {W : World} {base : Nat} {held : Bool} {cs : List Value} {fuel : Nat} {y : DataW H × List MemPlace} {a : Addr} {b0 : Nat}
    (hc : W.cells? b0 a 3 = some cs) (h : DataW.trod enc Try.prog W base (fun _ => true) held fuel 31 cs = some y) : ∃ x A1 n1 c1 A2 n2 c2, InX W a x A1 n1 c1 A2 n2 c2 := by
  obtain ⟨xs, n, _, _, hlen, hyl, hf⟩ := DataW.trod_struct Try.underlying31 h
  obtain ⟨_, hcl, hat⟩ := World.cells?_some hc
  match cs, hcl with
  | [v0, v1, v2], _ =>
    match xs, hyl with
    | [y0, y1, y2], _ =>
      have c0 : Try.prog.cellsOf 3 = 1 := by kernel_rfl
      have cB : Try.prog.cellsOf 22 = 1 := by kernel_rfl
      have h0 : DataW.trod enc Try.prog W base (fun _ => true) held n 3 (([v0, v1, v2].drop 0).take (Try.prog.cellsOf 3)) = some y0 := hf 0 _ rfl
      have h1 : DataW.trod enc Try.prog W base (fun _ => true) held n 22 (([v0, v1, v2].drop 1).take (Try.prog.cellsOf 22)) = some y1 := hf 1 _ rfl
      have h2 : DataW.trod enc Try.prog W base (fun _ => true) held n 22 (([v0, v1, v2].drop 2).take (Try.prog.cellsOf 22)) = some y2 := hf 2 _ rfl
      rw [c0] at h0
      rw [cB] at h1 h2
      simp only [List.drop_zero, List.drop_succ_cons, List.take_succ_cons, List.take_zero] at h0 h1 h2
      obtain ⟨kd, hk, -, -⟩ := DataW.trod_int Try.underlying3 h0
      obtain ⟨A1, n1, c1, key, e1, k1⟩ := open_fB h1
      obtain ⟨A2, n2, c2, val, e2, k2⟩ := open_fB h2
      simp at hk
      subst hk e1 e2
      refine ⟨⟨kd, key, val⟩, A1, n1, c1, A2, n2, c2, ?_, ?_, ?_, k1, k2⟩
      · have := hat 0 (by omega)
        simpa [Addr.add] using this
      · exact hat 1 (by omega)
      · exact hat 2 (by omega)
theorem list_of {α : Type} (P : Nat → α → Prop) : ∀ (n : Nat), (∀ i, i < n → ∃ x, P i x) → ∃ l : List α, l.length = n ∧ ∀ i x, l[i]? = some x → P i x
  | 0, _ => ⟨[], rfl, fun i x h => by simp at h⟩
  | n + 1, h => by
    obtain ⟨l, hl, hp⟩ := list_of P n fun i hi => h i (by omega)
    obtain ⟨x, hx⟩ := h n (by omega)
    refine ⟨l ++ [x], by simp [hl], fun i y hy => ?_⟩
    by_cases hi : i < l.length
    · rw [List.getElem?_append_left hi] at hy
      exact hp i y hy
    · have hin : i = n := by
        have := (List.getElem?_eq_some_iff.1 hy).1
        simp at this
        omega
      subst hin
      rw [List.getElem?_append_right (by omega), hl, Nat.sub_self] at hy
      simp at hy
      subst hy
      exact hx
theorem open_fW {H : Type} {enc : TypeId × Value → H} {W : World} {base : Nat} {held : Bool} {v : Value} {fuel : Nat} {x : DataW H × List MemPlace}
    (h : DataW.trod enc Try.prog W base (fun _ => true) held fuel 34 [v] = some x) : ∃ A n c ws, v = .slice A n c ∧ InW W A n c ws := by
  rcases Deep.open_slice Try.underlying34 h with ⟨hcs, _⟩ | ⟨a, len, cap, m, n, D, Pl, hcs, hb, hl, hm, hmm, hx, hi⟩
  · simp at hcs
    subst hcs
    exact ⟨none, 0, 0, [], rfl, ⟨[], Rd.nil, fun i x hx => by simp at hx⟩, rfl, Nat.le_refl _, by simp [maxLen], fun x hx => by simp at hx⟩
  · simp at hcs
    subst hcs
    rw [if_pos rfl] at hmm
    subst hmm
    have hC : Try.prog.cellsOf 31 = 3 := by kernel_rfl
    rw [hC] at hi
    obtain ⟨ws, hwl, hw⟩ := list_of (fun i x => ∃ A1 n1 c1 A2 n2 c2, InX W (a.add (i * 3)) x A1 n1 c1 A2 n2 c2) len fun i hil => by
      obtain ⟨cs', hc, ht⟩ := hi i (by omega)
      exact open_inX hc ht
    refine ⟨some a, len, m, ws, rfl, ⟨(List.range (len * 3)).map fun j => (W.cell? (a.add j)).getD (.bool false), ?_, ?_⟩, hwl, hl, hm, ?_⟩
    · intro hne
      have hpos : 0 < len := by
        rcases Nat.eq_zero_or_pos len with h0 | h0
        · rw [h0] at hne; simp at hne
        · exact h0
      obtain ⟨x0, hx0⟩ : ∃ x0, ws[0]? = some x0 := ⟨_, List.getElem?_eq_getElem (by omega)⟩
      obtain ⟨A1, n1, c1, A2, n2, c2, hX⟩ := hw 0 x0 hx0
      obtain ⟨b, off, spot⟩ := a
      have h0 := hX.kind
      simp only [Nat.zero_mul, Addr.add] at h0
      have hspot : spot = none := by simpa using World.cell?_spot h0
      subst hspot
      refine ⟨b, off, rfl, World.block_lt_of_cell? W ⟨b, off, none⟩ (by simpa using h0), fun j u hu => ?_⟩
      rw [List.getElem?_map] at hu
      by_cases hj : j < len * 3
      · rw [List.getElem?_range hj] at hu
        simp at hu
        obtain ⟨x1, hx1⟩ : ∃ x1, ws[j / 3]? = some x1 := ⟨_, List.getElem?_eq_getElem (by omega)⟩
        obtain ⟨B1, m1, d1, B2, m2, d2, hY⟩ := hw (j / 3) x1 hx1
        have hcell : ∃ u', W.cell? (Addr.add ⟨b, off, none⟩ j) = some u' := by
          have h3 : j % 3 = 0 ∨ j % 3 = 1 ∨ j % 3 = 2 := by omega
          rcases h3 with h3 | h3 | h3
          · exact ⟨_, by have := hY.kind; rwa [show j / 3 * 3 = j from by omega] at this⟩
          · exact ⟨_, by have := hY.key; rwa [Go.Deep.add_add, show j / 3 * 3 + 1 = j from by omega] at this⟩
          · exact ⟨_, by have := hY.val; rwa [Go.Deep.add_add, show j / 3 * 3 + 2 = j from by omega] at this⟩
        obtain ⟨u', hu'⟩ := hcell
        rw [hu'] at hu
        simp at hu
        subst hu
        rw [Addr.add_lit] at hu'
        exact hu'
      · rw [List.getElem?_eq_none (by simpa using hj)] at hu
        cases hu
    · intro i x hx
      obtain ⟨A1, n1, c1, A2, n2, c2, hX⟩ := hw i x hx
      have hil : i < len := by have := (List.getElem?_eq_some_iff.1 hx).1; omega
      have k0 := hX.kind
      have k1 := hX.key
      have k2 := hX.val
      rw [Go.Deep.add_add] at k1 k2
      refine ⟨A1, c1, A2, c2, ?_, ?_, ?_, by have := hX.k.len; have := hX.k.cap; omega, hX.k.rd, by have := hX.v.len; have := hX.v.cap; omega, hX.v.rd, hX.k.nil, hX.v.nil⟩
      · rw [List.getElem?_map, List.getElem?_range (by omega)]
        simp [k0]
      · rw [List.getElem?_map, List.getElem?_range (by omega), hX.k.len]
        simp [k1]
      · rw [List.getElem?_map, List.getElem?_range (by omega), hX.v.len]
        simp [k2]
    · intro x hx
      obtain ⟨i, hi, hxi⟩ := List.getElem_of_mem hx
      obtain ⟨A1, n1, c1, A2, n2, c2, hX⟩ := hw i x (by rw [List.getElem?_eq_getElem hi, hxi])
      exact ⟨⟨hX.k.byt, hX.v.byt⟩, by have := hX.k.len; have := hX.k.cap; have := hX.k.max; omega, by have := hX.v.len; have := hX.v.cap; have := hX.v.max; omega⟩
/-- A batch that came in. -/
theorem open_inBat {H : Type} {enc : TypeId × Value → H} {W : World} {base b0 : Nat} {r : Reach} {held : Bool} {v : Value} {d : DataW H} {p : List MemPlace} (hv : Value.okWide Try.prog W r b0 36 v)
    (h : DataW.Trod enc Try.prog W base (fun _ => true) held 36 v d p) : ∃ (seq : Nat) (A : Option Addr) (n c : Nat) (ws : List Wr), v = .agg #[.int .u64 seq, .slice A n c] ∧ (seq < 18446744073709551616 ∧ InW W A n c ws) := by
  obtain ⟨v0, v1, y0, y1, n, rfl, -, -, h0, h1⟩ := Go.Joins.open_agg2 Try.underlying36 (by kernel_rfl) (by kernel_rfl) hv h
  obtain ⟨A, m, c, ws, rfl, hw⟩ := open_fW h1
  obtain ⟨s, hs, -, hsw⟩ := DataW.trod_int Try.underlying23 h0
  simp at hs
  subst hs
  have hs0 : 0 ≤ s ∧ s < 18446744073709551616 := by
    simp [Lit.wf, IntKind.min, IntKind.max, IntKind.signed, IntKind.bits] at hsw
    omega
  exact ⟨s.toNat, A, m, c, ws, by rw [Int.toNat_of_nonneg hs0.1], by omega, hw⟩
end Go.Proofs.Ytpjdlcdkldomlaa
