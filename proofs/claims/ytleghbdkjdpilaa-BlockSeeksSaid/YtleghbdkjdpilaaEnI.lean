/- What comes in: a slice of entries, with the bounds that the form gives (no slice of more bytes than a machine's reach). -/
import Derived.Test.YtleghbdkjdpilaaBkA
import Derived.Test.YtleghbdkjdpilaaOpen
import Derived.SizedLaws
import Derived.Deep.Slices
namespace Go.Proofs.Ytleghbdkjdpilaa
open Go.ChangeShapes Go.WideShapes Go.ChangeAt Go.RowKit

/-- A field that is a slice of bytes, no longer than a machine's reach. -/
theorem open_fBw {H : Type} {enc : TypeId × Value → H} {W : World} {base : Nat} {held : Bool} {v : Value} {fuel : Nat} {x : DataW H × List MemPlace}
    (h : DataW.trod enc Try.prog W base (fun _ => true) held fuel 26 [v] = some x) (hw : ∀ n ∈ x.1.weights Try.prog 26, n ≤ reachBytes) :
    ∃ A n c zs, v = .slice A n c ∧ InB W A n c zs ∧ n ≤ reachBytes := by
  rcases Deep.open_slice Try.underlying26 h with ⟨hcs, _⟩ | ⟨a, len, cap, m, n, D, Pl, hcs, hb, hl, hm, hmm, hx, hi⟩
  · simp at hcs
    subst hcs
    obtain ⟨zs, hi⟩ := open_inB (enc := enc) (d := x.1) (p := x.2) ⟨fuel, h⟩
    exact ⟨_, _, _, zs, rfl, hi, Nat.zero_le _⟩
  · simp at hcs
    subst hcs
    obtain ⟨zs, hi⟩ := open_inB (enc := enc) (d := x.1) (p := x.2) ⟨fuel, h⟩
    refine ⟨_, _, _, zs, rfl, hi, ?_⟩
    have h1 : Try.prog.bytesOf 5 = 1 := by kernel_rfl
    have h2 := hw (len * 1 + (m - len) * 1) (by
      rw [hx]
      simp only [DataW.weights, Try.underlying26, h1, List.length_map, List.length_range]
      exact List.mem_cons.2 (.inl (by omega)))
    omega
/-- An entry's four cells that came in. -/
theorem open_enCells {H : Type} {enc : TypeId × Value → H} {W : World} {base : Nat} {held : Bool} {v0 v1 v2 v3 : Value} {fuel : Nat} {x : DataW H × List MemPlace}
    (h : DataW.trod enc Try.prog W base (fun _ => true) held fuel 29 [v0, v1, v2, v3] = some x) (hw : ∀ n ∈ x.1.weights Try.prog 29, n ≤ reachBytes) :
    ∃ e : BE, [v0, v1, v2, v3] = beC e ∧ BeOk W W.heap.size e ∧ e.x.key.length ≤ reachBytes ∧ e.x.val.length ≤ reachBytes := by
  obtain ⟨xs, n, _, hx, hlen, hyl, hf⟩ := DataW.trod_struct Try.underlying29 h
  match xs, hyl with
  | [y0, y1, y2, y3], _ =>
    have c0 : Try.prog.cellsOf 3 = 1 := by kernel_rfl
    have c1 : Try.prog.cellsOf 27 = 1 := by kernel_rfl
    have cB : Try.prog.cellsOf 26 = 1 := by kernel_rfl
    have h0 : DataW.trod enc Try.prog W base (fun _ => true) held n 26 (([v0, v1, v2, v3].drop 0).take (Try.prog.cellsOf 26)) = some y0 := hf 0 _ rfl
    have h1 : DataW.trod enc Try.prog W base (fun _ => true) held n 27 (([v0, v1, v2, v3].drop 1).take (Try.prog.cellsOf 27)) = some y1 := hf 1 _ rfl
    have h2 : DataW.trod enc Try.prog W base (fun _ => true) held n 3 (([v0, v1, v2, v3].drop 2).take (Try.prog.cellsOf 3)) = some y2 := hf 2 _ rfl
    have h3 : DataW.trod enc Try.prog W base (fun _ => true) held n 26 (([v0, v1, v2, v3].drop 3).take (Try.prog.cellsOf 26)) = some y3 := hf 3 _ rfl
    rw [c0] at h2
    rw [c1] at h1
    rw [cB] at h0 h3
    simp only [List.drop_zero, List.drop_succ_cons, List.take_succ_cons, List.take_zero] at h0 h1 h2 h3
    have hws : ∀ m, (m ∈ y0.1.weights Try.prog 26 ∨ m ∈ y3.1.weights Try.prog 26) → m ≤ reachBytes := fun m hm => hw m (by
      rw [hx]
      show m ∈ DataW.weights Try.prog 29 (.agg [y0.1, y1.1, y2.1, y3.1])
      have e : DataW.weights Try.prog 29 (.agg [y0.1, y1.1, y2.1, y3.1]) = y0.1.weights Try.prog 26 ++ (y1.1.weights Try.prog 27 ++ (y2.1.weights Try.prog 3 ++ (y3.1.weights Try.prog 26 ++ []))) := by
        simp only [DataW.weights, Try.underlying29]
        rfl
      rw [e]
      simp only [List.mem_append]
      rcases hm with hm | hm
      · exact .inl hm
      · exact .inr (.inr (.inr (.inl hm))))
    obtain ⟨A1, n1, c1, key, e1, k1, m1⟩ := open_fBw h0 fun m hm => hws m (.inl hm)
    obtain ⟨A2, n2, c2, val, e2, k2, m2⟩ := open_fBw h3 fun m hm => hws m (.inr hm)
    obtain ⟨s, hs, -, hsw⟩ := DataW.trod_int Try.underlying27 h1
    obtain ⟨kd, hk, -, -⟩ := DataW.trod_int (k := .i64) (by kernel_rfl) h2
    simp at hs hk
    subst hs hk e1 e2
    have hs0 : 0 ≤ s ∧ s < 18446744073709551616 := by
      simp [Lit.wf, IntKind.min, IntKind.max, IntKind.signed, IntKind.bits] at hsw
      omega
    have q1 := k1.len
    have q2 := k2.len
    have q3 := k1.cap
    have q4 := k2.cap
    have q5 := k1.max
    have q6 := k2.max
    refine ⟨⟨⟨key, s.toNat, kd, val⟩, A1, c1, A2, c2⟩, ?_, ⟨k1.rd, k2.rd, by show key.length ≤ c1; omega, by show val.length ≤ c2; omega, by show key.length ≤ maxLen; omega, by show val.length ≤ maxLen; omega, k1.byt, k2.byt, by show s.toNat < _; omega, k1.nil, k2.nil⟩, by show key.length ≤ _; omega, by show val.length ≤ _; omega⟩
    show _ = [Value.slice A1 key.length c1, .int .u64 (s.toNat : Nat), .int .i64 kd, .slice A2 val.length c2]
    rw [q1, q2, Int.toNat_of_nonneg hs0.1]
/-- Entries that came in. -/
structure InEs (w : World) (A : Option Addr) (n c : Nat) (l : List BE) : Prop where
  rd : RbE w w.heap.size A l
  len : l.length = n
  cap : n ≤ c
  max : c ≤ maxLen
  wt : ∀ e ∈ l, e.x.key.length ≤ reachBytes ∧ e.x.val.length ≤ reachBytes
theorem weightsAll_mem {H : Type} {P : Program} {e : TypeId} : ∀ {ds : List (DataW H)} {d : DataW H}, d ∈ ds → ∀ n ∈ d.weights P e, n ∈ DataW.weightsAll P e ds
  | d0 :: ds, d, h, n, hn => by
    rw [DataW.weightsAll, List.mem_append]
    rcases List.mem_cons.1 h with rfl | h
    · exact .inl hn
    · exact .inr (weightsAll_mem h n hn)
theorem listOf {α : Type} (P : Nat → α → Prop) : ∀ (n : Nat), (∀ i, i < n → ∃ x, P i x) → ∃ l : List α, l.length = n ∧ ∀ i x, l[i]? = some x → P i x
  | 0, _ => ⟨[], rfl, fun i x h => by simp at h⟩
  | n + 1, h => by
    obtain ⟨l, hl, hp⟩ := listOf P n fun i hi => h i (by omega)
    obtain ⟨x, hx⟩ := h n (by omega)
    refine ⟨l ++ [x], by simp [hl], fun i y hy => ?_⟩
    by_cases hi : i < l.length
    · rw [List.getElem?_append_left hi] at hy
      exact hp i y hy
    · have hin : i = n := by
        have := (List.getElem?_eq_some_iff.1 hy).1
        simp at this
        omega
      subst hin
      rw [List.getElem?_append_right (by omega), hl, Nat.sub_self] at hy
      simp at hy
      subst hy
      exact hx
set_option maxRecDepth 100000 in
theorem open_inEs {H : Type} {enc : TypeId × Value → H} {W : World} {base b0 : Nat} {r : Reach} {held : Bool} {v : Value} {d : DataW H} {p : List MemPlace} (_hv : Value.okWide Try.prog W r b0 22 v)
    (h : DataW.Trod enc Try.prog W base (fun _ => true) held 22 v d p) (hw : ∀ n ∈ d.weights Try.prog 22, n ≤ reachBytes) :
    ∃ (A : Option Addr) (n c : Nat) (l : List BE), v = .slice A n c ∧ InEs W A n c l := by
  obtain ⟨aa, len, cap, rfl⟩ := okWide_slice Try.underlying22 _hv
  obtain ⟨fuel, hf⟩ := h
  rcases Deep.open_slice Try.underlying22 hf with ⟨hcs, _⟩ | ⟨a, len, cap, m, n, D, Pl, hcs, hb, hl, hm, hmm, hx, hi⟩
  · simp [Value.cells] at hcs
    obtain ⟨rfl, rfl, rfl⟩ := hcs
    exact ⟨none, 0, 0, [], rfl, ⟨RbE.nil, rfl, Nat.le_refl _, by simp [maxLen], fun e he => by cases he⟩⟩
  · simp [Value.cells] at hcs
    obtain ⟨rfl, rfl, rfl⟩ := hcs
    rw [if_pos rfl] at hmm
    subst hmm
    have hC : Try.prog.cellsOf 29 = 4 := by kernel_rfl
    rw [hC] at hi
    obtain ⟨hd, -⟩ := Prod.mk.inj hx
    have hwi : ∀ i, i < len → ∀ m' ∈ (D i).weights Try.prog 29, m' ≤ reachBytes := fun i hil m' hm' => hw m' (by
      rw [hd]
      simp only [DataW.weights, Try.underlying22]
      refine List.mem_cons_of_mem _ (List.mem_append_left _ (weightsAll_mem (d := D i) (List.mem_map.2 ⟨i, List.mem_range.2 hil, rfl⟩) m' hm')))
    obtain ⟨l, hll, hl2⟩ := listOf (fun i (e : BE) => (∀ j, j < 4 → W.cell? ((a.add (i * 4)).add j) = (beC e)[j]?) ∧ BeOk W W.heap.size e ∧ e.x.key.length ≤ reachBytes ∧ e.x.val.length ≤ reachBytes) len fun i hil => by
      obtain ⟨cs', hc, ht⟩ := hi i (by omega)
      obtain ⟨_, hcl, hat⟩ := World.cells?_some hc
      match cs', hcl with
      | [c0, c1, c2, c3], _ =>
        obtain ⟨e, he, hok, hb1, hb2⟩ := open_enCells ht (hwi i hil)
        refine ⟨e, fun j hj => ?_, hok, hb1, hb2⟩
        have h1 := hat j hj
        rw [he] at h1
        exact h1
    refine ⟨some a, _, _, l, rfl, ⟨⟨?_, ?_⟩, hll, hl, hm, ?_⟩⟩
    · intro hne
      have hpos : 0 < l.length := by
        rcases Nat.eq_zero_or_pos l.length with h0 | h0
        · rw [List.eq_nil_of_length_eq_zero h0] at hne
          exact absurd rfl hne
        · exact h0
      obtain ⟨x0, hx0⟩ : ∃ x0, l[0]? = some x0 := ⟨_, List.getElem?_eq_getElem hpos⟩
      obtain ⟨b, off, spot⟩ := a
      have h0 := (hl2 0 x0 hx0).1 0 (by omega)
      simp only [Nat.zero_mul, Addr.add] at h0
      have h1 : (beC x0)[0]? = some (.slice x0.A1 x0.x.key.length x0.c1) := rfl
      rw [h1] at h0
      have hspot : spot = none := by simpa using World.cell?_spot h0
      subst hspot
      refine ⟨b, off, rfl, World.block_lt_of_cell? W ⟨b, off, none⟩ (by simpa using h0), fun j u hu => ?_⟩
      have hj : j < l.length * 4 := by
        have := (List.getElem?_eq_some_iff.1 hu).1
        rwa [flatR_length beC_length] at this
      obtain ⟨x1, hx1⟩ : ∃ x1, l[j / 4]? = some x1 := ⟨_, List.getElem?_eq_getElem (by omega)⟩
      have h2 := (hl2 (j / 4) x1 hx1).1 (j % 4) (Nat.mod_lt _ (by omega))
      have h3 := flatR_get beC_length hx1 (j % 4) (Nat.mod_lt _ (by omega))
      rw [Addr.add_lit, Addr.add_lit, Nat.add_assoc, show j / 4 * 4 + j % 4 = j from by omega] at h2
      rw [show j / 4 * 4 + j % 4 = j from by omega] at h3
      rw [h2, ← h3, hu]
    · intro e he
      obtain ⟨i, hi, hxi⟩ := List.getElem_of_mem he
      exact (hl2 i e (by rw [List.getElem?_eq_getElem hi, hxi])).2.1
    · intro e he
      obtain ⟨i, hi, hxi⟩ := List.getElem_of_mem he
      exact (hl2 i e (by rw [List.getElem?_eq_getElem hi, hxi])).2.2
end Go.Proofs.Ytleghbdkjdpilaa
