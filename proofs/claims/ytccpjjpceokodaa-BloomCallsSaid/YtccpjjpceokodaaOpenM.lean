/- What comes in, read as the walks want it: slices of ints, slices of byte slices. -/
import Derived.Deep.Matrix
import Derived.Test.YtccpjjpceokodaaOpen
import Derived.Test.YtccpjjpceokodaaBLives
namespace Go.Proofs.Ytccpjjpceokodaa
open Go.ChangeShapes Go.WideShapes Go.ChangeAt Go.RowKit

theorem rd_of_cells {w : World} {k : IntKind} {A : Option Addr} {zs : List Int} {L : Nat} (hn : A = none → zs.length = 0) (hc : ∀ a, A = some a → ∀ c, c < zs.length → w.cell? (a.add c) = some (.int k (zs.getD c 0))) : Rd w w.heap.size A ((zs.take L).map (Value.int k)) := by
  intro hne
  have hpos : 0 < zs.length := by
    rcases Nat.eq_zero_or_pos zs.length with h0 | h0
    · rw [List.eq_nil_of_length_eq_zero h0] at hne; simp at hne
    · exact h0
  cases A with
  | none => have := hn rfl; omega
  | some a =>
    obtain ⟨b, off, spot⟩ := a
    have h0 := hc _ rfl 0 hpos
    have hspot : spot = none := by simpa [Addr.add] using World.cell?_spot h0
    subst hspot
    refine ⟨b, off, rfl, World.block_lt_of_cell? w ⟨b, off, none⟩ (by simpa [Addr.add] using h0), fun j u hu => ?_⟩
    rw [List.map_take, List.getElem?_take] at hu
    split at hu
    · have hj : j < zs.length := by
        have := (List.getElem?_eq_some_iff.1 hu).1
        simpa using this
      have h2 := hc _ rfl j hj
      rw [Addr.add_lit] at h2
      rw [h2, ← hu]
      simp [List.getD, hj]
    · cases hu

/-- A slice of ints that came in. -/
structure InI (w : World) (A : Option Addr) (n c : Nat) (zs : List Int) : Prop where
  rd : Ri w w.heap.size A zs
  len : zs.length = n
  cap : n ≤ c
  max : c ≤ maxLen
  wf : ∀ x ∈ zs, (Lit.int .i64 x).wf = true
theorem open_inI {H : Type} {enc : TypeId × Value → H} {W : World} {base : Nat} {held : Bool} {d : DataW H} {p : List MemPlace} {a : Option Addr} {len cap : Nat}
    (h : DataW.Trod enc Try.prog W base (fun _ => true) held 31 (.slice a len cap) d p) : ∃ zs, InI W a len cap zs := by
  obtain ⟨fuel, hf⟩ := h
  rcases open_ints Try.underlying31 Try.underlying3 (by kernel_rfl) hf with ⟨hcs, _⟩ | ⟨x, l, c, zs, hcs, _, hl, hm, hz, _, hcell, hwz⟩
  · simp [Value.cells] at hcs
    obtain ⟨rfl, rfl, rfl⟩ := hcs
    exact ⟨[], Rd.nil, rfl, Nat.le_refl _, by simp [maxLen], fun x hx => by simp at hx⟩
  · simp [Value.cells] at hcs
    obtain ⟨rfl, rfl, rfl⟩ := hcs
    have hz : zs.length = cap := by simpa using hz
    exact ⟨zs.take len, rd_of_cells (fun e => by cases e) (fun a e c hc => by cases e; exact hcell c hc), by simp; omega, hl, hm, fun y hy => hwz y (List.mem_of_mem_take hy)⟩

/-- A slice of byte slices that came in. -/
structure InM (w : World) (A : Option Addr) (n c : Nat) (zss : List (List Int)) : Prop where
  rd : RbM w w.heap.size A zss
  len : zss.length = n
  cap : n ≤ c
  max : c ≤ maxLen
  byt : ∀ z ∈ zss, Byt z ∧ z.length ≤ maxLen
theorem open_inM {H : Type} {enc : TypeId × Value → H} {W : World} {base : Nat} {held : Bool} {d : DataW H} {p : List MemPlace} {a : Option Addr} {len cap : Nat}
    (h : DataW.Trod enc Try.prog W base (fun _ => true) held 28 (.slice a len cap) d p) : ∃ zss, InM W a len cap zss := by
  obtain ⟨fuel, hf⟩ := h
  rcases Deep.open_int_rows Try.underlying28 Try.underlying25 Try.underlying5 (by kernel_rfl) (by kernel_rfl) hf with ⟨hcs, _⟩ | ⟨x, l, c, A, L, C, Z, hcs, _, hl, hm, _, hrow⟩
  · simp [Value.cells] at hcs
    obtain ⟨rfl, rfl, rfl⟩ := hcs
    exact ⟨[], RbM.of Rd.nil (Hs.nil _ _), rfl, Nat.le_refl _, by simp [maxLen], fun x hx => by simp at hx⟩
  · simp [Value.cells] at hcs
    obtain ⟨rfl, rfl, rfl⟩ := hcs
    refine ⟨(List.range len).map (fun r => (Z r).take (L r)), ⟨(List.range len).map (fun r => .slice (A r) (L r) (C r)), ?_, by simp, ?_⟩, by simp, hl, hm, ?_⟩
    · intro hne
      have hpos : 0 < len := by
        rcases Nat.eq_zero_or_pos len with h0 | h0
        · rw [h0] at hne; simp at hne
        · exact h0
      obtain ⟨b, off, spot⟩ := x
      have h0 := (hrow 0 (by omega)).1
      have hspot : spot = none := by simpa [Addr.add] using World.cell?_spot h0
      subst hspot
      refine ⟨b, off, rfl, World.block_lt_of_cell? W ⟨b, off, none⟩ (by simpa [Addr.add] using h0), fun j u hu => ?_⟩
      rw [List.getElem?_map] at hu
      by_cases hj : j < len
      · rw [List.getElem?_range hj] at hu
        have h2 := (hrow j (by omega)).1
        rw [Addr.add_lit] at h2
        rw [h2, ← hu]
        rfl
      · rw [List.getElem?_eq_none (by simpa using hj)] at hu
        cases hu
    · intro i zs hi
      rw [List.getElem?_map] at hi
      by_cases hj : i < len
      · rw [List.getElem?_range hj] at hi
        obtain ⟨h1, h2, h3, h4, h5, h6, h7⟩ := hrow i (by omega)
        cases hi
        have hlen : ((Z i).take (L i)).length = L i := by rw [List.length_take]; omega
        refine ⟨A i, C i, ?_, (by show ((Z i).take (L i)).length ≤ C i; omega), ?_⟩
        · show _ = some (Value.slice (A i) ((Z i).take (L i)).length (C i))
          rw [List.getElem?_map, List.getElem?_range hj, hlen]
          rfl
        · exact rd_of_cells (fun e => by rw [h4]; exact h6 e) (fun a' e c hc => (h7 a' e).2 c (by rw [← h4]; exact hc))
      · rw [List.getElem?_eq_none (by simpa using hj)] at hi
        cases hi
    · intro z hz
      obtain ⟨r, hr, rfl⟩ := List.mem_map.1 hz
      have hr := List.mem_range.1 hr
      obtain ⟨h1, h2, h3, h4, h5, h6, h7⟩ := hrow r (by omega)
      exact ⟨fun y hy => byte_wf (h5 y (List.mem_of_mem_take hy)), by rw [List.length_take]; omega⟩
end Go.Proofs.Ytccpjjpceokodaa
