/- append onto a slice that is full (slices.Clip): what it hands back lies where it lay, or in a new block. -/
import Derived.Test.YtleghbdkjdpilaaStr
namespace Go.Proofs.Ytleghbdkjdpilaa
open Go.RowKit

section
variable {P : Program} (w : World)
theorem run_appClip (t ty e : TypeId) (i : TypeInfo) (z : Value) (ht : P.underlying t = some (.slice e)) (hi : P.info? e = some i) (hz : i.zero = some z) (hsize : i.size = 1) (hby : i.bytes = 1)
    (B0 : Nat) (A0 : Option Addr) (n : Nat) (xs : List Value) (hxs : xs.length = n) (h0 : Rd w B0 A0 xs) (hB0 : B0 ≤ w.heap.size) (B : Nat) (A : Option Addr) (m c : Nat) (ys : List Value) (hys : ys.length = m) (hr : Rd w B A ys) (hbytes : n + m ≤ 140737488355328) :
    ∃ A' c' w', (Builtin.append_ #[t, t] ty #[.slice A0 n n, .slice A m c]).run P w = .ok (.slice A' (n + m) c') w' ∧ Rd w' w'.heap.size A' (xs ++ ys) ∧ Below w.heap.size w w' ∧ n + m ≤ c' ∧ c' ≤ maxLen ∧ (A' = none → A0 = none ∧ m = 0 ∧ c' = n) ∧ (∀ a, A' = some a → A0 = some a ∨ (w.heap.size ≤ a.block ∧ a.block < w'.heap.size)) := by
  by_cases hm : m = 0
  · subst hm
    have hy : ys = [] := List.eq_nil_of_length_eq_zero hys
    subst hy
    refine ⟨A0, n, w, ?_, by rw [List.append_nil]; exact Rd.more h0 hB0, Below.refl _ _, by omega, by simp only [maxLen]; omega, fun h => ⟨h, rfl, rfl⟩, fun a h => .inl h⟩
    cases A with
    | none => cases A0 <;> simp [Builtin.append_, run_underlying ht, sizeOf, typeInfo, hi, Builtin.lenOf, Builtin.firstCells, storeCells]
    | some ad =>
      have hf := run_firstCells_some (P := P) w i.size 0 ad 0 c [] (by simp) (by simp)
      cases A0 <;> simp [Builtin.append_, run_underlying ht, sizeOf, typeInfo, hi, Builtin.lenOf, hf, storeCells]
  · have hne : ys ≠ [] := by rintro rfl; simp at hys; omega
    obtain ⟨b, o, rfl, hb, hc⟩ := hr hne
    have hnews : ∀ j v, ys[j]? = some v → w.cell? ((⟨b, o, none⟩ : Addr).add j) = some v := fun j v hv => by rw [Addr.add_lit]; exact hc j v hv
    have hsz : (w.drew).heap.size = w.heap.size := rfl
    cases A0 with
    | none =>
      have hx : xs = [] := by
        by_cases hx : xs = []
        · exact hx
        · obtain ⟨b', o', e', _⟩ := h0 hx
          cases e'
      subst hx
      have hn : n = 0 := by simpa using hxs.symm
      subst hn
      have h := run_append_nil (P := P) w t ty e i z ht hi hz ⟨b, o, none⟩ m c ys (by rw [hsize]; omega) hnews (by omega) (by omega) (by rw [hby]; omega)
      rw [Nat.zero_add]
      refine ⟨_, _, _, h, ?_, ?_, grownCap_ge _ _ _ _, grownCap_le_maxLen _ _ _ _ (by simp only [maxLen]; omega), (fun h => by cases h), fun a h => .inr (by cases h; exact ⟨Nat.le_refl _, by simp⟩)⟩
      · refine Rd.more (Rd.of_alloc (w := w.drew) fun j u hu => ?_) (by simp)
        rw [List.nil_append] at hu
        rw [Array.getElem?_append_left (by simpa using (List.getElem?_eq_some_iff.1 hu).1)]
        simpa using hu
      · exact ((Below.refl _ w).drew).alloc (Nat.le_refl _) _
    | some a0 =>
      have holds : ∀ j v, xs[j]? = some v → w.cell? (a0.add j) = some v := fun j v hv => by
        obtain ⟨b', o', e', _, hc'⟩ := h0 (by rintro rfl; simp at hv)
        cases e'
        rw [Addr.add_lit]
        exact hc' j v hv
      have h := run_append_grow (P := P) w t ty e i z ht hi hz a0 n n xs (by rw [hsize]; omega) holds ⟨b, o, none⟩ m c ys (by rw [hsize]; omega) hnews (by omega) (by omega) (growslice_fits (by omega) (by rw [hby]; omega))
      refine ⟨_, _, _, h, ?_, ?_, grownCap_ge _ _ _ _, grownCap_le_maxLen _ _ _ _ (by simp only [maxLen]; omega), (fun h => by cases h), fun a h => .inr (by cases h; exact ⟨Nat.le_refl _, by simp⟩)⟩
      · refine Rd.more (Rd.of_alloc (w := w.drew) fun j u hu => ?_) (by simp)
        have hj := (List.getElem?_eq_some_iff.1 hu).1
        rw [Array.getElem?_append_left (by simpa using hj), List.append_toArray]
        simpa using hu
      · exact ((Below.refl _ w).drew).alloc (Nat.le_refl _) _
end
/-- append of bytes onto a full slice of bytes. -/
theorem wpList_appClip (w : World) {ops : Array Oper} {rest : List Oper} {o : Oper} {a : Act} {Q : Exit → Act → World → Prop} (hgd : o.guard = none) (s x : Operand)
    (ho : o.op = .call { callee := .builtin .append, args := #[s, x], argTypes := #[26, 26] })
    (B0 : Nat) (A0 : Option Addr) (n : Nat) (xs : List Int) (hs : a.eval s = .slice A0 n n) (hxs : xs.length = n) (h0 : Rb w B0 A0 xs) (hB0 : B0 ≤ w.heap.size)
    (B : Nat) (A : Option Addr) (m c : Nat) (ys : List Int) (hx : a.eval x = .slice A m c) (hys : ys.length = m) (hr : Rb w B A ys) (hbytes : n + m ≤ 140737488355328)
    (h : ∀ A' c' w', Rb w' w'.heap.size A' (xs ++ ys) → Below w.heap.size w w' → n + m ≤ c' → c' ≤ maxLen → (A' = none → A0 = none ∧ m = 0 ∧ c' = n) → (∀ a, A' = some a → A0 = some a ∨ (w.heap.size ≤ a.block ∧ a.block < w'.heap.size)) → wpList Try.prog ops Q rest (a.put o.dst (.slice A' (n + m) c')) w') :
    wpList Try.prog ops Q (o :: rest) a w := by
  obtain ⟨i0, hi0, hz0, hz1, hz2⟩ := info_parts (show (Try.prog.info? 5).map (fun i => (i.zero, i.size, i.bytes)) = some (some (.int .u8 0), 1, 1) from by kernel_rfl)
  obtain ⟨A', c', w', hrun, h2, h3, h4, h5, h6, h7⟩ := run_appClip (P := Try.prog) w _ o.type 5 i0 _ Try.underlying26 hi0 hz0 hz1 hz2 B0 A0 n (bv xs) (by rw [bv_length]; exact hxs) h0 hB0 B A m c (bv ys) (by rw [bv_length]; exact hys) hr hbytes
  refine wpList_plain hgd fun _ hK => ?_
  unfold Oper.wp execOp
  simp only [ho, resolve, invoke, builtin, Sem.run_bind, Sem.run_pure, Result.andThen_ok, List.map_toArray, List.map_cons, List.map_nil, hs, hx, hrun]
  rw [← bv_append] at h2
  exact hK _ _ (h A' c' w' h2 h3 h4 h5 h6 h7)
end Go.Proofs.Ytleghbdkjdpilaa
