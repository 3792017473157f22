/- Texts of the proof of SchemaApartSaid, joined: ScU LibT ByM ScTp Cel SpF SpF2a SpF2b. -/
import Derived.Test.YtlamebbolioljaaJSchemaApart7
import Derived.Lib.FrozenHead2
import Derived.Test.YtlamebbolioljaaJSchemaApart4
import Derived.Test.YtlamebbolioljaaJSchemaApart2
import Derived.Deep.QuietTactic
import Derived.Deep.Cut
/- schema.Writes: the ways out ahead of the loops; the values. -/
namespace Go.Proofs.Ytlamebbolioljaa
open Go.RowKit
theorem loadAd_shutU (a : Addr) : loadVar 45 a = loadK 45 a := rfl
attribute [local go_sem ↓] loadAd_shutU

/-- What Writes hands back. -/
def WrsPost (w : World) (r : List Wr × Nat) (e : Ending) (w' : World) : Prop :=
  ∃ A c, e = .returned (.tuple #[.slice A r.1.length c, .int .i64 r.2]) ∧ RbW w' w'.heap.size A r.1 ∧ Below w.heap.size w w' ∧ r.1.length ≤ c
theorem WrsPost.no {w w' : World} {q : Nat} (hb : Below w.heap.size w w') : WrsPost w ([], q) (.returned (.tuple #[.slice none 0 0, .int .i64 q])) w' :=
  ⟨none, 0, rfl, ⟨[], Rd.nil, fun i x h => by simp at h⟩, hb, Nat.le_refl _⟩
theorem scWritesNone (w : World) (c : Nat) (A : Option Addr) : Calls Try.prog 18 #[.slice A 0 c] w (WrsPost w ([], 2)) := by
  go_enter Try.func18, Try.ntmps18
  go_wp2
  go_ret2
  exact WrsPost.no (Below.refl _ _)
theorem scWritesLong (w : World) (n c : Nat) (A : Option Addr) (h : 32 < n) : Calls Try.prog 18 #[.slice A n c] w (WrsPost w ([], 3)) := by
  have h0 : ((n : Int) == 0) = false := by simp; omega
  have h1 : decide ((32 : Int) < (n : Int)) = true := by simp; omega
  go_enter Try.func18, Try.ntmps18
  go_wp2
  go_ret2
  exact WrsPost.no (Below.refl _ _)
theorem vlinfo : (Try.prog.info? 27).map (fun i => (i.zero, i.size, i.bytes)) = some (some (.slice none 0 0), 1, 24) := by kernel_rfl
/-- append of one byte slice to a row of them. -/
theorem wpList_appV (w : World) {ops : Array Oper} {rest : List Oper} {o : Oper} {a : Act} {Q : Exit → Act → World → Prop} (hgd : o.guard = none) (s x : Operand)
    (ho : o.op = .call { callee := .builtin .append, args := #[s, x], argTypes := #[84, 84] })
    (base : Nat) (v : Value) (n : Nat) (xs : List Value) (hs : a.eval s = v) (hown : w.ownsRow base 27 1 v n xs)
    (B : Nat) (A : Option Addr) (c : Nat) (news : List Value) (hx : a.eval x = .slice A 1 c) (hl : news.length = 1) (hr : Rd w B A news) (h1 : ∀ u ∈ news, u.oneCell' = true)
    (hbytes : n ≤ 1048576) (hbase : base ≤ w.heap.size)
    (h : ∀ A' c' w', App base 27 1 w v w' (.slice A' (n + 1) c') (n + 1) (xs ++ news) → wpList Try.prog ops Q rest (a.put o.dst (.slice A' (n + 1) c')) w') :
    wpList Try.prog ops Q (o :: rest) a w := by
  obtain ⟨i0, hi0, hz0, hz1, hz2⟩ := info_parts vlinfo
  refine wpList_app w hgd s x _ ho base 27 i0 _ 1 24 Try.underlying84 hi0 hz0 hz1 hz2 rfl (by omega) v n xs hs hown B A 1 c news hx (by rw [hl]) hr h1 (by simp only [maxLen]; omega) (by omega) hbase ?_
  intro A' c' w' h1 h2 h3 h4
  exact h A' c' w' ((App.refl hown).step h1 h2 h3)
end Go.Proofs.Ytlamebbolioljaa

/- A row of the call's own whose block bears a mark that freezes none of its cells ('[]byte(s)' lays one): append onto it; the words of Lib once more. -/
namespace Go.Proofs.Ytlamebbolioljaa
open Go.RowKit

/-- No cell below k is frozen by the mark. -/
def FreeT (fz : Nat × Nat) (k : Nat) : Prop := k ≤ fz.1 ∨ fz.2 = 0
theorem FreeT.not {fz : Nat × Nat} {k i : Nat} (h : FreeT fz k) (hi : i < k) : (decide (fz.1 ≤ i) && decide (i < fz.2)) = false := by
  rw [Bool.and_eq_false_iff, decide_eq_false_iff_not, decide_eq_false_iff_not]
  rcases h with h | h <;> omega

/-- As ownsRow, but for the block's mark. -/
def ownsT (w : World) (base : Nat) (e : TypeId) (size : Nat) (v : Value) (n : Nat) (xs : List Value) : Prop :=
  xs.length = n * size ∧
  ((v = .slice none 0 0 ∧ n = 0) ∨
   ∃ g cap cur fz, v = .slice (some ⟨g, 0, none⟩) n cap ∧ base ≤ g ∧ w.heap[g]? = some (.cells cur e fz) ∧ FreeT fz cur.size ∧ n ≤ cap ∧ cap ≤ maxLen ∧ cur.size = cap * size ∧ cur.toList.take (n * size) = xs)

section
variable {w : World} {base : Nat} {e : TypeId} {size : Nat} {v : Value} {n : Nat} {xs : List Value}
theorem ownsT.of (h : w.ownsRow base e size v n xs) : ownsT w base e size v n xs := by
  refine ⟨h.1, ?_⟩
  rcases h.2 with hn | ⟨g, cap, cur, hv, hb, hg, rest⟩
  · exact .inl hn
  · exact .inr ⟨g, cap, cur, (0, 0), hv, hb, hg, .inr rfl, rest⟩
theorem ownsT.lt (h : ownsT w base e size v n xs) : ∀ k, v.ownBlock = some k → base ≤ k ∧ k < w.heap.size := by
  intro k hk
  rcases h.2 with ⟨rfl, _⟩ | ⟨g, cap, cur, fz, rfl, hb, hg, _⟩
  · simp [Value.ownBlock] at hk
  · simp [Value.ownBlock] at hk
    subst hk
    exact ⟨hb, (Array.getElem?_eq_some_iff.1 hg).1⟩
theorem ownsT.kept {w' : World} {row : Option Nat} (h : ownsT w base e size v n xs) (hg : w.grownBy w' row) (hne : v.ownBlock = none ∨ v.ownBlock ≠ row) : ownsT w' base e size v n xs := by
  refine ⟨h.1, ?_⟩
  rcases h.2 with hn | ⟨g, cap, cur, fz, rfl, hb, hgg, rest⟩
  · exact .inl hn
  · refine .inr ⟨g, cap, cur, fz, rfl, hb, ?_, rest⟩
    rw [hg.block g (Array.getElem?_eq_some_iff.1 hgg).1 (by simpa [Value.ownBlock] using hne)]
    exact hgg
theorem ownsT.alloc (h : ownsT w base e size v n xs) (o : Obj) : ownsT (w.alloc o) base e size v n xs :=
  h.kept (World.grownBy_alloc w o none) (by cases hv : v.ownBlock <;> simp)
theorem ownsT.cells (h : ownsT w base e size v n xs) {g : Nat} (hg : v.ownBlock = some g) : ∀ j u, xs[j]? = some u → w.cell? ((⟨g, 0, none⟩ : Addr).add j) = some u := by
  intro j u hu
  rcases h.2 with ⟨rfl, _⟩ | ⟨g', cap, cur, fz, rfl, _, hgg, _, _, _, _, htake⟩
  · simp [Value.ownBlock] at hg
  · simp [Value.ownBlock] at hg
    subst hg
    have hadd : (⟨g', 0, none⟩ : Addr).add j = ⟨g', j, none⟩ := by unfold Addr.add; split <;> simp_all
    rw [hadd, cell_of_row w g' j cur e fz hgg]
    rw [← htake, List.getElem?_take] at hu
    split at hu
    · simpa using hu
    · cases hu
end

theorem run_storeCells_atT (P : Program) (g o : Nat) (t : TypeId) (fz : Nat × Nat) : ∀ (vs : List Value) (i : Nat) (cur : Array Value) (w : World), w.heap[g]? = some (.cells cur t fz) → FreeT fz cur.size → o + i + vs.length ≤ cur.size → (∀ v ∈ vs, v.oneCell' = true) →
    (storeCells ⟨g, o, none⟩ vs i).run P w = .ok () (w.setRow g (cur.toList.take (o + i) ++ vs ++ cur.toList.drop (o + i + vs.length)).toArray)
  | [], i, cur, w, hg, _, _, _ => by
    simp only [storeCells, List.append_nil, List.length_nil, Nat.add_zero, List.take_append_drop, Array.toArray_toList]
    rw [setRow_self w g cur t fz hg]
    rfl
  | v :: rest, i, cur, w, hg, hfz, hl, h1 => by
    have hi : o + i < cur.size := by simp at hl; omega
    have hadd : (⟨g, o, none⟩ : Addr).add i = ⟨g, o + i, none⟩ := by unfold Addr.add; split <;> simp_all
    have hcell : w.cell? ⟨g, o + i, none⟩ = some cur[o + i] := by simp [World.cell?, hg, hi]
    have hfro : w.frozen? ⟨g, o + i, none⟩ = false := by
      have := hfz.not hi
      obtain ⟨lo, hi'⟩ := fz
      simp only [World.frozen?, hg]
      exact this
    have hst : (store ((⟨g, o, none⟩ : Addr).add i) v).run P w = .ok () (w.setRow g (cur.setIfInBounds (o + i) v)) := by
      rw [hadd, run_store P w _ v _ (h1 v (by simp)), hcell]
      simp [hfro, setCell_eq_setRow w g (o + i) cur t fz v hg]
    have ih := run_storeCells_atT P g o t fz rest (i + 1) (cur.setIfInBounds (o + i) v) (w.setRow g (cur.setIfInBounds (o + i) v)) (setRow_heap w g cur _ t _ hg) (by rw [Array.size_setIfInBounds]; exact hfz) (by simp at hl ⊢; omega) (fun x hx => h1 x (by simp [hx]))
    simp only [storeCells, Sem.run_bind, hst, Result.andThen_ok, ih, setRow_setRow]
    congr 3
    have e := list_seg_step cur.toList (o + i) v rest (by simp at hl ⊢; omega)
    simpa [Array.toList_setIfInBounds, Nat.add_assoc] using e

section
variable {P : Program} (w : World)
theorem run_append_roomT (t ty e : TypeId) (i : TypeInfo) (ht : P.underlying t = some (.slice e)) (hi : P.info? e = some i)
    (g sLen sCap : Nat) (cur : Array Value) (fz : Nat × Nat) (hg : w.heap[g]? = some (.cells cur e fz)) (hfz : FreeT fz cur.size)
    (a : Addr) (m c : Nat) (news : List Value) (hl : news.length = m * i.size) (hnews : ∀ j u, news[j]? = some u → w.cell? (a.add j) = some u) (h1 : ∀ u ∈ news, u.oneCell' = true)
    (hroom : sLen + m ≤ sCap) (hfit : sLen * i.size + news.length ≤ cur.size) :
    (Builtin.append_ #[t, t] ty #[.slice (some ⟨g, 0, none⟩) sLen sCap, .slice (some a) m c]).run P w =
      .ok (.slice (some ⟨g, 0, none⟩) (sLen + m) sCap) (w.setRow g (cur.toList.take (sLen * i.size) ++ news ++ cur.toList.drop (sLen * i.size + news.length)).toArray) := by
  have hf := run_firstCells_some (P := P) w i.size m a m c news hl hnews
  have hst := run_storeCells_atT P g (sLen * i.size) e fz news 0 cur w hg hfz (by simpa using hfit) h1
  simp only [Nat.add_zero] at hst
  simp [Builtin.append_, run_underlying ht, sizeOf, typeInfo, hi, Builtin.lenOf, hroom, hf, Addr.add_lit, hst]

theorem run_append_ownT (base : Nat) (t ty e : TypeId) (i : TypeInfo) (z : Value) (size bytes : Nat) (ht : P.underlying t = some (.slice e)) (hi : P.info? e = some i) (hz : i.zero = some z)
    (hsize : i.size = size) (hby : i.bytes = bytes) (hzs : z.cells.size = size) (hsz : 0 < size)
    (v : Value) (n : Nat) (xs : List Value) (hown : ownsT w base e size v n xs)
    (a : Addr) (m c : Nat) (news : List Value) (hl : news.length = m * size) (hnews : ∀ j u, news[j]? = some u → w.cell? (a.add j) = some u) (h1 : ∀ u ∈ news, u.oneCell' = true)
    (h63 : n + m ≤ maxLen) (hbytes : (n + m) * bytes ≤ 140737488355328) (hbase : base ≤ w.heap.size) :
    ∃ v' w', (Builtin.append_ #[t, t] ty #[v, .slice (some a) m c]).run P w = .ok v' w' ∧ ownsT w' base e size v' (n + m) (xs ++ news) ∧ w.grownBy w' v.ownBlock ∧
      (v' = .slice none 0 0 ↔ v = .slice none 0 0 ∧ m = 0) ∧ (v'.ownBlock = v.ownBlock ∨ v'.ownBlock = some w.heap.size) := by
  rcases hown.2 with ⟨rfl, rfl⟩ | ⟨g, cap, cur, fz, rfl, hbg, hg, hfz, hnc, hcm, hcs, htake⟩
  · obtain ⟨v', w', r1, r2, r3, r4, r5⟩ := run_append_own_at (P := P) w base t ty e i z size bytes ht hi hz hsize hby hzs hsz (.slice none 0 0) 0 xs ⟨hown.1, .inl ⟨rfl, rfl⟩⟩ a m c news hl hnews h1 h63 hbytes hbase
    exact ⟨v', w', r1, ownsT.of r2, r3, r4, r5⟩
  · subst hsize
    subst hby
    have hsmall : n + m ≤ 9223372036854775807 := by simp only [maxLen] at h63; omega
    have hlen : (xs ++ news).length = (n + m) * i.size := by rw [List.length_append, hown.1, hl, Nat.add_mul]
    by_cases hroom : n + m ≤ cap
    · have hfit : n * i.size + news.length ≤ cur.size := by rw [hl, hcs, ← Nat.add_mul]; exact Nat.mul_le_mul_right _ hroom
      have hr := run_append_roomT (P := P) w t ty e i ht hi g n cap cur fz hg hfz a m c news hl hnews h1 hroom hfit
      have hsz2 : (cur.toList.take (n * i.size) ++ news ++ cur.toList.drop (n * i.size + news.length)).toArray.size = cur.size := by
        simp only [List.size_toArray, List.length_append, List.length_take, List.length_drop, Array.length_toList]
        omega
      refine ⟨_, _, hr, ⟨hlen, .inr ⟨g, cap, _, fz, rfl, hbg, setRow_heap w g cur _ e _ hg, by rw [hsz2]; exact hfz, hroom, hcm, by rw [hsz2]; exact hcs, ?_⟩⟩, ⟨rfl, rfl, rfl, by simp, fun k _ hk => setRow_other w g k _ (fun e => hk (by simp [Value.ownBlock, e]))⟩, by simp, .inl rfl⟩
      rw [htake, ← hlen]
      exact List.take_left
    · have holds : ∀ j u, xs[j]? = some u → w.cell? ((⟨g, 0, none⟩ : Addr).add j) = some u := hown.cells (g := g) rfl
      have hr := run_append_grow (P := P) w t ty e i z ht hi hz ⟨g, 0, none⟩ n cap xs hown.1 holds a m c news hl hnews (by omega) (by omega) (growslice_fits (by omega) hbytes)
      have hge := grownCap_ge w (n + m) cap e
      have hcm2 : grownCap w (n + m) cap e ≤ maxLen := grownCap_le_maxLen w (n + m) cap e h63
      refine ⟨_, _, hr, ⟨hlen, .inr ⟨w.heap.size, _, _, (0, 0), rfl, hbase, heap_alloc_new w.drew _, .inr rfl, hge, hcm2, ?_, ?_⟩⟩, ⟨rfl, rfl, rfl, by simp, fun k hk _ => heap_alloc_old w.drew _ hk⟩, by simp, .inr rfl⟩
      · simp only [Array.size_append, List.size_toArray, size_zeroCells, hzs, hown.1, hl, ← Nat.add_mul]
        congr 1
        omega
      · simp only [Array.toList_append, List.append_assoc]
        rw [← List.append_assoc, ← hlen]
        exact List.take_left

theorem run_appT2 (base : Nat) (t ty e : TypeId) (i : TypeInfo) (z : Value) (size bytes : Nat) (ht : P.underlying t = some (.slice e)) (hi : P.info? e = some i) (hz : i.zero = some z)
    (hsize : i.size = size) (hby : i.bytes = bytes) (hzs : z.cells.size = size) (hsz : 0 < size)
    (v : Value) (n : Nat) (xs : List Value) (hown : ownsT w base e size v n xs)
    (B : Nat) (A : Option Addr) (m c : Nat) (news : List Value) (hl : news.length = m * size) (hr : Rd w B A news) (h1 : ∀ u ∈ news, u.oneCell' = true)
    (h63 : n + m ≤ maxLen) (hbytes : (n + m) * bytes ≤ 140737488355328) (hbase : base ≤ w.heap.size) :
    ∃ v' w', (Builtin.append_ #[t, t] ty #[v, .slice A m c]).run P w = .ok v' w' ∧ ownsT w' base e size v' (n + m) (xs ++ news) ∧ w.grownBy w' v.ownBlock ∧
      (v'.ownBlock = v.ownBlock ∨ v'.ownBlock = some w.heap.size) ∧ (∃ A' c', v' = .slice A' (n + m) c') ∧ (v' = .slice none 0 0 → v = .slice none 0 0 ∧ m = 0) := by
  have form : ∀ {W : World} {v' : Value} {k : Nat} {ys : List Value}, ownsT W base e size v' k ys → ∃ A' c', v' = .slice A' k c' := by
    intro W v' k ys h
    rcases h.2 with ⟨rfl, rfl⟩ | ⟨g, cap, cur, fz, rfl, _⟩
    · exact ⟨none, 0, rfl⟩
    · exact ⟨_, cap, rfl⟩
  by_cases hm : m = 0
  · subst hm
    have hn : news = [] := List.eq_nil_of_length_eq_zero (by simpa using hl)
    subst hn
    rcases A with _ | ad
    · refine ⟨v, w, ?_, by simpa using hown, World.grownBy.refl w _, .inl rfl, by simpa using form hown, fun h => ⟨h, rfl⟩⟩
      rcases hown.2 with ⟨rfl, rfl⟩ | ⟨g, cap, cur, fz, rfl, _, _, _, hnc, _⟩
      · simp [Builtin.append_, run_underlying ht, sizeOf, typeInfo, hi, Builtin.lenOf, Builtin.firstCells]
      · simp [Builtin.append_, run_underlying ht, sizeOf, typeInfo, hi, Builtin.lenOf, Builtin.firstCells, hnc, storeCells]
    · obtain ⟨v', w', hrun, h2, h3, h4, h5⟩ := run_append_ownT (P := P) w base t ty e i z size bytes ht hi hz hsize hby hzs hsz v n xs hown ad 0 c [] hl (fun j u hu => by simp at hu) h1 h63 hbytes hbase
      exact ⟨v', w', hrun, h2, h3, h5, form h2, fun h => h4.1 h⟩
  · have hne : news ≠ [] := by
      rintro rfl
      have := Nat.mul_pos (Nat.pos_of_ne_zero hm) hsz
      simp at hl
      omega
    obtain ⟨b, o, rfl, hb, hc⟩ := hr hne
    obtain ⟨v', w', hrun, h2, h3, h4, h5⟩ := run_append_ownT (P := P) w base t ty e i z size bytes ht hi hz hsize hby hzs hsz v n xs hown ⟨b, o, none⟩ m c news hl (fun j u hu => by rw [Addr.add_lit]; exact hc j u hu) h1 h63 hbytes hbase
    exact ⟨v', w', hrun, h2, h3, h5, form h2, fun h => h4.1 h⟩
end

/-! ### 'w' is w, but for an append in place onto the owned slice v, which has become v'' -/
structure AppT (base : Nat) (e : TypeId) (size : Nat) (w : World) (v : Value) (w' : World) (v' : Value) (n : Nat) (xs : List Value) : Prop where
  own : ownsT w' base e size v' n xs
  grown : w.grownBy w' v.ownBlock
  block : v'.ownBlock = v.ownBlock ∨ ∃ k, v'.ownBlock = some k ∧ w.heap.size ≤ k
section
variable {base : Nat} {e : TypeId} {size n n' : Nat} {w w' w2 : World} {v v' v2 : Value} {xs ys : List Value}
theorem AppT.refl (h : ownsT w base e size v n xs) : AppT base e size w v w v n xs := ⟨h, World.grownBy.refl w _, .inl rfl⟩
theorem AppT.trans (h : AppT base e size w v w' v' n xs) (k : AppT base e size w' v' w2 v2 n' ys) : AppT base e size w v w2 v2 n' ys := by
  refine ⟨k.own, grown_row h.grown k.grown h.block, ?_⟩
  rcases k.block with hb | ⟨g, hg, hl⟩
  · rcases h.block with hb' | ⟨g, hg, hl⟩
    · exact .inl (hb.trans hb')
    · exact .inr ⟨g, hb.trans hg, hl⟩
  · exact .inr ⟨g, hg, Nat.le_trans h.grown.size hl⟩
theorem AppT.drewN (h : AppT base e size w v w' v' n xs) (k : Nat) : AppT base e size w v (w'.drewN k) v' n xs :=
  ⟨h.own, ⟨h.grown.os, h.grown.tape, h.grown.output, h.grown.size, h.grown.block⟩, h.block⟩
theorem AppT.drew (h : AppT base e size w v w' v' n xs) : AppT base e size w v w'.drew v' n xs :=
  ⟨h.own, ⟨h.grown.os, h.grown.tape, h.grown.output, h.grown.size, h.grown.block⟩, h.block⟩
theorem AppT.alloc (h : AppT base e size w v w' v' n xs) (o : Obj) : AppT base e size w v (w'.alloc o) v' n xs :=
  ⟨h.own.alloc o, ⟨h.grown.os, h.grown.tape, h.grown.output, by have := h.grown.size; simp; omega, fun i hi hne => (Below.heap_alloc w' o i (Nat.lt_of_lt_of_le hi h.grown.size)).trans (h.grown.block i hi hne)⟩, h.block⟩
theorem AppT.step (h : AppT base e size w v w' v' n xs) {w1 : World} (ho : ownsT w1 base e size v2 n' ys) (hg : w'.grownBy w1 v'.ownBlock) (hb : v2.ownBlock = v'.ownBlock ∨ v2.ownBlock = some w'.heap.size) : AppT base e size w v w1 v2 n' ys :=
  h.trans ⟨ho, hg, hb.imp id fun h => ⟨_, h, Nat.le_refl _⟩⟩
theorem AppT.below {B : Nat} (h : AppT base e size w v w' v' n xs) (hB : B ≤ w.heap.size) (hv : ∀ k, v.ownBlock = some k → B ≤ k) : Below B w w' :=
  ⟨h.grown.os, h.grown.tape, h.grown.output, h.grown.size, fun k hk => h.grown.block k (by omega) (fun e => by have := hv k e.symm; omega)⟩
theorem AppT.later (h : AppT base e size w v w' v' n xs) (hb : Below w'.heap.size w' w2) : AppT base e size w v w2 v' n xs :=
  ⟨h.own.kept (row := none) ⟨hb.os, hb.tape, hb.output, hb.size, fun k hk _ => hb.block k hk⟩ (by cases v'.ownBlock <;> simp),
    ⟨hb.os.trans h.grown.os, hb.tape.trans h.grown.tape, hb.output.trans h.grown.output, Nat.le_trans h.grown.size hb.size, fun k hk hne => (hb.block k (Nat.lt_of_lt_of_le hk h.grown.size)).trans (h.grown.block k hk hne)⟩, h.block⟩
theorem AppT.heap (h : AppT base e size w v w' v' n xs) : w.heap.size ≤ w'.heap.size := h.grown.size
end
theorem ownsT.rd {w : World} {base n c size : Nat} {A : Option Addr} {e : TypeId} {xs : List Value} (h : ownsT w base e size (.slice A n c) n xs) : Rd w w.heap.size A xs := fun hn => by
  rcases h.2 with ⟨h1, h2⟩ | ⟨g, cap, cur, fz, h1, hb, hg, _⟩
  · exact absurd (List.eq_nil_of_length_eq_zero (by rw [h.1, h2, Nat.zero_mul])) hn
  · injection h1 with h1 _ _
    subst h1
    refine ⟨g, 0, rfl, (Array.getElem?_eq_some_iff.1 hg).1, fun j u hu => ?_⟩
    have := h.cells (g := g) rfl j u hu
    rwa [Addr.add_lit] at this
def RetAppT (base : Nat) (e : TypeId) (size : Nat) (w : World) (v : Value) (n : Nat) (xs : List Value) (P : Option Addr → Prop) (en : Ending) (w' : World) : Prop :=
  ∃ A' c', en = .returned (.slice A' n c') ∧ AppT base e size w v w' (.slice A' n c') n xs ∧ P A'

theorem slice_none_ne {n c m k : Nat} {a : Addr} : Value.slice none n c ≠ .slice (some a) m k := fun h => by cases h
/-- append of bytes onto such a row. -/
theorem wpList_appbT (w : World) {ops : Array Oper} {rest : List Oper} {o : Oper} {a : Act} {Q : Exit → Act → World → Prop} (hgd : o.guard = none) (s x : Operand)
    (ho : o.op = .call { callee := .builtin .append, args := #[s, x], argTypes := #[27, 27] })
    (base : Nat) (v : Value) (n : Nat) (xs : List Int) (hs : a.eval s = v) (hown : ownsT w base 5 1 v n (bv xs))
    (B : Nat) (A : Option Addr) (m c : Nat) (news : List Int) (hx : a.eval x = .slice A m c) (hl : news.length = m) (hr : Rb w B A news)
    (hbytes : n + m ≤ 140737488355328) (hbase : base ≤ w.heap.size)
    (h : ∀ A' c' w', AppT base 5 1 w v w' (.slice A' (n + m) c') (n + m) (bv (xs ++ news)) → (A' = none → v = .slice none 0 0 ∧ m = 0) → wpList Try.prog ops Q rest (a.put o.dst (.slice A' (n + m) c')) w') : wpList Try.prog ops Q (o :: rest) a w := by
  obtain ⟨i0, hi0, hz0, hz1, hz2⟩ := info_parts u8info
  obtain ⟨v', w', hrun, h2, h3, h4, ⟨A', c', rfl⟩, h6⟩ := run_appT2 (P := Try.prog) w base _ o.type 5 i0 _ 1 1 Try.underlying27 hi0 hz0 hz1 hz2 rfl (by omega) v n (bv xs) hown B A m c (bv news) (by rw [bv_length]; omega) hr (bv_one news) (by simp only [maxLen]; omega) (by omega) hbase
  refine wpList_plain hgd fun _ hK => ?_
  unfold Oper.wp execOp
  simp only [ho, resolve, invoke, builtin, Sem.run_bind, Sem.run_pure, Result.andThen_ok, List.map_toArray, List.map_cons, List.map_nil, hs, hx, hrun]
  rw [← bv_append] at h2
  refine hK _ _ (h A' c' w' ((AppT.refl hown).step h2 h3 h4) (fun hA => h6 ?_))
  subst hA
  rcases h2.2 with ⟨e1, _⟩ | ⟨g, cap, cur, fz, e1, _⟩
  · exact e1
  · exact absurd e1 slice_none_ne

/-- What '[]byte(s)' lays is such a row. -/
theorem conv_own (w : World) (s : ByteArray) (hs : s.size ≤ maxLen) : ∃ c W, (convert 9 27 (.string s)).run Try.prog w = .ok (.slice (some ⟨w.heap.size, 0, none⟩) s.size c) W ∧ ownsT W w.heap.size 5 1 (.slice (some ⟨w.heap.size, 0, none⟩) s.size c) s.size (bv (nums s)) ∧ Below w.heap.size w W ∧ W.heap.size = w.heap.size + 1 := by
  refine ⟨_, _, run_bytes_of_string w _ _ _ s Try.underlying9 Try.underlying27 Try.underlying5, ?_, ?_, by simp⟩
  · have hge := grownCap_ge w s.size 0 5
    have hcm := grownCap_le_maxLen w s.size 0 5 hs
    have hsz : (bytesRow s (grownCap w s.size 0 5)).size = grownCap w s.size 0 5 := by
      rw [bytesRow, Array.size_append, Array.size_map, Array.size_replicate]
      have : s.data.size = s.size := rfl
      omega
    refine ⟨by rw [bv_length, nums_len, Nat.mul_one], .inr ⟨_, _, _, _, rfl, Nat.le_refl _, heap_alloc_new w.drew _, .inl (Nat.le_refl _), hge, hcm, by rw [hsz, Nat.mul_one], ?_⟩⟩
    rw [bytesRow, Array.toList_append, Nat.mul_one, List.take_left' (by rw [Array.toList_map, List.length_map]; rfl)]
    simp [bv, nums]
  · exact ((below_drewN (Below.refl _ w) 1).alloc (Nat.le_refl _) _)
end Go.Proofs.Ytlamebbolioljaa

/- A byte slice that a call has made: what is known of it. -/
namespace Go.Proofs.Ytlamebbolioljaa
open Go.RowKit

/-- A byte slice that a call has made. -/
structure BytNew (w : World) (zs : List Int) (A : Option Addr) (c : Nat) (w' : World) : Prop where
  rd : Rb w' w'.heap.size A zs
  bel : Below w.heap.size w w'
  cap : zs.length ≤ c
  nil : A = none → c = 0
  new : ∀ a, A = some a → w.heap.size ≤ a.block
def BytMade (w : World) (zs : List Int) (e : Ending) (w' : World) : Prop := ∃ A c, e = .returned (.slice A zs.length c) ∧ BytNew w zs A c w'
theorem BytNew.of {w w' : World} {zs : List Int} {A : Option Addr} {c : Nat} (h : AppT w.heap.size 5 1 w (.slice none 0 0) w' (.slice A zs.length c) zs.length (bv zs)) : BytNew w zs A c w' := by
  have hb : Below w.heap.size w w' := h.below (Nat.le_refl _) (fun k hk => by cases hk)
  refine ⟨h.own.rd, hb, ?_, ?_, ?_⟩
  · rcases h.own.2 with ⟨h1, h2⟩ | ⟨g, cap, cur, fz, h1, _, _, _, h2, _⟩
    · omega
    · injection h1 with _ _ h3; omega
  · intro e
    subst e
    rcases h.own.2 with ⟨h1, h2⟩ | ⟨g, cap, cur, fz, h1, _⟩
    · injection h1
    · injection h1 with h1; cases h1
  · intro a e
    subst e
    exact (h.own.lt a.block rfl).1
theorem BytMade.ofT {w : World} {zs : List Int} {P : Option Addr → Prop} {e : Ending} {w' : World} (h : RetAppT w.heap.size 5 1 w (.slice none 0 0) zs.length (bv zs) P e w') : BytMade w zs e w' := by
  obtain ⟨A, c, rfl, h, -⟩ := h
  exact ⟨A, c, rfl, .of h⟩
theorem BytMade.ofN {w : World} {zs : List Int} {P : Option Addr → Prop} {e : Ending} {w' : World} (h : RetNew 5 1 w zs.length (bv zs) P e w') : BytMade w zs e w' := by
  obtain ⟨A, c, rfl, h, -⟩ := h
  exact ⟨A, c, rfl, .of ⟨ownsT.of h.own, h.grown, h.block⟩⟩
end Go.Proofs.Ytlamebbolioljaa

/- What Writes answers: the accounts that its loops keep. Plain. -/
namespace Go.Proofs.Ytlamebbolioljaa
open Go.RowKit

/-- A span that was told to be fine. -/
structure AE.Fine (e : AE) : Prop where
  tm : e.Tm
  tags : e.a.s.tags.length ≤ 16
  sum : e.a.s.start + e.a.s.length ≤ 4611686018427387903
theorem AE.fine {e : AE} (h : adChk e.a = 0) : e.Fine := by
  unfold adChk at h
  have hs : spChk e.a.s = 0 := by
    by_cases h1 : spChk e.a.s ≠ 0
    · rw [if_pos h1] at h; exact absurd h h1
    · exact Decidable.not_not.1 h1
  unfold spChk at hs
  by_cases h1 : longB e.a.s = true
  · rw [if_pos h1] at hs; omega
  rw [if_neg h1] at hs
  cases h2 : (headB e.a.s && tagsOk e.a.s.tags e.a.s.tags.length) with
  | false => rw [h2] at hs; simp at hs
  | true =>
  rw [Bool.and_eq_true] at h2
  have hh := h2.1
  unfold headB at hh
  simp only [Bool.and_eq_true, decide_eq_true_eq] at hh
  obtain ⟨⟨⟨⟨-, b1⟩, b2⟩, b3⟩, b4⟩ := hh
  simp only [longB, Bool.or_eq_true, decide_eq_true_eq, not_or, Bool.not_eq_true] at h1
  obtain ⟨⟨⟨c1, c2⟩, c3⟩, c4⟩ := h1
  exact ⟨⟨b1, by omega, b2, by omega⟩, by omega, by omega⟩
theorem keysOf_u64 {s : Sp} (hu : s.U64) (h0 : 0 ≤ s.length) (h1 : s.length < 4611686018427387904) : ∀ k ∈ keysOf s, k.U64 := by
  obtain ⟨u1, u2, u3, u4⟩ := hu
  intro k hk
  simp only [keysOf, keys5, List.mem_append, List.mem_cons, List.not_mem_nil, or_false, List.mem_map] at hk
  rcases hk with (rfl | rfl | rfl | rfl | rfl) | ⟨t, -, rfl⟩
  · exact ⟨u1, u2, u3, by simp⟩
  · exact ⟨u1, u2, u3, by simp [kyW]⟩
  · exact ⟨u1, u2, u3, by simp [kyW]⟩
  · exact ⟨u1, u2, u3, by show s.length.toNat < _; omega⟩
  · exact ⟨by simp, by simp, by simp, by simp⟩
  · exact ⟨u1, u2, u3, by simp [kyT, kyW]⟩
theorem keysOf_len (s : Sp) : (keysOf s).length = 5 + s.tags.length := by simp [keysOf, keys5]; omega
theorem wrKeys_snoc (zs : List Int) (k : Ky) : ∀ (ks : List Ky) (i : Nat) (acc : List Wr), wrKeys zs (ks ++ [k]) i acc = putW (wrKeys zs ks i acc) k (if i + ks.length = 0 then zs else [])
  | [], i, acc => by simp [wrKeys]
  | x :: ks, i, acc => by
    rw [List.cons_append, wrKeys, wrKeys_snoc zs k ks (i + 1), wrKeys, List.length_cons, show i + 1 + ks.length = i + (ks.length + 1) by omega]
theorem wrKeys_take {zs : List Int} {ks : List Ky} {acc : List Wr} {q : Nat} {k : Ky} (h : ks[q]? = some k) : wrKeys zs (ks.take (q + 1)) 0 acc = putW (wrKeys zs (ks.take q) 0 acc) k (if q = 0 then zs else []) := by
  have hq := (List.getElem?_eq_some_iff.1 h).1
  rw [take_snoc h, wrKeys_snoc, List.length_take, Nat.min_eq_left (by omega), Nat.zero_add]
/-- The first write. -/
def wrHead (l : List AE) : List Wr :=
  match l with
  | [] => []
  | e :: l => putW [] (trKey e) (recEnc (l.length + 1) (bnds (e :: l)).1.toNat (bnds (e :: l)).2.toNat)
/-- The writes of the first p spans. -/
def wrTo (l : List AE) (p : Nat) : List Wr := (l.take p).foldl wrSpan (wrHead l)
theorem wrTo_snoc {l : List AE} {p : Nat} {x : AE} (h : l[p]? = some x) : wrTo l (p + 1) = wrSpan (wrTo l p) x := by
  rw [wrTo, take_snoc h, List.foldl_append]
  rfl
theorem wrTo_all {l : List AE} (h : l ≠ []) : wrTo l l.length = wrAll l := by
  cases l with
  | nil => exact absurd rfl h
  | cons e l => rw [wrTo, List.take_of_length_le (Nat.le_refl _)]; rfl
theorem wrHead_eq {l : List AE} {h : AE} (hh : l[0]? = some h) : wrHead l = putW [] (trKey h) (recEnc l.length (bnds l).1.toNat (bnds l).2.toNat) := by
  cases l with
  | nil => cases hh
  | cons e l => injection hh with hh; subst hh; rfl
theorem wrTo_len {l : List AE} (hf : ∀ e ∈ l, e.Fine) : ∀ p, p ≤ l.length → (wrTo l p).length ≤ 1 + p * 21
  | 0, _ => by
    rw [wrTo, List.take_zero, List.foldl_nil]
    cases l with
    | nil => simp [wrHead]
    | cons e l => exact putW_len _ _ _
  | p + 1, h => by
    obtain ⟨x, hx⟩ : ∃ x, l[p]? = some x := ⟨_, List.getElem?_eq_getElem (by omega)⟩
    have ih := wrTo_len hf p (by omega)
    rw [wrTo_snoc hx, wrSpan]
    have h1 := wrKeys_len (adEnc x.a) (keysOf x.a.s) 0 (wrTo l p)
    have h2 := (hf x (List.mem_of_getElem? hx)).tags
    rw [keysOf_len] at h1
    omega
theorem bnds_fine {l : List AE} (hf : ∀ e ∈ l, e.Fine) : 0 ≤ (bnds l).1 ∧ (bnds l).1 ≤ 4611686018427387903 ∧ 0 ≤ (bnds l).2 ∧ (bnds l).2 ≤ 4611686018427387903 := by
  have step : ∀ (l : List AE) (b : Int × Int), (∀ e ∈ l, e.Fine) → 0 ≤ b.1 ∧ b.1 ≤ 4611686018427387903 ∧ 0 ≤ b.2 ∧ b.2 ≤ 4611686018427387903 →
      0 ≤ (l.foldl bndStep b).1 ∧ (l.foldl bndStep b).1 ≤ 4611686018427387903 ∧ 0 ≤ (l.foldl bndStep b).2 ∧ (l.foldl bndStep b).2 ≤ 4611686018427387903 := by
    intro l
    induction l with
    | nil => intro b _ h; exact h
    | cons e l ih =>
      intro b hf h
      refine ih _ (fun x hx => hf x (by simp [hx])) ?_
      have he := hf e (by simp)
      obtain ⟨⟨a1, a2, a3, a4⟩, -, a5⟩ := he
      simp only [bndStep]
      omega
  cases l with
  | nil => simp [bnds]
  | cons e l =>
    have he := hf e (by simp)
    obtain ⟨⟨a1, a2, a3, a4⟩, -, a5⟩ := he
    exact step _ _ hf (by simp only; omega)
/-- A value of the row, wherever the row was kept. -/
theorem VsM.at {e : TypeId} {W0 W : World} {lo : Nat} {A : Option Addr} {j c : Nat} {acc : List (List Int)} {hs : List Value} (h : VsM e W0 lo A j c acc hs) (hb : Below W0.heap.size W0 W) {i : Nat} {x : List Int} (hi : acc[i]? = some x) :
    ∃ b o A1 c1, A = some ⟨b, o, none⟩ ∧ b < W0.heap.size ∧ W.cell? ⟨b, o + i, none⟩ = some (.slice A1 x.length c1) ∧ x.length ≤ c1 ∧ Rb W W0.heap.size A1 x ∧ (A1 = none → c1 = 0) ∧ (x ≠ [] → ∀ a, A1 = some a → a.block < W0.heap.size) := by
  obtain ⟨b, o, A1, c1, h1, h2, h3, h4, h5, h6⟩ := h.get hi
  refine ⟨b, o, A1, c1, h1, h2, (hb.cell h2).trans h3, h4, Rd.below h5 hb, h6, fun hz a ha => ?_⟩
  obtain ⟨b', o', e', hb', -⟩ := h5 (by simpa [bv] using hz)
  rw [ha] at e'
  cases e'
  exact hb'
theorem Rd.keepBlock {w w' : World} {B : Nat} {A : Option Addr} {xs : List Value} (h : Rd w B A xs) (hk : ∀ a, A = some a → w'.heap[a.block]? = w.heap[a.block]?) : Rd w' B A xs := fun hn => by
  obtain ⟨b, o, rfl, hb, hc⟩ := h hn
  exact ⟨b, o, rfl, hb, fun j u hu => (World.cell?_of_block (a := ⟨b, o + j, none⟩) (show w'.heap[b]? = w.heap[b]? from hk ⟨b, o, none⟩ rfl)).trans (hc j u hu)⟩
theorem own_cap {w : World} {base n c size : Nat} {e : TypeId} {A : Option Addr} {xs : List Value} (h : w.ownsRow base e size (.slice A n c) n xs) : n ≤ c := by
  rcases (ownsT.of h).2 with ⟨h1, h2⟩ | ⟨g, cap, cur, fz, h1, _, _, _, h2, _⟩
  · omega
  · injection h1 with _ _ h3; omega
set_option maxRecDepth 100000 in
theorem loadK_kyR {w : World} {b o i : Nat} {k : Ky} (h : ∀ j, j < 9 → w.cell? ⟨b, o + (i * 9 + j), none⟩ = (kyL k)[j]?) : (loadK 26 ⟨b, o + i * 9, none⟩).run Try.prog w = .ok (kyV k) w :=
  run_loadVar_cellsK w _ _ ⟨b, o + i * 9, none⟩ (kyL k) Try.underlying26 rfl (by rfl) (fun j v hv => by
    have hj : j < 9 := by have := (List.getElem?_eq_some_iff.1 hv).1; rwa [kyL_length] at this
    rw [Addr.add_lit, Nat.add_assoc, h j hj, hv])
end Go.Proofs.Ytlamebbolioljaa

/- A span's cells in a block. -/
namespace Go.Proofs.Ytlamebbolioljaa
open Go.RowKit

/-- The first field of a span: its trace. -/
theorem field_trace (W : World) (a b c d e f g h i j k : Value) : (Instr.field 43 (.agg #[a, b, c, d, e, f, g, h, i, j, k]) 0).run Try.prog W = .ok (.agg #[a, b]) W := by
  kernel_rfl
/-- The eleven cells of a span that lies in a block. -/
def Cells11 (g : Nat) (s : Sp) (A : Option Addr) (n c : Nat) (w' : World) : Prop := w'.cell? ⟨g, 0, none⟩ = some (.int .u64 s.hi) ∧ w'.cell? ⟨g, 1, none⟩ = some (.int .u64 s.lo) ∧ w'.cell? ⟨g, 2, none⟩ = some (.int .u64 s.id) ∧ w'.cell? ⟨g, 3, none⟩ = some (.int .u64 s.parent) ∧ w'.cell? ⟨g, 4, none⟩ = some (.string s.service) ∧ w'.cell? ⟨g, 5, none⟩ = some (.string s.name) ∧ w'.cell? ⟨g, 6, none⟩ = some (.int .i64 s.kind) ∧ w'.cell? ⟨g, 7, none⟩ = some (.int .i64 s.start) ∧ w'.cell? ⟨g, 8, none⟩ = some (.int .i64 s.length) ∧ w'.cell? ⟨g, 9, none⟩ = some (.bool s.fails) ∧ w'.cell? ⟨g, 10, none⟩ = some (.slice A n c)
theorem cells11 {w' : World} {g : Nat} {s : Sp} {A : Option Addr} {n c : Nat} (h : Bk w' g 43 (spC s A n c)) : w'.cell? ⟨g, 0, none⟩ = some (.int .u64 s.hi) ∧ w'.cell? ⟨g, 1, none⟩ = some (.int .u64 s.lo) ∧ w'.cell? ⟨g, 2, none⟩ = some (.int .u64 s.id) ∧ w'.cell? ⟨g, 3, none⟩ = some (.int .u64 s.parent) ∧ w'.cell? ⟨g, 4, none⟩ = some (.string s.service) ∧ w'.cell? ⟨g, 5, none⟩ = some (.string s.name) ∧ w'.cell? ⟨g, 6, none⟩ = some (.int .i64 s.kind) ∧ w'.cell? ⟨g, 7, none⟩ = some (.int .i64 s.start) ∧ w'.cell? ⟨g, 8, none⟩ = some (.int .i64 s.length) ∧ w'.cell? ⟨g, 9, none⟩ = some (.bool s.fails) ∧ w'.cell? ⟨g, 10, none⟩ = some (.slice A n c) :=
  ⟨h.cell 0, h.cell 1, h.cell 2, h.cell 3, h.cell 4, h.cell 5, h.cell 6, h.cell 7, h.cell 8, h.cell 9, h.cell 10⟩
end Go.Proofs.Ytlamebbolioljaa

/- Spans: bootprintkit.SameSpan of two equal spans. -/
namespace Go.Proofs.Ytlamebbolioljaa
open Go.RowKit

theorem strEq_of {s t : ByteArray} : (s.toList == t.toList) = decide (s = t) := by
  rw [ByteArray.toList_eq, ByteArray.toList_eq, Bool.eq_iff_iff, beq_iff_eq, decide_eq_true_iff]
  exact ⟨fun h => ByteArray.ext (Array.ext' h), fun h => by rw [h]⟩
set_option maxRecDepth 100000 in
set_option maxHeartbeats 8000000 in
/-- Two spans whose heads are the same: their tags are held against one another. -/
theorem kitSameTags {A1 A2 : Option Addr} {c1 c2 n B : Nat} (s : Sp) (ta tb : List Tg) (w : World) (hf : RbT w B A1 ta) (hg : RbT w B A2 tb) (hn : ta.length = n) (hm : tb.length = n) (hB : B ≤ w.heap.size) (hnl : n ≤ 9223372036854775807) :
    Calls Try.prog 55 #[spV s A1 n c1, spV s A2 n c2] w fun e w' => e = .returned (.bool (decide (ta = tb))) ∧ Below w.heap.size w w' := by
  obtain ⟨q, hq⟩ : ∃ q, decide (ta = tb) = q := ⟨_, rfl⟩
  rw [hq]
  have HQT := Lib.hid hq
  have HN := Lib.hid hn
  have HM := Lib.hid hm
  clear hq hn hm
  have hb0 : Below w.heap.size w ((w.alloc (.cells (spC s A1 n c1) 43)).alloc (.cells (spC s A2 n c2) 43)) := ((Below.refl _ w).alloc (Nat.le_refl _) _).alloc (by simp) _
  have hff := Rd.below hf (hb0.mono hB)
  have hgg := Rd.below hg (hb0.mono hB)
  have bk1 := (Bk.new w 43 (spC s A1 n c1)).alloc (.cells (spC s A2 n c2) 43)
  have bk2 : Bk ((w.alloc (.cells (spC s A1 n c1) 43)).alloc (.cells (spC s A2 n c2) 43)) (w.heap.size + 1) 43 (spC s A2 n c2) := by
    have h := Bk.new (w.alloc (.cells (spC s A1 n c1) 43)) 43 (spC s A2 n c2)
    simpa using h
  obtain ⟨w1, hw1⟩ : ∃ w1, ((w.alloc (.cells (spC s A1 n c1) 43)).alloc (.cells (spC s A2 n c2) 43)) = w1 := ⟨_, rfl⟩
  rw [hw1] at hb0 hff hgg bk1 bk2
  obtain ⟨g1, hg1⟩ : ∃ g1, w.heap.size = g1 := ⟨_, rfl⟩
  obtain ⟨g2, hg2⟩ : ∃ g2, g1 + 1 = g2 := ⟨_, rfl⟩
  rw [hg1] at bk1 bk2
  rw [hg2] at bk2
  have HW := Lib.hid hw1
  have HG1 := Lib.hid hg1
  have HG2 := Lib.hid hg2
  have kg10 : w1.cell? ⟨g1, 0, none⟩ = some (.int .u64 s.hi) := bk1.cell 0
  have kg11 : w1.cell? ⟨g1, 1, none⟩ = some (.int .u64 s.lo) := bk1.cell 1
  have kg12 : w1.cell? ⟨g1, 2, none⟩ = some (.int .u64 s.id) := bk1.cell 2
  have kg13 : w1.cell? ⟨g1, 3, none⟩ = some (.int .u64 s.parent) := bk1.cell 3
  have kg14 : w1.cell? ⟨g1, 4, none⟩ = some (.string s.service) := bk1.cell 4
  have kg15 : w1.cell? ⟨g1, 5, none⟩ = some (.string s.name) := bk1.cell 5
  have kg16 : w1.cell? ⟨g1, 6, none⟩ = some (.int .i64 s.kind) := bk1.cell 6
  have kg17 : w1.cell? ⟨g1, 7, none⟩ = some (.int .i64 s.start) := bk1.cell 7
  have kg18 : w1.cell? ⟨g1, 8, none⟩ = some (.int .i64 s.length) := bk1.cell 8
  have kg19 : w1.cell? ⟨g1, 9, none⟩ = some (.bool s.fails) := bk1.cell 9
  have kg110 : w1.cell? ⟨g1, 10, none⟩ = some (.slice A1 n c1) := bk1.cell 10
  have kg20 : w1.cell? ⟨g2, 0, none⟩ = some (.int .u64 s.hi) := bk2.cell 0
  have kg21 : w1.cell? ⟨g2, 1, none⟩ = some (.int .u64 s.lo) := bk2.cell 1
  have kg22 : w1.cell? ⟨g2, 2, none⟩ = some (.int .u64 s.id) := bk2.cell 2
  have kg23 : w1.cell? ⟨g2, 3, none⟩ = some (.int .u64 s.parent) := bk2.cell 3
  have kg24 : w1.cell? ⟨g2, 4, none⟩ = some (.string s.service) := bk2.cell 4
  have kg25 : w1.cell? ⟨g2, 5, none⟩ = some (.string s.name) := bk2.cell 5
  have kg26 : w1.cell? ⟨g2, 6, none⟩ = some (.int .i64 s.kind) := bk2.cell 6
  have kg27 : w1.cell? ⟨g2, 7, none⟩ = some (.int .i64 s.start) := bk2.cell 7
  have kg28 : w1.cell? ⟨g2, 8, none⟩ = some (.int .i64 s.length) := bk2.cell 8
  have kg29 : w1.cell? ⟨g2, 9, none⟩ = some (.bool s.fails) := bk2.cell 9
  have kg210 : w1.cell? ⟨g2, 10, none⟩ = some (.slice A2 n c2) := bk2.cell 10
  have fbool : (s.fails != s.fails) = false := by simp
  clear hw1 bk1 bk2 hg1 hg2 hf hg
  go_enter Try.func55, Try.ntmps55
  go_upto_region 1 with fail
  rw [HW.out, HG1.out]
  simp only [HG2.out]
  go_wp2_with fail
  clear kg10 kg11 kg12 kg13 kg14 kg15 kg16 kg17 kg18 kg19 kg20 kg21 kg22 kg23 kg24 kg25 kg26 kg27 kg28 kg29
  have hg1l : g1 < w1.heap.size := by rw [← HG1.out, ← HW.out]; simp; omega
  have hg2l : g2 < w1.heap.size := by rw [← HG2.out, ← HG1.out, ← HW.out]; simp
  go_loopw [5] (fun iv_ wr => ∃ j : Nat, j ≤ n ∧ iv_ = .int .i64 j ∧ ta.take j = tb.take j ∧ Below w1.heap.size w1 wr) (fun i _ => n - (intOf i).toNat)
  case atStart => exact ⟨0, by omega, rfl, rfl, Below.refl _ _⟩
  case round =>
    obtain ⟨j, hj, rfl, hall, hb⟩ := hrel
    have HA := Lib.hid hall
    clear hall
    have k1' : wr.cell? ⟨g1, 10, none⟩ = some (.slice A1 n c1) := (hb.cell (p := ⟨g1, 10, none⟩) hg1l).trans kg110
    have k2' : wr.cell? ⟨g2, 10, none⟩ = some (.slice A2 n c2) := (hb.cell (p := ⟨g2, 10, none⟩) hg2l).trans kg210
    by_cases hlt : j < n
    · have hlt' : (j : Int) < (n : Int) := by omega
      have hBs : B ≤ w1.heap.size := by rw [← HW.out]; simp; omega
      obtain ⟨x, hx⟩ : ∃ x, ta[j]? = some x := ⟨_, List.getElem?_eq_getElem (by rw [HN.out]; exact hlt)⟩
      obtain ⟨y, hy⟩ : ∃ y, tb[j]? = some y := ⟨_, List.getElem?_eq_getElem (by rw [HM.out]; exact hlt)⟩
      obtain ⟨b1, o1, rfl, hbb1, c11, c12⟩ := RbT.get (Rd.below hff (hb.mono hBs)) hx
      obtain ⟨b2, o2, rfl, hbb2, c21, c22⟩ := RbT.get (Rd.below hgg (hb.mono hBs)) hy
      have HX := Lib.hid hx
      have HY := Lib.hid hy
      clear hx hy hbb1 hbb2 kg110 kg210 hg1l hg2l
      by_cases hxy : x = y
      · subst hxy
        go_wp2_with fail
        go_quiet (fail)
        go_wp2
        go_roundw
        case rel => exact ⟨j + 1, by omega, by go_num, by rw [take_snoc HX.out, take_snoc HY.out, HA.out], below_drewN hb _⟩
        case measure => simp [intOf]; omega
      · have hqf : q = false := by
          rw [← HQT.out, decide_eq_false_iff_not]
          intro h
          have h1 := HX.out
          rw [h, HY.out] at h1
          exact hxy (Option.some.inj h1).symm
        have HQF := Lib.hid hqf
        clear hqf
        by_cases hk : x.key = y.key
        · have hv : x.val ≠ y.val := fun h => hxy (by cases x; cases y; simp_all)
          have d1 : (x.key.toList == y.key.toList) = true := by rw [strEq_of]; simpa using hk
          have d2 : (x.val.toList == y.val.toList) = false := by rw [strEq_of]; simpa using hv
          clear hk hv
          go_wp2_with fail
          go_quiet (fail)
          go_wp2
          go_ret
          exact ⟨by rw [HQF.out]; rfl, hb0.trans ((below_drewN hb _).mono (by rw [← HW.out]; simp; omega))⟩
        · have d1 : (x.key.toList == y.key.toList) = false := by rw [strEq_of]; simpa using hk
          clear hk
          go_wp2_with fail
          go_quiet (fail)
          go_wp2
          go_ret
          exact ⟨by rw [HQF.out]; rfl, hb0.trans ((below_drewN hb _).mono (by rw [← HW.out]; simp; omega))⟩
    · have hlt' : decide ((j : Int) < (n : Int)) = false := by simp; omega
      go_wp2
      go_ret
      have : q = true := by
        rw [← HQT.out, decide_eq_true_iff]
        have h1 := HA.out
        rwa [List.take_of_length_le (by rw [HN.out]; omega), List.take_of_length_le (by rw [HM.out]; omega)] at h1
      exact ⟨by rw [this]; rfl, hb0.trans (hb.mono (by rw [← HW.out]; simp; omega))⟩
end Go.Proofs.Ytlamebbolioljaa

/- Spans: bootprintkit.SameSpan of two spans that are unlike, part. -/
namespace Go.Proofs.Ytlamebbolioljaa
open Go.RowKit

set_option maxRecDepth 100000 in
set_option maxHeartbeats 8000000 in
theorem kitSameNeA {A1 A2 : Option Addr} {c1 c2 n m B : Nat} (a b : Sp) (w : World) (hf : RbT w B A1 a.tags) (hg : RbT w B A2 b.tags) (hn : a.tags.length = n) (hm : b.tags.length = m) (hB : B ≤ w.heap.size) (hcase : (a.hi ≠ b.hi) ∨ (a.hi = b.hi ∧ a.lo ≠ b.lo) ∨ (a.hi = b.hi ∧ a.lo = b.lo ∧ a.id ≠ b.id) ∨ (a.hi = b.hi ∧ a.lo = b.lo ∧ a.id = b.id ∧ a.parent ≠ b.parent)) (hnl : n ≤ 9223372036854775807) (hml : m ≤ 9223372036854775807) :
    Calls Try.prog 55 #[spV a A1 n c1, spV b A2 m c2] w fun e w' => e = .returned (.bool false) ∧ Below w.heap.size w w' := by
  have HCASE := Lib.hid hcase
  have hb0 : Below w.heap.size w ((w.alloc (.cells (spC a A1 n c1) 43)).alloc (.cells (spC b A2 m c2) 43)) := ((Below.refl _ w).alloc (Nat.le_refl _) _).alloc (by simp) _
  have bk1 := (Bk.new w 43 (spC a A1 n c1)).alloc (.cells (spC b A2 m c2) 43)
  have bk2 := Bk.new (w.alloc (.cells (spC a A1 n c1) 43)) 43 (spC b A2 m c2)
  rw [World.size_alloc] at bk2
  obtain ⟨w1, hw1⟩ : ∃ w1, ((w.alloc (.cells (spC a A1 n c1) 43)).alloc (.cells (spC b A2 m c2) 43)) = w1 := ⟨_, rfl⟩
  rw [hw1] at hb0 bk1 bk2
  have HW := Lib.hid hw1
  obtain ⟨g, hgq⟩ : ∃ g, w.heap.size = g := ⟨_, rfl⟩
  rw [hgq] at bk1 bk2
  have HG := Lib.hid hgq
  have kp0 : w1.cell? ⟨g, 0, none⟩ = some (.int .u64 a.hi) := bk1.cell 0
  have kp1 : w1.cell? ⟨g, 1, none⟩ = some (.int .u64 a.lo) := bk1.cell 1
  have kp2 : w1.cell? ⟨g, 2, none⟩ = some (.int .u64 a.id) := bk1.cell 2
  have kp3 : w1.cell? ⟨g, 3, none⟩ = some (.int .u64 a.parent) := bk1.cell 3
  have kp4 : w1.cell? ⟨g, 4, none⟩ = some (.string a.service) := bk1.cell 4
  have kp5 : w1.cell? ⟨g, 5, none⟩ = some (.string a.name) := bk1.cell 5
  have kp6 : w1.cell? ⟨g, 6, none⟩ = some (.int .i64 a.kind) := bk1.cell 6
  have kp7 : w1.cell? ⟨g, 7, none⟩ = some (.int .i64 a.start) := bk1.cell 7
  have kp8 : w1.cell? ⟨g, 8, none⟩ = some (.int .i64 a.length) := bk1.cell 8
  have kp9 : w1.cell? ⟨g, 9, none⟩ = some (.bool a.fails) := bk1.cell 9
  have kp10 : w1.cell? ⟨g, 10, none⟩ = some (.slice A1 n c1) := bk1.cell 10
  have kq0 : w1.cell? ⟨g + 1, 0, none⟩ = some (.int .u64 b.hi) := bk2.cell 0
  have kq1 : w1.cell? ⟨g + 1, 1, none⟩ = some (.int .u64 b.lo) := bk2.cell 1
  have kq2 : w1.cell? ⟨g + 1, 2, none⟩ = some (.int .u64 b.id) := bk2.cell 2
  have kq3 : w1.cell? ⟨g + 1, 3, none⟩ = some (.int .u64 b.parent) := bk2.cell 3
  have kq4 : w1.cell? ⟨g + 1, 4, none⟩ = some (.string b.service) := bk2.cell 4
  have kq5 : w1.cell? ⟨g + 1, 5, none⟩ = some (.string b.name) := bk2.cell 5
  have kq6 : w1.cell? ⟨g + 1, 6, none⟩ = some (.int .i64 b.kind) := bk2.cell 6
  have kq7 : w1.cell? ⟨g + 1, 7, none⟩ = some (.int .i64 b.start) := bk2.cell 7
  have kq8 : w1.cell? ⟨g + 1, 8, none⟩ = some (.int .i64 b.length) := bk2.cell 8
  have kq9 : w1.cell? ⟨g + 1, 9, none⟩ = some (.bool b.fails) := bk2.cell 9
  have kq10 : w1.cell? ⟨g + 1, 10, none⟩ = some (.slice A2 m c2) := bk2.cell 10
  clear hw1 bk1 bk2 hgq hf hg hn hm hcase
  go_enter Try.func55, Try.ntmps55
  go_upto_region 1 with fail
  rw [HW.out, HG.out]
  have hcase := HCASE.out
  clear HCASE
  rcases hcase with x1 | ⟨x1, x2⟩ | ⟨x1, x2, x3⟩ | ⟨x1, x2, x3, x4⟩
  · have d : ((a.hi : Int) != (b.hi : Int)) = true := by rw [bne_iff_ne]; omega
    have d' : ((a.hi : Int) == (b.hi : Int)) = false := by rw [beq_eq_false_iff_ne]; omega
    go_wp2
    go_ret
    exact ⟨rfl, hb0⟩
  · have d : ((a.lo : Int) != (b.lo : Int)) = true := by rw [bne_iff_ne]; omega
    have d' : ((a.lo : Int) == (b.lo : Int)) = false := by rw [beq_eq_false_iff_ne]; omega
    go_wp2
    go_ret
    exact ⟨rfl, hb0⟩
  · have d : ((a.id : Int) != (b.id : Int)) = true := by rw [bne_iff_ne]; omega
    have d' : ((a.id : Int) == (b.id : Int)) = false := by rw [beq_eq_false_iff_ne]; omega
    go_wp2
    go_ret
    exact ⟨rfl, hb0⟩
  · have d : ((a.parent : Int) != (b.parent : Int)) = true := by rw [bne_iff_ne]; omega
    have d' : ((a.parent : Int) == (b.parent : Int)) = false := by rw [beq_eq_false_iff_ne]; omega
    go_wp2
    go_ret
    exact ⟨rfl, hb0⟩
end Go.Proofs.Ytlamebbolioljaa

/- Spans: bootprintkit.SameSpan of two spans that are unlike, part. -/
namespace Go.Proofs.Ytlamebbolioljaa
open Go.RowKit

set_option maxRecDepth 100000 in
set_option maxHeartbeats 8000000 in
theorem kitSameNeB {A1 A2 : Option Addr} {c1 c2 n m B : Nat} (a b : Sp) (w : World) (hf : RbT w B A1 a.tags) (hg : RbT w B A2 b.tags) (hn : a.tags.length = n) (hm : b.tags.length = m) (hB : B ≤ w.heap.size) (hcase : (a.hi = b.hi ∧ a.lo = b.lo ∧ a.id = b.id ∧ a.parent = b.parent ∧ a.service ≠ b.service) ∨ (a.hi = b.hi ∧ a.lo = b.lo ∧ a.id = b.id ∧ a.parent = b.parent ∧ a.service = b.service ∧ a.name ≠ b.name) ∨ (a.hi = b.hi ∧ a.lo = b.lo ∧ a.id = b.id ∧ a.parent = b.parent ∧ a.service = b.service ∧ a.name = b.name ∧ a.kind ≠ b.kind) ∨ (a.hi = b.hi ∧ a.lo = b.lo ∧ a.id = b.id ∧ a.parent = b.parent ∧ a.service = b.service ∧ a.name = b.name ∧ a.kind = b.kind ∧ a.start ≠ b.start)) (hnl : n ≤ 9223372036854775807) (hml : m ≤ 9223372036854775807) :
    Calls Try.prog 55 #[spV a A1 n c1, spV b A2 m c2] w fun e w' => e = .returned (.bool false) ∧ Below w.heap.size w w' := by
  have HCASE := Lib.hid hcase
  have hb0 : Below w.heap.size w ((w.alloc (.cells (spC a A1 n c1) 43)).alloc (.cells (spC b A2 m c2) 43)) := ((Below.refl _ w).alloc (Nat.le_refl _) _).alloc (by simp) _
  have bk1 := (Bk.new w 43 (spC a A1 n c1)).alloc (.cells (spC b A2 m c2) 43)
  have bk2 := Bk.new (w.alloc (.cells (spC a A1 n c1) 43)) 43 (spC b A2 m c2)
  rw [World.size_alloc] at bk2
  obtain ⟨w1, hw1⟩ : ∃ w1, ((w.alloc (.cells (spC a A1 n c1) 43)).alloc (.cells (spC b A2 m c2) 43)) = w1 := ⟨_, rfl⟩
  rw [hw1] at hb0 bk1 bk2
  have HW := Lib.hid hw1
  obtain ⟨g, hgq⟩ : ∃ g, w.heap.size = g := ⟨_, rfl⟩
  rw [hgq] at bk1 bk2
  have HG := Lib.hid hgq
  have kp0 : w1.cell? ⟨g, 0, none⟩ = some (.int .u64 a.hi) := bk1.cell 0
  have kp1 : w1.cell? ⟨g, 1, none⟩ = some (.int .u64 a.lo) := bk1.cell 1
  have kp2 : w1.cell? ⟨g, 2, none⟩ = some (.int .u64 a.id) := bk1.cell 2
  have kp3 : w1.cell? ⟨g, 3, none⟩ = some (.int .u64 a.parent) := bk1.cell 3
  have kp4 : w1.cell? ⟨g, 4, none⟩ = some (.string a.service) := bk1.cell 4
  have kp5 : w1.cell? ⟨g, 5, none⟩ = some (.string a.name) := bk1.cell 5
  have kp6 : w1.cell? ⟨g, 6, none⟩ = some (.int .i64 a.kind) := bk1.cell 6
  have kp7 : w1.cell? ⟨g, 7, none⟩ = some (.int .i64 a.start) := bk1.cell 7
  have kp8 : w1.cell? ⟨g, 8, none⟩ = some (.int .i64 a.length) := bk1.cell 8
  have kp9 : w1.cell? ⟨g, 9, none⟩ = some (.bool a.fails) := bk1.cell 9
  have kp10 : w1.cell? ⟨g, 10, none⟩ = some (.slice A1 n c1) := bk1.cell 10
  have kq0 : w1.cell? ⟨g + 1, 0, none⟩ = some (.int .u64 b.hi) := bk2.cell 0
  have kq1 : w1.cell? ⟨g + 1, 1, none⟩ = some (.int .u64 b.lo) := bk2.cell 1
  have kq2 : w1.cell? ⟨g + 1, 2, none⟩ = some (.int .u64 b.id) := bk2.cell 2
  have kq3 : w1.cell? ⟨g + 1, 3, none⟩ = some (.int .u64 b.parent) := bk2.cell 3
  have kq4 : w1.cell? ⟨g + 1, 4, none⟩ = some (.string b.service) := bk2.cell 4
  have kq5 : w1.cell? ⟨g + 1, 5, none⟩ = some (.string b.name) := bk2.cell 5
  have kq6 : w1.cell? ⟨g + 1, 6, none⟩ = some (.int .i64 b.kind) := bk2.cell 6
  have kq7 : w1.cell? ⟨g + 1, 7, none⟩ = some (.int .i64 b.start) := bk2.cell 7
  have kq8 : w1.cell? ⟨g + 1, 8, none⟩ = some (.int .i64 b.length) := bk2.cell 8
  have kq9 : w1.cell? ⟨g + 1, 9, none⟩ = some (.bool b.fails) := bk2.cell 9
  have kq10 : w1.cell? ⟨g + 1, 10, none⟩ = some (.slice A2 m c2) := bk2.cell 10
  clear hw1 bk1 bk2 hgq hf hg hn hm hcase
  go_enter Try.func55, Try.ntmps55
  go_upto_region 1 with fail
  rw [HW.out, HG.out]
  have hcase := HCASE.out
  clear HCASE
  rcases hcase with ⟨x1, x2, x3, x4, x5⟩ | ⟨x1, x2, x3, x4, x5, x6⟩ | ⟨x1, x2, x3, x4, x5, x6, x7⟩ | ⟨x1, x2, x3, x4, x5, x6, x7, x8⟩
  · have d : (a.service.toList == b.service.toList) = false := by rw [strEq_of]; simpa using x5
    go_wp2
    go_ret
    exact ⟨rfl, hb0⟩
  · have d : (a.name.toList == b.name.toList) = false := by rw [strEq_of]; simpa using x6
    go_wp2
    go_ret
    exact ⟨rfl, hb0⟩
  · have d : ((a.kind : Int) != (b.kind : Int)) = true := by rw [bne_iff_ne]; omega
    have d' : ((a.kind : Int) == (b.kind : Int)) = false := by rw [beq_eq_false_iff_ne]; omega
    go_wp2
    go_ret
    exact ⟨rfl, hb0⟩
  · have d : ((a.start : Int) != (b.start : Int)) = true := by rw [bne_iff_ne]; omega
    have d' : ((a.start : Int) == (b.start : Int)) = false := by rw [beq_eq_false_iff_ne]; omega
    go_wp2
    go_ret
    exact ⟨rfl, hb0⟩
end Go.Proofs.Ytlamebbolioljaa
