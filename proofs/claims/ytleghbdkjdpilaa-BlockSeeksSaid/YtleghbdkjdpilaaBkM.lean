/- Blocks: the memory of put, its lengths. -/
import Derived.Deep.AppendLies
import Derived.Test.YtleghbdkjdpilaaBkR
import Derived.Test.YtleghbdkjdpilaaBkS
import Derived.Test.YtleghbdkjdpilaaBkW
import Derived.Test.YtleghbdkjdpilaaByM
namespace Go.Proofs.Ytleghbdkjdpilaa
open Go.RowKit

/-- An entry that was told to be fine. -/
structure En.Fine (x : En) : Prop where
  kl : x.key.length ≤ 4096
  k0 : 0 < x.key.length
  vl : x.val.length ≤ 65536
  seq : x.seq ≤ 72057594037927935
  s0 : 0 < x.seq
  kind : x.kind = 1 ∨ (x.kind = 2 ∧ x.val = [])
theorem En.fine {x : En} (h : enChk x = 0) : x.Fine := by
  unfold enChk at h
  by_cases h1 : wrRight ⟨x.kind, x.key, x.val⟩ = false ∨ x.seq = 0
  · rw [if_pos h1] at h; omega
  rw [if_neg h1] at h
  by_cases h2 : wrShort ⟨x.kind, x.key, x.val⟩ = false ∨ 72057594037927935 < x.seq
  · rw [if_pos h2] at h; omega
  simp only [not_or, Bool.not_eq_false] at h1 h2
  obtain ⟨a1, a2⟩ := h1
  obtain ⟨b1, b2⟩ := h2
  simp only [wrRight, Bool.and_eq_true, Bool.or_eq_true, decide_eq_true_eq] at a1
  simp only [wrShort, Bool.and_eq_true, decide_eq_true_eq] at b1
  refine ⟨b1.1, a1.1, b1.2, by omega, by omega, ?_⟩
  rcases a1.2 with h | ⟨h, h'⟩
  · exact .inl h
  · exact .inr ⟨h, List.eq_nil_of_length_eq_zero h'⟩
theorem enErr_zero : ∀ {l : List En}, enErr l = 0 → ∀ x ∈ l, x.Fine
  | [], _, x, h => by cases h
  | y :: l, h, x, hx => by
    rw [enErr] at h
    by_cases h0 : enChk y ≠ 0
    · rw [if_pos h0] at h; exact absurd h h0
    · rw [if_neg h0] at h
      rcases List.mem_cons.1 hx with rfl | hx
      · exact En.fine (Decidable.not_not.1 h0)
      · exact enErr_zero h x hx
theorem eEnc_len {x : En} (hx : x.Fine) {n : Nat} (hn : n ≤ x.key.length) : (eEnc n x).length ≤ 70000 := by
  have h1 := hx.kl
  have h2 := hx.vl
  have h3 := hx.seq
  have hk : x.kind.toNat ≤ 2 := by rcases hx.kind with h | ⟨h, -⟩ <;> omega
  have l0 := numEnc_u64 (x := n) (by omega)
  have l1 := numEnc_u64 (x := x.key.length - n) (by omega)
  have l2 := numEnc_u64 (x := x.seq * 4 + x.kind.toNat) (by omega)
  have l3 := numEnc_u64 (x := x.val.length) (by omega)
  simp only [eEnc, List.length_append, List.length_drop]
  omega
theorem nAt_le {l : List En} {i : Nat} {x : En} (h : l[i]? = some x) : nAt l i ≤ x.key.length := by
  unfold nAt
  split
  · omega
  · rw [h]
    cases l[i - 1]? with
    | none => exact Nat.zero_le _
    | some p => exact (lcp_le _ _).2
set_option maxRecDepth 100000 in
theorem esTo_len {l : List En} (hf : ∀ x ∈ l, x.Fine) : ∀ i, (esTo l i).length ≤ i * 70000
  | 0 => Nat.zero_le _
  | i + 1 => by
    have ih := esTo_len hf i
    have e : esTo l (i + 1) = esTo l i ++ (match l[i]? with | some x => eEnc (nAt l i) x | none => []) := rfl
    rw [e, List.length_append, Nat.succ_mul]
    refine Nat.add_le_add ih ?_
    cases h : l[i]? with
    | none => exact Nat.zero_le _
    | some x => exact eEnc_len (hf x (List.mem_of_getElem? h)) (nAt_le h)
theorem plTo_len (l : List En) : ∀ i, (plTo l i).length ≤ i
  | 0 => by simp [plTo]
  | i + 1 => by
    have ih := plTo_len l i
    rw [plTo]
    split
    · simp; omega
    · omega
theorem esTo_succ (l : List En) (j : Nat) : (esTo l j).length ≤ (esTo l (j + 1)).length := by
  have e : esTo l (j + 1) = esTo l j ++ (match l[j]? with | some x => eEnc (nAt l j) x | none => []) := rfl
  rw [e, List.length_append]
  omega
theorem esTo_mono (l : List En) {i j : Nat} (h : i ≤ j) : (esTo l i).length ≤ (esTo l j).length := by
  induction j with
  | zero =>
    have : i = 0 := by omega
    subst this
    exact Nat.le_refl _
  | succ j ih =>
    by_cases hj : i ≤ j
    · exact Nat.le_trans (ih hj) (esTo_succ l j)
    · have : i = j + 1 := by omega
      subst this
      exact Nat.le_refl _
theorem plTo_lt (l : List En) : ∀ i, ∀ x ∈ plTo l i, x ≤ (esTo l i).length
  | 0, x, h => by simp [plTo] at h
  | i + 1, x, h => by
    have hm := esTo_mono l (Nat.le_succ i)
    rw [plTo] at h
    split at h
    · rw [List.mem_append, List.mem_singleton] at h
      rcases h with h | rfl
      · exact Nat.le_trans (plTo_lt l i x h) hm
      · exact hm
    · exact Nat.le_trans (plTo_lt l i x h) hm

abbrev ints (ps : List Nat) : List Value := ps.map fun x => Value.int .i64 (x : Nat)
/-- put's two rows: the bytes, the places. -/
structure PtM (w0 W : World) (Ap : Option Addr) (cp : Nat) (xs : List Int) (Aq : Option Addr) (cq : Nat) (ps : List Nat) : Prop where
  p : W.ownsRow w0.heap.size 5 1 (.slice Ap xs.length cp) xs.length (bv xs)
  q : W.ownsRow w0.heap.size 3 1 (.slice Aq ps.length cq) ps.length (ints ps)
  bel : Below w0.heap.size w0 W
  sep : ∀ b, (Value.slice Ap xs.length cp).ownBlock = some b → (Value.slice Aq ps.length cq).ownBlock ≠ some b
section
variable {w0 W W' : World} {Ap Aq : Option Addr} {cp cq : Nat} {xs : List Int} {ps : List Nat}
theorem PtM.nil (w0 : World) : PtM w0 w0 none 0 [] none 0 [] := ⟨World.ownsRow_nil _ _ _ _, World.ownsRow_nil _ _ _ _, Below.refl _ _, fun b h => by cases h⟩
theorem own_belowB {W W' : World} {base n size : Nat} {e : TypeId} {v : Value} {xs : List Value} (h : W.ownsRow base e size v n xs) (hb : Below W.heap.size W W') : W'.ownsRow base e size v n xs :=
  h.kept (row := none) ⟨hb.os, hb.tape, hb.output, hb.size, fun k hk _ => hb.block k hk⟩ (by
    cases hv : v.ownBlock with
    | none => exact .inl rfl
    | some k => exact .inr fun q => by cases q)
theorem PtM.below (h : PtM w0 W Ap cp xs Aq cq ps) (hb : Below W.heap.size W W') : PtM w0 W' Ap cp xs Aq cq ps :=
  ⟨own_belowB h.p hb, own_belowB h.q hb, h.bel.trans (hb.mono h.bel.size), h.sep⟩
theorem PtM.drew (h : PtM w0 W Ap cp xs Aq cq ps) : PtM w0 W.drew Ap cp xs Aq cq ps := h.below (below_drewN (Below.refl _ _) 1)
theorem PtM.appP {ys : List Int} {A' : Option Addr} {c' : Nat} (h : PtM w0 W Ap cp xs Aq cq ps) (k : App w0.heap.size 5 1 W (.slice Ap xs.length cp) W' (.slice A' (xs ++ ys).length c') (xs ++ ys).length (bv (xs ++ ys))) : PtM w0 W' A' c' (xs ++ ys) Aq cq ps := by
  have hne : (Value.slice Aq ps.length cq).ownBlock = none ∨ (Value.slice Aq ps.length cq).ownBlock ≠ (Value.slice Ap xs.length cp).ownBlock := by
    cases hp : (Value.slice Aq ps.length cq).ownBlock with
    | none => exact .inl rfl
    | some b => exact .inr fun e => h.sep b e.symm hp
  refine ⟨k.own, h.q.kept k.grown hne, h.bel.trans (grown_below k.grown h.bel.size (fun b e => (h.p.lt b e).1)), fun b e => ?_⟩
  rcases k.block with h1 | ⟨g, h1, h2⟩
  · exact h.sep b (h1.symm.trans e)
  · rw [h1] at e
    cases e
    intro e2
    have := (h.q.lt _ e2).2
    omega
theorem PtM.appQ {y : Nat} {A' : Option Addr} {c' : Nat} (h : PtM w0 W Ap cp xs Aq cq ps) (k : App w0.heap.size 3 1 W (.slice Aq ps.length cq) W' (.slice A' (ps.length + 1) c') (ps.length + 1) (ints ps ++ [.int .i64 (y : Nat)])) : PtM w0 W' Ap cp xs A' c' (ps ++ [y]) := by
  have hl : (ps ++ [y]).length = ps.length + 1 := by simp
  have he : ints (ps ++ [y]) = ints ps ++ [.int .i64 (y : Nat)] := by simp [ints]
  have hne : (Value.slice Ap xs.length cp).ownBlock = none ∨ (Value.slice Ap xs.length cp).ownBlock ≠ (Value.slice Aq ps.length cq).ownBlock := by
    cases hp : (Value.slice Ap xs.length cp).ownBlock with
    | none => exact .inl rfl
    | some b => exact .inr fun e => h.sep b hp e.symm
  refine ⟨h.p.kept k.grown hne, by rw [hl, he]; exact k.own, h.bel.trans (grown_below k.grown h.bel.size (fun b e => (h.q.lt b e).1)), fun b e e2 => ?_⟩
  rw [hl] at e2
  rcases k.block with h1 | ⟨g, h1, h2⟩
  · exact h.sep b e (h1.symm.trans e2)
  · rw [h1] at e2
    cases e2
    have := (h.p.lt _ e).2
    omega
end
theorem intinfo : (Try.prog.info? 3).map (fun i => (i.zero, i.size, i.bytes)) = some (some (.int .i64 0), 1, 8) := by kernel_rfl
/-- append of one int. -/
theorem wpList_appI (w : World) {ops : Array Oper} {rest : List Oper} {o : Oper} {a : Act} {Q : Exit → Act → World → Prop} (hgd : o.guard = none) (s x : Operand)
    (ho : o.op = .call { callee := .builtin .append, args := #[s, x], argTypes := #[50, 50] })
    (base : Nat) (v : Value) (n : Nat) (xs : List Value) (hs : a.eval s = v) (hown : w.ownsRow base 3 1 v n xs)
    (B : Nat) (A : Option Addr) (c : Nat) (y : Int) (hx : a.eval x = .slice A 1 c) (hr : Rd w B A [.int .i64 y])
    (hbytes : n ≤ 1048576) (hbase : base ≤ w.heap.size)
    (h : ∀ A' c' w', App base 3 1 w v w' (.slice A' (n + 1) c') (n + 1) (xs ++ [.int .i64 y]) → wpList Try.prog ops Q rest (a.put o.dst (.slice A' (n + 1) c')) w') :
    wpList Try.prog ops Q (o :: rest) a w := by
  obtain ⟨i0, hi0, hz0, hz1, hz2⟩ := info_parts intinfo
  refine wpList_app w hgd s x _ ho base 3 i0 _ 1 8 Try.underlying50 hi0 hz0 hz1 hz2 rfl (by omega) v n xs hs hown B A 1 c [.int .i64 y] hx rfl hr (by simp [Value.oneCell']) (by simp only [maxLen]; omega) (by omega) hbase ?_
  intro A' c' w' h1 h2 h3 h4
  exact h A' c' w' ((App.refl hown).step h1 h2 h3)
/-- append of bytes, at a step of a region that draws its order. -/
theorem step_appP {w : World} {ops : Array Oper} {o : Oper} {a : Act} {K : Act → World → Prop} {Q : Exit → Act → World → Prop} {E : Prop} (hgd : o.guard = none) (s x : Operand)
    (ho : o.op = .call { callee := .builtin .append, args := #[s, x], argTypes := #[26, 26] })
    (base : Nat) (v : Value) (n : Nat) (xs : List Int) (hs : a.eval s = v) (hown : w.ownsRow base 5 1 v n (bv xs))
    (B : Nat) (A : Option Addr) (m c : Nat) (news : List Int) (hx : a.eval x = .slice A m c) (hl : news.length = m) (hr : Rb w B A news)
    (hbytes : n + m ≤ 140737488355328) (hbase : base ≤ w.heap.size)
    (h : ∀ A' c' w', App base 5 1 w v w' (.slice A' (n + m) c') (n + m) (bv (xs ++ news)) → (A' = none → v = .slice none 0 0 ∧ m = 0) → K (a.put o.dst (.slice A' (n + m) c')) w') :
    if Region.wanted o (yielded ops a.tmps) = true then Oper.wp Try.prog o a w K Q else E := by
  have hw : Region.wanted o (yielded ops a.tmps) = true := by simp [Region.wanted, hgd]
  rw [if_pos hw]
  obtain ⟨i0, hi0, hz0, hz1, hz2⟩ := info_parts (show (Try.prog.info? 5).map (fun i => (i.zero, i.size, i.bytes)) = some (some (.int .u8 0), 1, 1) from by kernel_rfl)
  refine wp_app w s x _ ho base 5 i0 _ 1 1 Try.underlying26 hi0 hz0 hz1 hz2 rfl (by omega) v n (bv xs) hs hown B A m c (bv news) hx (by rw [bv_length]; omega) hr (bv_one news) (by simp only [maxLen]; omega) (by omega) hbase ?_
  intro A' c' w' h1 h2 h3 h4
  rw [← bv_append] at h1
  exact h A' c' w' ((App.refl hown).step h1 h2 h3) h4
end Go.Proofs.Ytleghbdkjdpilaa
