/- Rows of edges of the call's own: append; an edge laid into one. (Turned out of SoR.) -/
import Derived.Laws.OwnMore
import Derived.Test.YthaiplhjekkooaaDeB
import Derived.Test.YthaiplhjekkooaaSoR
namespace Go.Proofs.Ythaiplhjekkooaa
open Go.RowKit

theorem edinfo : (Try.prog.info? 47).map (fun i => (i.zero, i.size, i.bytes)) = some (some (.agg #[.int .u64 0, .string ⟨#[]⟩, .string ⟨#[]⟩, .int .u64 0]), 4, 48) := by kernel_rfl
theorem eds_append (a b : List Ed) : eds (a ++ b) = eds a ++ eds b := by simp [flatR]
theorem eds_one (l : List Ed) : ∀ u ∈ eds l, u.oneCell' = true := flatR_one edC_one l
/-- append of edges. -/
theorem wpList_appD (w : World) {ops : Array Oper} {rest : List Oper} {o : Oper} {a : Act} {Q : Exit → Act → World → Prop} (hgd : o.guard = none) (s x : Operand)
    (ho : o.op = .call { callee := .builtin .append, args := #[s, x], argTypes := #[25, 25] })
    (base : Nat) (v : Value) (n : Nat) (l : List Ed) (hs : a.eval s = v) (hown : w.ownsRow base 47 4 v n (eds l))
    (B : Nat) (A : Option Addr) (m c : Nat) (news : List Ed) (hx : a.eval x = .slice A m c) (hl : news.length = m) (hr : RbD w B A news)
    (hbytes : n + m ≤ 1048576) (hbase : base ≤ w.heap.size)
    (h : ∀ A' c' w', App base 47 4 w v w' (.slice A' (n + m) c') (n + m) (eds (l ++ news)) → (A' = none → v = .slice none 0 0 ∧ m = 0) → wpList Try.prog ops Q rest (a.put o.dst (.slice A' (n + m) c')) w') :
    wpList Try.prog ops Q (o :: rest) a w := by
  obtain ⟨i0, hi0, hz0, hz1, hz2⟩ := info_parts edinfo
  refine wpList_app w hgd s x _ ho base 47 i0 _ 4 48 Try.underlying25 hi0 hz0 hz1 hz2 rfl (by omega) v n (eds l) hs hown B A m c (eds news) hx (by rw [eds_length]; omega) hr (eds_one news) (by simp only [maxLen]; omega) (by omega) hbase ?_
  intro A' c' w' h1 h2 h3 h4
  rw [← eds_append] at h1
  exact h A' c' w' ((App.refl hown).step h1 h2 h3) h4
theorem run_appD (w : World) (base : Nat) (v : Value) (n : Nat) (l : List Ed) (hown : w.ownsRow base 47 4 v n (eds l))
    (B : Nat) (A : Option Addr) (m c : Nat) (news : List Ed) (hl : news.length = m) (hr : RbD w B A news) (hbytes : n + m ≤ 1048576) (hbase : base ≤ w.heap.size) :
    ∃ A' c' w', (appK #[25, 25] 25 #[v, .slice A m c]).run Try.prog w = .ok (.slice A' (n + m) c') w' ∧ App base 47 4 w v w' (.slice A' (n + m) c') (n + m) (eds (l ++ news)) := by
  obtain ⟨i0, hi0, hz0, hz1, hz2⟩ := info_parts edinfo
  obtain ⟨v', w', hrun, h2, h3, h4, ⟨A', c', rfl⟩, h6⟩ := run_app (P := Try.prog) w base 25 25 47 i0 _ 4 48 Try.underlying25 hi0 hz0 hz1 hz2 rfl (by omega) v n (eds l) hown B A m c (eds news) (by rw [eds_length, hl]) hr (eds_one news) (by simp only [maxLen]; omega) (by omega) hbase
  rw [← eds_append] at h2
  exact ⟨A', c', w', hrun, (App.refl hown).step h2 h3 h4⟩
theorem eds_take (l : List Ed) (k : Nat) : (eds l).take (k * 4) = eds (l.take k) := flatR_take edC_length l k
theorem RbD.take {w : World} {B : Nat} {A : Option Addr} {l : List Ed} (h : RbD w B A l) (k : Nat) : RbD w B A (l.take k) := by
  have := Rd.take h (k * 4)
  rwa [eds_take] at this
theorem RbD.drop {w : World} {B k cap : Nat} {A : Option Addr} {l : List Ed} (h : RbD w B A l) (hc : l.length ≤ cap) : RbD w B (cutA A cap k 4) (l.drop k) := by
  unfold cutA
  show Rd _ _ _ (eds (l.drop k))
  rw [show eds (l.drop k) = (eds l).drop (k * 4) from (flatR_drop edC_length l k).symm]
  have h1 := Rd.drop (k := k * 4) (cap := cap * 4) h (by rw [eds_length]; omega)
  by_cases hk : cap = k
  · rw [if_pos hk]
    rwa [if_pos (by omega)] at h1
  · rw [if_neg hk]
    rwa [if_neg (by omega)] at h1
theorem own_ltD {w : World} {base n size : Nat} {e : TypeId} {v : Value} {xs : List Value} (h : w.ownsRow base e size v n xs) : ∀ k, v.ownBlock = some k → k < w.heap.size ∧ base ≤ k := fun k hk => by
  rcases h.2 with ⟨h1, _⟩ | ⟨g, cap, cur, h1, hbase, hb, _⟩
  · rw [h1] at hk
    cases hk
  · rw [h1] at hk
    have e := Option.some.inj hk
    simp only at e
    subst e
    exact ⟨(Array.getElem?_eq_some_iff.1 hb).1, hbase⟩
/-- One edge laid into a row at k, what lay behind it being put back. -/
theorem insRowD {base lo j k c c3 : Nat} {A A3 : Option Addr} {l : List Ed} {e : Ed} (W4 : World) (hown : W4.ownsRow base 47 4 (.slice A j c) j (eds l)) (hl : l.length = j) (hk : k ≤ j) (hj : j ≤ 100000)
    (hA3 : W4.ownsRow lo 47 4 (.slice A3 (j - k) c3) (j - k) (eds (l.drop k))) (hne : ∀ a, A3 = some a → (Value.slice A j c).ownBlock ≠ some a.block) (hbase : base ≤ W4.heap.size) :
    ∃ A5 c5 w5 A6 c6 w6, (appK #[25, 25] 25 #[.slice A k c, .slice (some ⟨W4.heap.size, 0, none⟩) 1 1]).run Try.prog (W4.alloc (.cells (edA e) 47)) = .ok (.slice A5 (k + 1) c5) w5 ∧
      (appK #[25, 25] 25 #[.slice A5 (k + 1) c5, .slice A3 (j - k) c3]).run Try.prog w5 = .ok (.slice A6 (j + 1) c6) w6 ∧ w6.ownsRow base 47 4 (.slice A6 (j + 1) c6) (j + 1) (eds (l.take k ++ e :: l.drop k)) ∧ Below base W4 w6 ∧
      ∀ q, q < W4.heap.size → (Value.slice A j c).ownBlock ≠ some q → w5.heap[q]? = W4.heap[q]? ∧ w6.heap[q]? = W4.heap[q]? := by
  have hb5 : Below W4.heap.size W4 (W4.alloc (.cells (edA e) 47)) := (Below.refl _ W4).alloc (Nat.le_refl _) _
  have hrd : RbD (W4.alloc (.cells (edA e) 47)) (W4.heap.size + 1) (some ⟨W4.heap.size, 0, none⟩) [e] := by
    have e1 : eds [e] = (edA e).toList := by simp [flatR, edC]
    show Rd _ _ _ (eds [e])
    rw [e1]
    exact Rd.lit W4 (edA e) 47
  have hsz : (W4.alloc (.cells (edA e) 47)).heap.size = W4.heap.size + 1 := by simp
  obtain ⟨W5, hW5⟩ : ∃ W5, W4.alloc (.cells (edA e) 47) = W5 := ⟨_, rfl⟩
  rw [hW5] at hb5 hrd hsz ⊢
  have hown5 := ((App.refl hown).later hb5).own
  have hob : (Value.slice A k c).ownBlock = (Value.slice A j c).ownBlock := by cases A <;> rfl
  have hlt := own_ltD hown5
  have hbW : base ≤ W5.heap.size := Nat.le_trans hbase hb5.size
  have htk := own_take hown5 hk
  rw [eds_take] at htk
  obtain ⟨A5, c5, w5, hrun5, hap5⟩ := run_appD W5 base (.slice A k c) k (l.take k) htk _ _ 1 1 [e] rfl hrd (by omega) hbW
  have hgr5 := hap5.grown
  rw [hob] at hgr5
  have hA5 := Rd.grownS (Rd.of_own ((App.refl hA3).later hb5).own) hgr5 hne
  have hl2 : (l.drop k).length = j - k := by rw [List.length_drop, hl]
  obtain ⟨A6, c6, w6, hrun6, hap6⟩ := run_appD w5 base (.slice A5 (k + 1) c5) (k + 1) (l.take k ++ [e]) hap5.own _ A3 (j - k) c3 (l.drop k) hl2 hA5 (by omega) (Nat.le_trans hbW hap5.heap)
  rw [show k + 1 + (j - k) = j + 1 from by omega, List.append_assoc, List.singleton_append] at hap6
  rw [show k + 1 + (j - k) = j + 1 from by omega] at hrun6
  have hkp : ∀ q, q < W4.heap.size → (Value.slice A j c).ownBlock ≠ some q → w5.heap[q]? = W4.heap[q]? ∧ w6.heap[q]? = W4.heap[q]? := fun q hq hqn => by
    have e1 := hb5.block q hq
    have e2 := hgr5.block q (by omega) (Ne.symm hqn)
    have e3 := hap6.grown.block q (by have := hap5.heap; omega) (fun e => by
      rcases hap5.block with hb | ⟨r, hb, hr⟩
      · rw [hb, hob] at e
        exact hqn e.symm
      · rw [hb] at e
        have := Option.some.inj e
        omega)
    exact ⟨e2.trans e1, e3.trans (e2.trans e1)⟩
  refine ⟨A5, c5, w5, A6, c6, w6, hrun5, hrun6, hap6.own, ?_, hkp⟩
  have h5 : Below base W5 w5 := hap5.below hbW (fun q hq => (hlt q (by rw [← hob]; exact hq)).2)
  have h6 : Below base w5 w6 := hap6.below (Nat.le_trans hbW hap5.heap) (fun q hq => by
    rcases hap5.block with hb | ⟨r, hb, hr⟩
    · rw [hb, hob] at hq
      exact (hlt q hq).2
    · rw [hb] at hq
      have := Option.some.inj hq
      omega)
  exact ((hb5.mono hbase).trans h5).trans h6
/-- Where an edge is put. -/
def addPos (x : Ed) : List Ed → Nat
  | [] => 0
  | a :: l => if edLt a x = true then addPos x l + 1 else 0
/-- The document's add. -/
def addE (x : Ed) (l : List Ed) : List Ed × Bool :=
  match l[addPos x l]? with
  | some y => if edLt x y = true then (l.take (addPos x l) ++ x :: l.drop (addPos x l), decide (x.n ≤ 4611686018427387904))
    else if 4611686018427387904 < x.n ∨ 4611686018427387904 - x.n < y.n then (l, false) else (l.set (addPos x l) ⟨y.b, y.f, y.t, y.n + x.n⟩, true)
  | none => (l.take (addPos x l) ++ x :: l.drop (addPos x l), decide (x.n ≤ 4611686018427387904))
theorem addPos_at {x : Ed} : ∀ {l : List Ed} {k : Nat}, k ≤ l.length → (∀ a ∈ l.take k, edLt a x = true) → (∀ a, l[k]? = some a → edLt a x = false) → addPos x l = k
  | [], k, h, _, _ => by simp at h; rw [h]; rfl
  | a :: l, 0, _, _, h2 => by rw [addPos, if_neg (by rw [h2 a rfl]; simp)]
  | a :: l, k + 1, h, h1, h2 => by
    rw [addPos, if_pos (h1 a (by simp)), addPos_at (l := l) (k := k) (by simpa using h) (fun b hb => h1 b (by simp [hb])) (fun b hb => h2 b (by simpa using hb))]
/-- What add hands back: the row, and whether it could. -/
def AddPost (base : Nat) (w : World) (r : List Ed × Bool) (e : Ending) (w' : World) : Prop :=
  ∃ A' c' n', e = .returned (.tuple #[.slice A' n' c', .bool r.2]) ∧ r.1.length = n' ∧ w'.ownsRow base 47 4 (.slice A' n' c') n' (eds r.1) ∧ Below base w w'
end Go.Proofs.Ythaiplhjekkooaa
