/- Blocks, plain: entries put into order; how long a block is; what a block's bytes without the last one tell; what other bytes tell. -/
import Derived.Test.YtleghbdkjdpilaaBkV
import Derived.Test.YtleghbdkjdpilaaKiE
import Derived.Test.YtleghbdkjdpilaaRbP
namespace Go.Proofs.Ytleghbdkjdpilaa
open Go.RowKit

/-- One entry put into order, if it may be. -/
def inStep (acc : List En) (x : En) : List En := if enChk x ≠ 0 then acc else if risB (putN x acc) = true then putN x acc else acc
/-- What the first i entries leave. -/
def inTo (l : List En) (i : Nat) : List En := (l.take i).foldl inStep []
theorem inTo_zero (l : List En) : inTo l 0 = [] := rfl
theorem inTo_step {l : List En} {i : Nat} {x : En} (h : l[i]? = some x) : inTo l (i + 1) = inStep (inTo l i) x := by
  unfold inTo
  rw [take_snoc h, List.foldl_append]
  rfl
theorem putN_len (x : En) : ∀ l, (putN x l).length = l.length + 1
  | [] => rfl
  | a :: l => by
    rw [putN]
    split
    · rw [List.length_cons, putN_len x l, List.length_cons]
    · rfl
theorem putN_weigh (x : En) : ∀ l, weigh (putN x l) = weigh l + (x.key.length + x.val.length)
  | [] => by simp [putN, weigh]
  | a :: l => by
    rw [putN]
    split
    · rw [weigh, putN_weigh x l, weigh]; omega
    · rw [weigh]; omega
theorem putN_mem (x : En) : ∀ l, ∀ y ∈ putN x l, y = x ∨ y ∈ l
  | [], y, h => by simp [putN] at h; exact .inl h
  | a :: l, y, h => by
    rw [putN] at h
    split at h
    · rcases List.mem_cons.1 h with rfl | h
      · exact .inr (by simp)
      · rcases putN_mem x l y h with rfl | h
        · exact .inl rfl
        · exact .inr (by simp [h])
    · rcases List.mem_cons.1 h with rfl | h
      · exact .inl rfl
      · exact .inr h
theorem enErr_all : ∀ {l : List En}, (∀ x ∈ l, enChk x = 0) → enErr l = 0
  | [], _ => rfl
  | x :: l, h => by
    rw [enErr, if_neg (by rw [h x (by simp)]; simp)]
    exact enErr_all fun y hy => h y (by simp [hy])
/-- What stays true of the entries that were put. -/
structure InOk (acc : List En) (i k : Nat) : Prop where
  chk : enErr acc = 0
  ris : risB acc = true
  len : acc.length ≤ i
  wt : weigh acc ≤ k
theorem InOk.nil : InOk [] 0 0 := ⟨rfl, rfl, Nat.le_refl _, Nat.le_refl _⟩
theorem InOk.step {acc : List En} {i k : Nat} (h : InOk acc i k) (x : En) : InOk (inStep acc x) (i + 1) (k + (x.key.length + x.val.length)) := by
  unfold inStep
  by_cases h1 : enChk x ≠ 0
  · rw [if_pos h1]
    exact ⟨h.chk, h.ris, by have := h.len; omega, by have := h.wt; omega⟩
  · rw [if_neg h1]
    by_cases h2 : risB (putN x acc) = true
    · rw [if_pos h2]
      refine ⟨enErr_all fun y hy => ?_, h2, by rw [putN_len]; have := h.len; omega, by rw [putN_weigh]; have := h.wt; omega⟩
      rcases putN_mem x acc y hy with rfl | hy
      · exact Decidable.not_not.1 h1
      · exact enErr_chk h.chk y hy
    · rw [if_neg h2]
      exact ⟨h.chk, h.ris, by have := h.len; omega, by have := h.wt; omega⟩
theorem inTo_ok (l : List En) : ∀ i, i ≤ l.length → InOk (inTo l i) i (weigh (l.take i))
  | 0, _ => InOk.nil
  | i + 1, h => by
    have ih := inTo_ok l i (by omega)
    obtain ⟨x, hx⟩ : ∃ x, l[i]? = some x := ⟨_, List.getElem?_eq_getElem (by omega)⟩
    rw [inTo_step hx, take_snoc hx, weigh_app]
    have e : weigh [x] = x.key.length + x.val.length := by simp [weigh]
    rw [e]
    exact ih.step x
theorem weigh_take (l : List En) (i : Nat) : weigh (l.take i) ≤ weigh l := by
  have h := weigh_app (l.take i) (l.drop i)
  rw [List.take_append_drop] at h
  omega
theorem inTo_le {l : List En} {i : Nat} (h : i ≤ l.length) : InOk (inTo l i) i (weigh l) := by
  have := inTo_ok l i h
  exact ⟨this.chk, this.ris, this.len, Nat.le_trans this.wt (weigh_take l i)⟩

/-! How long a block is. -/
theorem eEnc_lenW {x : En} (hx : x.Fine) {n : Nat} (hn : n ≤ x.key.length) : (eEnc n x).length ≤ x.key.length + x.val.length + 40 := by
  have h1 := hx.kl
  have h2 := hx.vl
  have h3 := hx.seq
  have hk : x.kind.toNat ≤ 2 := by rcases hx.kind with h | ⟨h, -⟩ <;> omega
  have l0 := numEnc_u64 (x := n) (by omega)
  have l1 := numEnc_u64 (x := x.key.length - n) (by omega)
  have l2 := numEnc_u64 (x := x.seq * 4 + x.kind.toNat) (by omega)
  have l3 := numEnc_u64 (x := x.val.length) (by omega)
  simp only [eEnc, List.length_append, List.length_drop]
  omega
theorem esTo_lenW {l : List En} (hf : ∀ x ∈ l, x.Fine) : ∀ i, i ≤ l.length → (esTo l i).length ≤ weigh (l.take i) + i * 40
  | 0, _ => Nat.zero_le _
  | i + 1, h => by
    have ih := esTo_lenW hf i (by omega)
    obtain ⟨x, hx⟩ : ∃ x, l[i]? = some x := ⟨_, List.getElem?_eq_getElem (by omega)⟩
    have hw : weigh (l.take (i + 1)) = weigh (l.take i) + (x.key.length + x.val.length) := by
      rw [take_snoc hx, weigh_app]
      simp [weigh]
    have := eEnc_lenW (hf x (List.mem_of_getElem? hx)) (nAt_le hx)
    rw [esTo_step hx, List.length_append, hw, Nat.succ_mul]
    omega
theorem blk_small {l : List En} {k : Nat} (h : InOk l 200 k) (hk : k ≤ 20000) : (blk l).length ≤ 30000 := by
  have h1 := esTo_lenW (enErr_zero h.chk) l.length (Nat.le_refl _)
  have h2 := plTo_len l l.length
  have h3 := h.len
  have h4 := h.wt
  rw [List.take_length] at h1
  rw [blk_length]
  omega
theorem blkOut_small {l : List En} {k : Nat} (h : InOk l 200 k) (hk : k ≤ 20000) (hne : l ≠ []) : blkOut l = (blk l, 0) := by
  have h1 := blk_small h hk
  unfold blkOut
  rw [if_neg (by rw [h.chk]; simp), if_neg (by rw [h.ris]; simp [hne]), if_neg (by omega)]
theorem blkOut_none {l : List En} (h : enErr l = 0) (hne : l = []) : blkOut l = ([], 2) := by
  unfold blkOut
  rw [if_neg (by rw [h]; simp), if_pos (.inl hne)]

/-! Entries whose bytes stand ahead in others' are ahead in them. -/
theorem plTo_count (l : List En) : ∀ i, (plTo l i).length = (i + 15) / 16
  | 0 => by simp [plTo]
  | i + 1 => by
    have ih := plTo_count l i
    rw [plTo]
    split
    · rw [List.length_append, ih, List.length_singleton]; omega
    · rw [ih]; omega
theorem esTo_take (l : List En) : ∀ {i j : Nat}, i ≤ j → esTo (l.take j) i = esTo l i
  | 0, _, _ => rfl
  | i + 1, j, h => by
    have ih := esTo_take l (i := i) (j := j) (by omega)
    have e1 : (l.take j)[i]? = l[i]? := by rw [List.getElem?_take, if_pos (by omega)]
    have e2 : (l.take j)[i - 1]? = l[i - 1]? := by rw [List.getElem?_take, if_pos (by omega)]
    have e3 : nAt (l.take j) i = nAt l i := by unfold nAt; rw [e1, e2]
    show esTo (l.take j) i ++ _ = esTo l i ++ _
    rw [ih, e1, e3]
theorem keyBe_take (l : List En) : ∀ {i j : Nat}, i ≤ j → keyBe (l.take j) i = keyBe l i
  | 0, _, _ => rfl
  | i + 1, j, h => by
    have e1 : (l.take j)[i]? = l[i]? := by rw [List.getElem?_take, if_pos (by omega)]
    rw [keyBe, keyBe, e1]
theorem es_ahead {l y : List En} (hl : ∀ x ∈ l, x.Fine) (hy : ∀ x ∈ y, x.Fine) {r : List Int} (hr : esTo l l.length = esTo y y.length ++ r) : ∀ i, i ≤ l.length → i ≤ y.length → l.take i = y.take i
  | 0, _, _ => by simp
  | i + 1, h1, h2 => by
    have ih := es_ahead hl hy hr i (by omega) (by omega)
    obtain ⟨a, ha⟩ : ∃ a, l[i]? = some a := ⟨_, List.getElem?_eq_getElem (by omega)⟩
    obtain ⟨b, hb⟩ : ∃ b, y[i]? = some b := ⟨_, List.getElem?_eq_getElem (by omega)⟩
    have hes : esTo l i = esTo y i := by rw [← esTo_take l (Nat.le_refl i), ih, esTo_take y (Nat.le_refl i)]
    have hkb : keyBe l i = keyBe y i := by rw [← keyBe_take l (Nat.le_refl i), ih, keyBe_take y (Nat.le_refl i)]
    obtain ⟨r1, hr1⟩ := esTo_split l (i + 1) (l.length - (i + 1))
    obtain ⟨r2, hr2⟩ := esTo_split y (i + 1) (y.length - (i + 1))
    rw [show i + 1 + (l.length - (i + 1)) = l.length from by omega, esTo_step ha] at hr1
    rw [show i + 1 + (y.length - (i + 1)) = y.length from by omega, esTo_step hb] at hr2
    have hp : (esTo l i).length ≤ (esTo l l.length).length := esTo_mono l (by omega)
    have d1 : (esTo l l.length).drop (esTo l i).length = eEnc (nAt l i) a ++ r1 := by rw [hr1, List.append_assoc, List.drop_left]
    have d2 : (esTo l l.length).drop (esTo l i).length = eEnc (nAt y i) b ++ (r2 ++ r) := by
      rw [hr, hr2, hes, List.append_assoc, List.append_assoc, List.drop_left]
    have e1 := entOf_at (hl a (List.mem_of_getElem? ha)) hp (nAt_le ha) (nAt_take ha).1 (nAt_take ha).2 d1
    rw [hkb] at e1
    have e2 := entOf_at (hy b (List.mem_of_getElem? hb)) hp (nAt_le hb) (nAt_take hb).1 (nAt_take hb).2 d2
    rw [e1] at e2
    simp only [EOut.mk.injEq] at e2
    rw [take_snoc ha, take_snoc hb, ih, e2.2.1]
/-- Entries whose bytes are fewer, and stand ahead in others', are no more than those. -/
theorem es_fewer {l y : List En} (hl : ∀ x ∈ l, x.Fine) (hy : ∀ x ∈ y, x.Fine) {r : List Int} (hr : esTo l l.length = esTo y y.length ++ r) : y.length ≤ l.length ∨ r = [] := by
  by_cases h : y.length ≤ l.length
  · exact .inl h
  · refine .inr ?_
    have h1 := es_ahead hl hy hr l.length (Nat.le_refl _) (by omega)
    rw [List.take_length] at h1
    have h2 : esTo l l.length = esTo y l.length := by
      rw [← esTo_take y (Nat.le_refl l.length), ← h1]
    have h3 := esTo_mono y (i := l.length) (j := y.length) (by omega)
    have h4 := congrArg List.length hr
    rw [List.length_append, h2] at h4
    exact List.eq_nil_of_length_eq_zero (by omega)
end Go.Proofs.Ytleghbdkjdpilaa
