/- Blocks, plain: Parse of Append is the entries. -/
import Derived.Test.YtleghbdkjdpilaaBkU
namespace Go.Proofs.Ytleghbdkjdpilaa
open Go.RowKit

theorem rdNum_dr {zs post : List Int} {p v : Nat} (hv : v < 18446744073709551616) (hd : zs.drop p = numEnc v ++ post) : rdNum zs p 0 = (v, p + (numEnc v).length, 0) := by
  rw [rdNum, if_neg (by simp), hd, shortOf_num v post hv]
theorem drop_go {zs ys post : List Int} {p : Nat} (hd : zs.drop p = ys ++ post) : zs.drop (p + ys.length) = post := by
  rw [← List.drop_drop, hd, List.drop_left]
theorem drop_len {zs ys post : List Int} {p : Nat} (hp : p ≤ zs.length) (hd : zs.drop p = ys ++ post) : p + ys.length + post.length = zs.length := by
  have h := congrArg List.length hd
  rw [List.length_drop, List.length_append] at h
  omega
theorem rdFix_dr {zs ys post : List Int} {p : Nat} (hp : p ≤ zs.length) (hd : zs.drop p = ys ++ post) : rdFix zs p 0 ys.length = (ys, p + ys.length, 0) := by
  have := drop_len hp hd
  rw [rdFix, if_neg (by simp), if_neg (by omega), hd, List.take_left]
/-- entry reads what put put. -/
theorem entOf_at {zs key post : List Int} {p n : Nat} {x : En} (hx : x.Fine) (hp : p ≤ zs.length) (hn : n ≤ x.key.length) (hk : n ≤ key.length) (ht : key.take n = x.key.take n)
    (hd : zs.drop p = eEnc n x ++ post) : entOf zs p key = ⟨true, x, p + (eEnc n x).length, 0⟩ := by
  have h1 := hx.kl
  have h2 := hx.vl
  have h3 := hx.seq
  have hk2 : x.kind.toNat ≤ 2 ∧ ((x.kind.toNat : Nat) : Int) = x.kind := by rcases hx.kind with h | ⟨h, -⟩ <;> rw [h] <;> exact ⟨by decide, rfl⟩
  obtain ⟨kd, hkd⟩ : ∃ kd, x.kind.toNat = kd := ⟨_, rfl⟩
  rw [hkd] at hk2
  obtain ⟨m, hm⟩ : ∃ m, x.key.length - n = m := ⟨_, rfl⟩
  obtain ⟨k2, hk2'⟩ : ∃ k2, x.key.drop n = k2 := ⟨_, rfl⟩
  have hml : k2.length = m := by rw [← hk2', List.length_drop, hm]
  have henc : eEnc n x = numEnc n ++ (numEnc m ++ (numEnc (x.seq * 4 + kd) ++ (numEnc x.val.length ++ (k2 ++ x.val)))) := by
    rw [eEnc, hm, hkd, hk2']
    simp only [List.append_assoc]
  have hd0 : zs.drop p = numEnc n ++ (numEnc m ++ (numEnc (x.seq * 4 + kd) ++ (numEnc x.val.length ++ (k2 ++ (x.val ++ post))))) := by
    rw [hd, henc]
    simp only [List.append_assoc]
  have hlen : (eEnc n x).length = (numEnc n).length + (numEnc m).length + (numEnc (x.seq * 4 + kd)).length + (numEnc x.val.length).length + k2.length + x.val.length := by
    rw [henc]
    simp only [List.length_append]
    omega
  have l0 := drop_len hp hd0
  have d1 := drop_go hd0
  have d2 := drop_go d1
  have d3 := drop_go d2
  have d4 := drop_go d3
  have d5 := drop_go d4
  have e1 := rdNum_dr (v := n) (by omega) hd0
  have e2 := rdNum_dr (v := m) (by omega) d1
  have e3 := rdNum_dr (v := x.seq * 4 + kd) (by omega) d2
  have e4 := rdNum_dr (v := x.val.length) (by omega) d3
  obtain ⟨q1, hq1⟩ : ∃ q, p + (numEnc n).length = q := ⟨_, rfl⟩
  rw [hq1] at d1 d2 d3 d4 d5 e1 e2 e3 e4
  obtain ⟨q2, hq2⟩ : ∃ q, q1 + (numEnc m).length = q := ⟨_, rfl⟩
  rw [hq2] at d2 d3 d4 d5 e2 e3 e4
  obtain ⟨q3, hq3⟩ : ∃ q, q2 + (numEnc (x.seq * 4 + kd)).length = q := ⟨_, rfl⟩
  rw [hq3] at d3 d4 d5 e3 e4
  obtain ⟨q4, hq4⟩ : ∃ q, q3 + (numEnc x.val.length).length = q := ⟨_, rfl⟩
  rw [hq4] at d4 d5 e4
  have l1 : q1 ≤ zs.length := by omega
  have l2 := drop_len l1 d1
  have l2' : q2 ≤ zs.length := by omega
  have l3 := drop_len l2' d2
  have l3' : q3 ≤ zs.length := by omega
  have l4 := drop_len l3' d3
  have l4' : q4 ≤ zs.length := by omega
  have l5 := drop_len l4' d4
  simp only [List.length_append] at l5
  have hq : eNum zs p = ⟨n, m, x.seq * 4 + kd, x.val.length, q4, 0⟩ := by
    unfold eNum
    simp only [e1, e2, e3, e4]
  have f1 := rdFix_dr l4' d4
  rw [hml] at f1
  have f2 := rdFix_dr (by omega) (show zs.drop (q4 + m) = x.val ++ post by rw [← hml]; exact d5)
  have hbad : entBad zs key ⟨n, m, x.seq * 4 + kd, x.val.length, q4, 0⟩ = false := by
    simp [entBad]
    omega
  rw [entOf, hq, hbad, if_neg (by simp)]
  unfold entGo
  simp only [f1, f2]
  have g1 : key.take n ++ k2 = x.key := by rw [ht, ← hk2', List.take_append_drop]
  have g2 : (x.seq * 4 + kd) / 4 = x.seq := by omega
  have g3 : (x.seq * 4 + kd) % 4 = kd := by omega
  rw [g1, g2, g3, hk2.2, hlen]
  simp only [decide_true, EOut.mk.injEq, true_and, and_true]
  omega
/-- The key ahead of the i-th entry. -/
def keyBe (l : List En) : Nat → List Int
  | 0 => []
  | i + 1 => match l[i]? with | some a => a.key | none => []
theorem lcp_take : ∀ (a b : List Int), a.take (lcp a b) = b.take (lcp a b)
  | [], _ => by simp [lcp]
  | _ :: _, [] => by simp [lcp]
  | x :: a, y :: b => by
    rw [lcp]
    split
    · rename_i h
      rw [h]
      simp [lcp_take a b]
    · simp
theorem nAt_take {l : List En} {i : Nat} {x : En} (h : l[i]? = some x) : nAt l i ≤ (keyBe l i).length ∧ (keyBe l i).take (nAt l i) = x.key.take (nAt l i) := by
  unfold nAt
  by_cases h0 : i % 16 = 0
  · rw [if_pos h0]
    simp
  · rw [if_neg h0]
    obtain ⟨j, rfl⟩ : ∃ j, i = j + 1 := ⟨i - 1, by omega⟩
    rw [Nat.add_sub_cancel, h, keyBe]
    cases hj : l[j]? with
    | none => simp
    | some a => exact ⟨(lcp_le _ _).1, lcp_take _ _⟩
theorem esTo_step {l : List En} {i : Nat} {x : En} (h : l[i]? = some x) : esTo l (i + 1) = esTo l i ++ eEnc (nAt l i) x := by
  have e : esTo l (i + 1) = esTo l i ++ (match l[i]? with | some x => eEnc (nAt l i) x | none => []) := rfl
  rw [e, h]
theorem esTo_split (l : List En) (i : Nat) : ∀ k, ∃ r, esTo l (i + k) = esTo l i ++ r
  | 0 => ⟨[], by simp⟩
  | k + 1 => by
    obtain ⟨r, hr⟩ := esTo_split l i k
    exact ⟨r ++ (match l[i + k]? with | some x => eEnc (nAt l (i + k)) x | none => []), by rw [← List.append_assoc, ← hr]; rfl⟩
theorem parGo_blk {l : List En} (hf : ∀ x ∈ l, x.Fine ∧ enChk x = 0) : ∀ (d i k : Nat), i + d = l.length → d < k →
    parGo (esTo l l.length) k (esTo l i).length (keyBe l i) (l.take i) = (true, l)
  | 0, i, k + 1, hi, hk => by
    have : i = l.length := by omega
    subst this
    rw [parGo, if_pos (Nat.le_refl _), List.take_length]
  | d + 1, i, k + 1, hi, hk => by
    have hlt : i < l.length := by omega
    obtain ⟨x, hx⟩ : ∃ x, l[i]? = some x := ⟨_, List.getElem?_eq_getElem hlt⟩
    obtain ⟨r, hr⟩ := esTo_split l (i + 1) d
    rw [show i + 1 + d = l.length from by omega, esTo_step hx] at hr
    have hmem := List.mem_of_getElem? hx
    have hd : (esTo l l.length).drop (esTo l i).length = eEnc (nAt l i) x ++ r := by
      rw [hr, List.append_assoc, List.drop_left]
    have hp : (esTo l i).length ≤ (esTo l l.length).length := esTo_mono l (by omega)
    have he := entOf_at (hf x hmem).1 hp (nAt_le hx) (nAt_take hx).1 (nAt_take hx).2 hd
    have hpos : 0 < (eEnc (nAt l i) x).length := by
      have := numEnc_pos x.val.length
      simp only [eEnc, List.length_append]
      omega
    have hl := congrArg List.length hr
    simp only [List.length_append] at hl
    rw [parGo, if_neg (by omega), he, (hf x hmem).2]
    simp only [Bool.true_eq_false, ne_eq, not_true_eq_false, or_self, if_false]
    have ih := parGo_blk hf d (i + 1) k (by omega) (by omega)
    rw [esTo_step hx, List.length_append, take_snoc hx] at ih
    have hkb : keyBe l (i + 1) = x.key := by rw [keyBe, hx]
    rw [hkb] at ih
    exact ih
theorem enErr_chk : ∀ {l : List En}, enErr l = 0 → ∀ x ∈ l, enChk x = 0
  | [], _, x, h => by cases h
  | y :: l, h, x, hx => by
    rw [enErr] at h
    by_cases h0 : enChk y ≠ 0
    · rw [if_pos h0] at h; exact absurd h h0
    · rw [if_neg h0] at h
      rcases List.mem_cons.1 hx with rfl | hx
      · exact Decidable.not_not.1 h0
      · exact enErr_chk h x hx
theorem w4_len (x : Nat) : (w4 x).length = 4 := rfl
theorem flat_w4_len : ∀ ps : List Nat, (ps.flatMap w4).length = 4 * ps.length
  | [] => rfl
  | p :: ps => by rw [List.flatMap_cons, List.length_append, flat_w4_len ps, w4_len, List.length_cons]; omega
theorem wdAt_w4 (zs : List Int) {x : Nat} (hx : x < 4294967296) (post : List Int) : wdAt (zs ++ (w4 x ++ post)) zs.length = x := by
  have h : ∀ j : Nat, (zs ++ (w4 x ++ post)).getD (zs.length + j) 0 = (w4 x ++ post).getD j 0 := fun j => by
    rw [List.getD_eq_getElem?_getD, List.getD_eq_getElem?_getD, List.getElem?_append_right (by omega), show zs.length + j - zs.length = j from by omega]
  have h0 := h 0
  rw [Nat.add_zero] at h0
  rw [wdAt, h0, h 1, h 2, h 3]
  simp only [w4, List.cons_append, List.nil_append, List.getD_cons_zero, List.getD_cons_succ, Int.toNat_natCast]
  omega
theorem plTo_pos {l : List En} : ∀ {i : Nat}, 0 < i → 1 ≤ (plTo l i).length
  | 0, h => by omega
  | i + 1, _ => by
    rw [plTo]
    by_cases h : i % 16 = 0
    · rw [if_pos h]; simp
    · rw [if_neg h]; exact plTo_pos (by omega)
/-- A block's parts. -/
theorem blk_parts (l : List En) : blk l = esTo l l.length ++ ((plTo l l.length).flatMap w4 ++ (w4 (plTo l l.length).length ++ [])) := by
  rw [blk, List.flatMap_append]
  simp
theorem blk_length (l : List En) : (blk l).length = (esTo l l.length).length + 4 * ((plTo l l.length).length + 1) := by
  rw [blk_parts]
  simp only [List.length_append, flat_w4_len, w4_len, List.length_nil]
  omega
theorem blk_tail {l : List En} (hne : l ≠ []) (hl : l.length ≤ 262144) : tailN (blk l) = (plTo l l.length).length ∧ tailOk (blk l) = true ∧ tailEnd (blk l) = (esTo l l.length).length := by
  have hp := plTo_len l l.length
  have hp1 := plTo_pos (l := l) (i := l.length) (List.length_pos_iff.2 hne)
  have hlen := blk_length l
  have h1 : tailN (blk l) = (plTo l l.length).length := by
    rw [tailN]
    have e : (blk l).length - 4 = (esTo l l.length ++ (plTo l l.length).flatMap w4).length := by
      rw [List.length_append, flat_w4_len, hlen]; omega
    rw [e]
    have e2 : blk l = (esTo l l.length ++ (plTo l l.length).flatMap w4) ++ (w4 (plTo l l.length).length ++ []) := by rw [blk_parts]; simp only [List.append_assoc]
    rw [e2]
    exact wdAt_w4 _ (by omega) _
  have h2 : tailOk (blk l) = true := by
    unfold tailOk
    rw [h1, hlen]
    simp
    omega
  refine ⟨h1, h2, ?_⟩
  rw [tailEnd, if_pos h2, h1, hlen]
  omega
/-- Parse of a block is its entries. -/
theorem parOf_blk {l : List En} (h : (blkOut l).2 = 0) : parOf (blk l) = (l, 0) := by
  obtain ⟨hne, he, hr, hl, ho⟩ := blkOut_zero h
  have hll : l.length ≤ 262144 := by have := len_le_blk l; omega
  obtain ⟨t1, t2, t3⟩ := blk_tail hne hll
  have hb : parBody (blk l) = (true, l) := by
    rw [parBody, t3]
    have e : (blk l).take (esTo l l.length).length = esTo l l.length := by rw [blk_parts, List.take_left]
    rw [e]
    have := parGo_blk (fun x hx => ⟨enErr_zero he x hx, enErr_chk he x hx⟩) l.length 0 ((blk l).length + 1) (by omega) (by have := len_le_blk l; omega)
    exact this
  rw [parOf, if_neg (by omega), if_neg (by rw [t2]; simp), hb, if_neg (by simp), if_neg (by rw [ho]; simp)]
end Go.Proofs.Ytleghbdkjdpilaa
