/- Blocks, plain: what a block's bytes without the last one tell; what other bytes tell; a byte turned. -/
import Derived.Test.YtleghbdkjdpilaaBkF
namespace Go.Proofs.Ytleghbdkjdpilaa
open Go.RowKit

theorem wdAt_four (zs : List Int) (a b c d : Int) : wdAt (zs ++ [a, b, c, d]) zs.length = a.toNat + 256 * b.toNat + 65536 * c.toNat + 16777216 * d.toNat := by
  have h : ∀ j : Nat, (zs ++ [a, b, c, d]).getD (zs.length + j) 0 = [a, b, c, d].getD j 0 := fun j => by
    rw [List.getD_eq_getElem?_getD, List.getD_eq_getElem?_getD, List.getElem?_append_right (by omega), show zs.length + j - zs.length = j from by omega]
  have h0 := h 0
  rw [Nat.add_zero] at h0
  rw [wdAt, h0, h 1, h 2, h 3]
  rfl
theorem w4_small {x : Nat} (h : x < 16777216) : w4 x = [((x % 256 : Nat) : Int), ((x / 256 % 256 : Nat) : Int), ((x / 65536 % 256 : Nat) : Int)] ++ [0] := by
  have : x / 16777216 % 256 = 0 := by omega
  rw [w4, this]
  rfl
/-- A block's bytes without the last one tell nothing. -/
theorem parOf_short {l : List En} {k : Nat} (h : InOk l 200 k) (hk : k ≤ 20000) (hne : l ≠ []) : (parOf ((blk l).take ((blk l).length - 1))).2 ≠ 0 := by
  intro h0
  obtain ⟨yne, yo, yb, yl⟩ := parOf_zero h0
  obtain ⟨y, hy⟩ : ∃ y, (parOf ((blk l).take ((blk l).length - 1))).1 = y := ⟨_, rfl⟩
  rw [hy] at yne yo yb
  clear hy
  have hlf := enErr_zero h.chk
  have hlen := h.len
  have hsm := blk_small h hk
  have hbl := blk_length l
  have hpc := plTo_count l l.length
  have hll : 0 < l.length := List.length_pos_iff.2 hne
  have hye : enErr y = 0 := (blkOut_zero (l := y) (by rw [yo])).2.1
  have hyf := enErr_zero hye
  have hyl : y.length ≤ 262144 := by have := len_le_blk y; rw [yb] at this; omega
  obtain ⟨t1, -, -⟩ := blk_tail yne hyl
  have hyc := plTo_count y y.length
  have hybl := blk_length y
  have hzl : (blk y).length = (blk l).length - 1 := by rw [yb, List.length_take]; omega
  -- the last word of what is left
  obtain ⟨init, p, hp⟩ : ∃ init p, plTo l l.length = init ++ [p] := by
    have hne' : plTo l l.length ≠ [] := fun e => by rw [e] at hpc; simp at hpc; omega
    exact ⟨_, _, (List.dropLast_concat_getLast hne').symm⟩
  have hpl : p < 16777216 := by
    have := plTo_lt l l.length p (by rw [hp]; simp)
    omega
  obtain ⟨N, hN⟩ : ∃ N, (plTo l l.length).length = N := ⟨_, rfl⟩
  rw [hN] at hpc hbl
  have hNs : N ≤ 13 := by omega
  have hparts : blk l = ((esTo l l.length ++ init.flatMap w4) ++ [((p % 256 : Nat) : Int), ((p / 256 % 256 : Nat) : Int), ((p / 65536 % 256 : Nat) : Int)]) ++ [0, (N : Int), 0, 0] ++ [0] := by
    rw [blk_parts, hp, List.flatMap_append]
    have e1 : [p].flatMap w4 = w4 p := by simp
    rw [← hp, hN, e1, w4_small hpl, List.append_nil]
    have e2 : w4 N = [(N : Int), 0, 0, 0] := by
      unfold w4
      rw [show N % 256 = N from by omega, show N / 256 % 256 = 0 from by omega, show N / 65536 % 256 = 0 from by omega, show N / 16777216 % 256 = 0 from by omega]
      rfl
    rw [e2]
    simp only [List.append_assoc, List.cons_append, List.nil_append]
  have hz : blk y = ((esTo l l.length ++ init.flatMap w4) ++ [((p % 256 : Nat) : Int), ((p / 256 % 256 : Nat) : Int), ((p / 65536 % 256 : Nat) : Int)]) ++ [0, (N : Int), 0, 0] := by
    rw [yb]
    have hL : (blk l).length - 1 = (((esTo l l.length ++ init.flatMap w4) ++ [((p % 256 : Nat) : Int), ((p / 256 % 256 : Nat) : Int), ((p / 65536 % 256 : Nat) : Int)]) ++ [0, (N : Int), 0, 0]).length := by
      rw [hparts, List.length_append]
      simp
    rw [hL, hparts, List.take_left]
  have ht : tailN (blk y) = 256 * N := by
    rw [tailN]
    obtain ⟨Z, hZ⟩ : ∃ Z, (esTo l l.length ++ init.flatMap w4) ++ [((p % 256 : Nat) : Int), ((p / 256 % 256 : Nat) : Int), ((p / 65536 % 256 : Nat) : Int)] = Z := ⟨_, rfl⟩
    rw [hZ] at hz
    rw [hz]
    have e : (Z ++ [0, (N : Int), 0, 0]).length - 4 = Z.length := by rw [List.length_append]; simp
    rw [e, wdAt_four]
    simp
  rw [ht] at t1
  -- the entries' bytes stand ahead
  have hpre : esTo y y.length = (blk y).take (esTo y y.length).length := by rw [blk_parts, List.take_left]
  have hlt : (esTo y y.length).length < (esTo l l.length).length := by omega
  have hr : esTo l l.length = esTo y y.length ++ (esTo l l.length).drop (esTo y y.length).length := by
    have e : esTo y y.length = (esTo l l.length).take (esTo y y.length).length := by
      have h1 : (blk y).take (esTo y y.length).length = (blk l).take (esTo y y.length).length := by
        rw [yb, List.take_take]
        congr 1
        omega
      rw [h1, blk_parts l, List.take_append_of_le_length (by omega)] at hpre
      exact hpre
    have e2 := List.take_append_drop (esTo y y.length).length (esTo l l.length)
    rw [← e] at e2
    exact e2.symm
  rcases es_fewer hlf hyf hr with h1 | h1
  · omega
  · have := congrArg List.length h1
    rw [List.length_drop, List.length_nil] at this
    omega
/-- Bytes that are another block's tell other entries. -/
theorem parOf_other {l : List En} {zs : List Int} (hne : zs ≠ blk l) (h : (parOf zs).2 = 0) : (parOf zs).1 ≠ l := fun e => by
  have := (parOf_zero h).2.2.1
  rw [e] at this
  exact hne this.symm
theorem u8_xor {a b : Int} (ha : 0 ≤ a ∧ a ≤ 255) (hb : 0 ≤ b ∧ b ≤ 255) : bits .xor .u8 a b = ((a.toNat ^^^ b.toNat : Nat) : Int) ∧ a.toNat ^^^ b.toNat < 256 := by
  obtain ⟨x, rfl⟩ := Int.eq_ofNat_of_zero_le ha.1
  obtain ⟨y, rfl⟩ := Int.eq_ofNat_of_zero_le hb.1
  have hx : x ^^^ y < 2 ^ 8 := Nat.xor_lt_two_pow (by omega) (by omega)
  have h1 : (BitVec.ofInt 8 (x : Int)).toNat = x := by
    rw [BitVec.ofInt_natCast, BitVec.toNat_ofNat]; exact Nat.mod_eq_of_lt (by omega)
  have h2 : (BitVec.ofInt 8 (y : Int)).toNat = y := by
    rw [BitVec.ofInt_natCast, BitVec.toNat_ofNat]; exact Nat.mod_eq_of_lt (by omega)
  refine ⟨?_, hx⟩
  show IntKind.u8.wrap ((BitVec.ofInt 8 (x : Int) ^^^ BitVec.ofInt 8 (y : Int)).toNat : Int) = _
  rw [BitVec.toNat_xor, h1, h2]
  exact IntWalk.u8_in _ ⟨by omega, by omega⟩
theorem xor_ne {a b : Int} (ha : 0 ≤ a ∧ a ≤ 255) (hb : 0 ≤ b ∧ b ≤ 255) (h0 : b ≠ 0) : bits .xor .u8 a b ≠ a := fun e => by
  rw [(u8_xor ha hb).1] at e
  have h1 : a.toNat ^^^ b.toNat = a.toNat := by omega
  have h2 : b.toNat = 0 := by
    have := congrArg (a.toNat ^^^ ·) h1
    simpa [← Nat.xor_assoc] using this
  omega
/-- A byte of a block turned. -/
theorem set_ne {zs : List Int} {k : Nat} {x y : Int} (h : zs[k]? = some x) (hne : y ≠ x) : zs.set k y ≠ zs := fun e => by
  have h1 := congrArg (·[k]?) e
  have hk : k < zs.length := (List.getElem?_eq_some_iff.1 h).1
  simp only [List.getElem?_set_self hk, h] at h1
  exact hne (Option.some.inj h1)
theorem set_byt {zs : List Int} {k : Nat} {y : Int} (h : Byt zs) (hy : 0 ≤ y ∧ y ≤ 255) : Byt (zs.set k y) := fun x hx => by
  rcases List.mem_or_eq_of_mem_set hx with hx | rfl
  · exact h x hx
  · exact hy
end Go.Proofs.Ytleghbdkjdpilaa
