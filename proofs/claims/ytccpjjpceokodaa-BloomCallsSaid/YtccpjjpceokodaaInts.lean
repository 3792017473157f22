/- Lists of ints: append, Ints, Pick. -/
import Derived.Test.YtccpjjpceokodaaByt
namespace Go.Proofs.Ytccpjjpceokodaa
open Go.RowKit

def iv (zs : List Int) : List Value := zs.map (Value.int .i64)
theorem iv_length (zs : List Int) : (iv zs).length = zs.length := by simp [iv]
theorem iv_append (a b : List Int) : iv (a ++ b) = iv a ++ iv b := by simp [iv]
theorem iv_get {zs : List Int} {k : Nat} {x : Int} (hk : zs[k]? = some x) : (iv zs)[k]? = some (.int .i64 x) := by simp [iv, hk]
theorem iv_one (zs : List Int) : ∀ u ∈ iv zs, u.oneCell' = true := by
  intro u hu
  obtain ⟨x, _, rfl⟩ := List.mem_map.1 hu
  rfl
abbrev Ri (w : World) (B : Nat) (A : Option Addr) (zs : List Int) : Prop := Rd w B A (iv zs)
theorem Ri.get {w : World} {B : Nat} {A : Option Addr} {zs : List Int} (h : Ri w B A zs) {k : Nat} (hk : k < zs.length) :
    ∃ b o x, zs[k]? = some x ∧ A = some ⟨b, o, none⟩ ∧ b < B ∧ w.cell? ⟨b, o + k, none⟩ = some (.int .i64 x) := by
  have e := List.getElem?_eq_getElem hk
  obtain ⟨b, o, h1, h2, h3⟩ := Rd.get h (iv_get e)
  exact ⟨b, o, zs[k], e, h1, h2, h3⟩
theorem intinfo' : (Try.prog.info? 3).map (fun i => (i.zero, i.size, i.bytes)) = some (some (.int .i64 0), 1, 8) := by kernel_rfl
/-- append of ints onto a row of the call's own. -/
theorem wpList_appi (w : World) {ops : Array Oper} {rest : List Oper} {o : Oper} {a : Act} {Q : Exit → Act → World → Prop} (hgd : o.guard = none) (s x : Operand)
    (ho : o.op = .call { callee := .builtin .append, args := #[s, x], argTypes := #[31, 31] })
    (base : Nat) (v : Value) (n : Nat) (xs : List Int) (hs : a.eval s = v) (hown : w.ownsRow base 3 1 v n (iv xs))
    (B : Nat) (A : Option Addr) (m c : Nat) (news : List Int) (hx : a.eval x = .slice A m c) (hl : news.length = m) (hr : Ri w B A news)
    (hbytes : n + m ≤ 1099511627776) (hbase : base ≤ w.heap.size)
    (h : ∀ A' c' w', App base 3 1 w v w' (.slice A' (n + m) c') (n + m) (iv (xs ++ news)) → (A' = none → v = .slice none 0 0 ∧ m = 0) → wpList Try.prog ops Q rest (a.put o.dst (.slice A' (n + m) c')) w') : wpList Try.prog ops Q (o :: rest) a w := by
  obtain ⟨i0, hi0, hz0, hz1, hz2⟩ := info_parts intinfo'
  refine wpList_app w hgd s x _ ho base 3 i0 _ 1 8 Try.underlying31 hi0 hz0 hz1 hz2 rfl (by omega) v n (iv xs) hs hown B A m c (iv news) hx (by rw [iv_length]; omega) hr (iv_one news) (by simp only [maxLen]; omega) (by omega) hbase ?_
  intro A' c' w' h1 h2 h3 h4
  rw [← iv_append] at h1
  exact h A' c' w' ((App.refl hown).step h1 h2 h3) h4

set_option maxHeartbeats 400000 in
theorem kitInts {A A' : Option Addr} {c c' B B' n n' : Nat} {xs ys : List Int} (w : World) (ha : Ri w B A xs) (hb : Ri w B' A' ys) (hx : xs.length ≤ maxLen) (hy : ys.length ≤ maxLen) (hn : xs.length = n) (hn' : ys.length = n') :
    Calls Try.prog 17 #[.slice A n c, .slice A' n' c'] w fun e w' => e = .returned (.bool (eqb xs ys)) ∧ ∃ n, w' = w.drewN n := by
  subst hn hn'
  unfold maxLen at hx hy
  by_cases hl : xs.length = ys.length
  · have hlb : (((xs.length : Nat) : Int) != ((ys.length : Nat) : Int)) = false := by simp [hl]
    go_enter Try.func17, Try.ntmps17
    have HL := Lib.hid hl
    clear hl
    go_wp2
    go_loopw [5] (fun i wr => ∃ k : Nat, k ≤ xs.length ∧ i = .int .i64 k ∧ xs.take k = ys.take k ∧ ∃ n, wr = w.drewN n) (fun i _ => xs.length - (intOf i).toNat)
    case atStart => exact ⟨0, Nat.zero_le _, rfl, rfl, 0, rfl⟩
    case round =>
      obtain ⟨k, hk, rfl, ht, n, rfl⟩ := hrel
      have HT := Lib.hid ht
      clear ht
      by_cases hlt : k < xs.length
      · obtain ⟨b, o, x, hx1, rfl, hb1, hc1⟩ := ha.get hlt
        obtain ⟨b', o', y, hy1, rfl, hb2, hc2⟩ := hb.get (by rw [← HL.out]; exact hlt)
        have hlt' : k < ys.length := by rw [← HL.out]; exact hlt
        have X := Lib.hid hx1
        have Y := Lib.hid hy1
        clear hx1 hy1
        by_cases hxy : x = y
        · subst hxy
          go_wp2
          go_quiet (fail)
          go_wp2
          go_roundw
          case rel => exact ⟨k + 1, by omega, by go_num, by rw [take_snoc X.out, take_snoc Y.out, HT.out], _, rfl⟩
          case measure => simp [intOf]; omega
        · have hne : (x != y) = true := by simp [hxy]
          go_wp2
          go_quiet (fail)
          go_wp2
          go_ret
          refine ⟨?_, _, World.drewN_drewN _ _ _⟩
          have : eqb xs ys = false := by
            rw [eqb, decide_eq_false_iff_not]
            rintro rfl
            have := X.out.symm.trans Y.out
            injection this with this
            exact hxy this
          rw [this]; rfl
      · go_wp2
        go_ret
        refine ⟨?_, _, rfl⟩
        have : eqb xs ys = true := by
          rw [eqb_true]
          have h1 := HT.out
          rw [List.take_of_length_le (by omega), List.take_of_length_le (by have := HL.out; omega)] at h1
          exact h1
        rw [this]; rfl
  · have hlb : (((xs.length : Nat) : Int) != ((ys.length : Nat) : Int)) = true := by simp; omega
    have he : eqb xs ys = false := by
      rw [eqb, decide_eq_false_iff_not]
      rintro rfl
      exact hl rfl
    rw [he]
    go_enter Try.func17, Try.ntmps17
    go_wp2
    go_ret
    exact ⟨rfl, 0, rfl⟩

theorem tmod_pick (n m : Int) (hm : 0 < m) : -m < n.tmod m ∧ n.tmod m < m ∧ (n.tmod m < 0 → n.tmod m + m = n % m) ∧ (0 ≤ n.tmod m → n.tmod m = n % m) := by
  have hz : m ≠ 0 := by omega
  have hq0 := Int.emod_nonneg n hz
  have hq1 := Int.emod_lt_of_pos n hm
  have hp0 := Int.emod_nonneg (-n) hz
  have hp1 := Int.emod_lt_of_pos (-n) hm
  have he := Int.mul_ediv_add_emod (-n) m
  rw [tmod_eq_if]
  generalize (-n) / m = q at *
  generalize (-n) % m = s at *
  split
  · exact ⟨by omega, by omega, fun h => by omega, fun _ => rfl⟩
  · refine ⟨by omega, by omega, fun h => ?_, fun h => ?_⟩
    · have e : (m - s) + m * (-q - 1) = n := by
        rw [Int.mul_sub, Int.mul_neg]
        omega
      rw [← e, Int.add_mul_emod_self_left, Int.emod_eq_of_lt (by omega) (by omega)]
      omega
    · have hs : s = 0 := by omega
      have e : 0 + m * (-q) = n := by rw [Int.mul_neg]; omega
      rw [← e, Int.add_mul_emod_self_left, hs]
      simp

/-- Pick: a number from 0 to below m. -/
theorem kitPick (n : Int) (m : Nat) (w : World) (hm0 : 1 ≤ m) (hm : m ≤ 1099511627776) :
    Calls Try.prog 11 #[.int .i64 n, .int .i64 m] w fun e w' => e = .returned (.int .i64 (n % (m : Int))) ∧ w' = w := by
  have hz : ¬ (m : Int) = 0 := by omega
  have hzb : ((m : Int) == 0) = false := by rw [beq_eq_false_iff_ne]; omega
  obtain ⟨h1, h2, h3, h4⟩ := tmod_pick n m (by omega)
  obtain ⟨r, hr⟩ : ∃ r, n.tmod m = r := ⟨_, rfl⟩
  rw [hr] at h1 h2 h3 h4
  have H3 := Lib.hid h3
  have H4 := Lib.hid h4
  clear h3 h4
  go_enter Try.func11, Try.ntmps11
  go_wp2
  · go_ret
    refine ⟨?_, rfl⟩
    rw [← H3.out (by omega)]
    rfl
  · go_ret
    refine ⟨?_, rfl⟩
    rw [← H4.out (by omega)]
    rfl
end Go.Proofs.Ytccpjjpceokodaa
