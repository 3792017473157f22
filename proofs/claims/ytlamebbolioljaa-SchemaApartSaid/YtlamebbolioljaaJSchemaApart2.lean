/- Texts of the proof of SchemaApartSaid, joined: WireNum WireM2 Rdr Rdr2 Rdr3 Rdr4 SpM ScB. -/
import Derived.Test.YtlamebbolioljaaJSchemaApart1
import Derived.WalkMore
import Derived.StillTailTactics
import Derived.BigQuiet
import Derived.Deep.RegionHeld3
import Derived.Deep.AppendLies
/- (wire.Number alone) Contracts of wire's and bootprintref01's writers: Number, Ordered, OrderedText, Piece, Size. -/
namespace Go.Proofs.Ytlamebbolioljaa
open Go.RowKit

theorem or128 : ∀ n : Nat, n < 256 → bits .or .u8 (n : Int) 128 = ((n % 128 + 128 : Nat) : Int) := by decide +kernel
theorem or128' (y : Nat) : bits .or .u8 ((y : Int) % 256) 128 = ((y % 128 + 128 : Nat) : Int) := by
  have h := or128 (y % 256) (by omega)
  rw [show ((y : Int) % 256) = ((y % 256 : Nat) : Int) from by omega, h]
  omega

set_option maxHeartbeats 400000 in
theorem wireNumber {base A c n x} {xs : List Int} (w : World) (ho : w.ownsRow base 5 1 (.slice A n c) n (bv xs)) (hb : base ≤ w.heap.size) (hx : x < 18446744073709551616) (hn : n + 10 ≤ 140737488355328) :
    Calls Try.prog 62 #[.slice A n c, .int .u64 (x : Nat)] w (RetApp base 5 1 w (.slice A n c) (n + (numEnc x).length) (bv (xs ++ numEnc x)) (· ≠ none)) := by
  have hl10 := numEnc_u64 hx
  go_enter Try.func62, Try.ntmps62
  go_wp2
  go_loopw [0, 1] (fun v y wr => ∃ (A' : Option Addr) (c' m y' : Nat) (ys : List Int), v = .slice A' m c' ∧ y = .int .u64 (y' : Nat) ∧ y' < 18446744073709551616 ∧ App base 5 1 w (.slice A n c) wr (.slice A' m c') m (bv ys) ∧ m + (numEnc y').length = n + (numEnc x).length ∧ ys ++ numEnc y' = xs ++ numEnc x) (fun _ y _ => (intOf y).toNat)
  case atStart => exact ⟨A, c, n, x, xs, rfl, rfl, hx, App.refl ho, rfl, rfl⟩
  case round =>
    obtain ⟨A', c', m, y, ys, rfl, rfl, hy, happ, hm, hys⟩ := hrel
    have HM := Lib.hid hm
    have HY := Lib.hid hys
    have hpos := numEnc_pos y
    have hmb : m + 1 ≤ 140737488355328 := by omega
    clear hm hys
    by_cases hlt : y < 128
    · have hlt' : ¬ ((128 : Int) ≤ (y : Int)) := by omega
      go_wp2_with (at_builtin; go_loud (refine wpList_appb _ rfl (.tmp 15) (.tmp 18) rfl base _ m ys rfl (happ.own.alloc _) _ _ 1 1 [(y : Int)] rfl rfl (Rd.lit _ _ _) hmb (by have := happ.heap; simp; omega) ?_))
      intro A2 c2 w2 h2 hne
      go_wp2
      go_ret
      have e1 : m + 1 = n + (numEnc x).length := by rw [← HM.out, numEnc_lt hlt]; rfl
      have e2 : ys ++ [(y : Int)] = xs ++ numEnc x := by rw [← HY.out, numEnc_lt hlt]
      exact ⟨A2, c2, by rw [← e1]; rfl, by rw [← e1, ← e2]; exact (happ.alloc _).trans h2, hne⟩
    · have hge : ((128 : Int) ≤ (y : Int)) := by omega
      obtain ⟨z, hz⟩ : ∃ z : Int, z = ((y % 128 + 128 : Nat) : Int) := ⟨_, rfl⟩
      have hor : bits .or .u8 ((y : Int) % 256) 128 = z := by rw [or128' y, hz]
      have HZ := Lib.hid hz
      clear hz
      go_wp2_with (at_builtin; go_loud (refine wpList_appb _ rfl (.tmp 7) (.tmp 11) rfl base _ m ys rfl (happ.own.alloc _) _ _ 1 1 [z] rfl rfl (Rd.lit _ _ _) hmb (by have := happ.heap; simp; omega) ?_))
      intro A2 c2 w2 h2 hne
      go_wp2
      go_roundw
      case rel =>
        exact ⟨A2, c2, m + 1, y / 128, ys ++ [z], rfl, by go_num, by omega, (happ.alloc _).trans h2, by rw [← HM.out, numEnc_ge (x := y) (by omega)]; simp; omega, by rw [← HY.out, numEnc_ge (x := y) (by omega), HZ.out]; simp⟩
      case measure => simp [intOf]; omega
end Go.Proofs.Ytlamebbolioljaa

/- The plain mathematics of reading a short number. -/
namespace Go.Proofs.Ytlamebbolioljaa

/-- A short number from place k on, x gathered till there: the number, the place behind it, the error (0: none, 4: bad, 12: more is wanted). -/
def shortG (zs : List Int) (k x : Nat) : Nat → Nat × Nat × Nat
  | 0 => (0, 0, 12)
  | f + 1 => match zs[k]? with
    | none => (0, 0, 12)
    | some c => if k = 9 ∧ 1 < c then (0, 0, 4) else if c = 0 ∧ 0 < k then (0, 0, 4) else if c < 128 then (x + c.toNat * 128 ^ k, k + 1, 0) else shortG zs (k + 1) (x + (c.toNat - 128) * 128 ^ k) f
def shortOf (zs : List Int) : Nat × Nat × Nat := shortG zs 0 0 10

theorem shortG_step {zs : List Int} {k x f : Nat} {c : Int} (h : zs[k]? = some c) : shortG zs k x (f + 1) =
    if k = 9 ∧ 1 < c then (0, 0, 4) else if c = 0 ∧ 0 < k then (0, 0, 4) else if c < 128 then (x + c.toNat * 128 ^ k, k + 1, 0) else shortG zs (k + 1) (x + (c.toNat - 128) * 128 ^ k) f := by
  rw [shortG, h]
theorem shortG_none {zs : List Int} {k x f : Nat} (h : zs.length ≤ k) : shortG zs k x f = (0, 0, 12) := by
  cases f with
  | zero => rfl
  | succ f => rw [shortG, List.getElem?_eq_none h]

/-- What is told is told of bytes that are there; the number fits. -/
theorem shortG_ok {zs : List Int} (hz : Byt zs) : ∀ (f k x : Nat), k + f = 10 → x < 128 ^ k → ∀ y n, shortG zs k x f = (y, n, 0) → n ≤ zs.length ∧ k < n ∧ y < 18446744073709551616 := by
  intro f
  induction f with
  | zero => intro k x _ _ y n h; simp [shortG] at h
  | succ f ih =>
    intro k x hk hx y n h
    cases hc : zs[k]? with
    | none => rw [shortG, hc] at h; simp at h
    | some c =>
      have hlt := lt_of_get hc
      have hb := hz.get hc
      rw [shortG_step hc] at h
      by_cases h1 : k = 9 ∧ 1 < c
      · rw [if_pos h1] at h; simp at h
      · rw [if_neg h1] at h
        by_cases h2 : c = 0 ∧ 0 < k
        · rw [if_pos h2] at h; simp at h
        · rw [if_neg h2] at h
          by_cases h3 : c < 128
          · rw [if_pos h3] at h
            simp only [Prod.mk.injEq, and_true] at h
            obtain ⟨rfl, rfl⟩ := h
            refine ⟨by omega, by omega, ?_⟩
            by_cases hk9 : k = 9
            · subst hk9
              have hc1 : c.toNat ≤ 1 := by omega
              have : (128 : Nat) ^ 9 = 9223372036854775808 := by decide
              rw [this] at hx ⊢
              omega
            · have hp : 128 ^ (k + 1) ≤ 128 ^ 9 := Nat.pow_le_pow_right (by omega) (by omega)
              have h9 : (128 : Nat) ^ 9 = 9223372036854775808 := by decide
              rw [h9, Nat.pow_succ] at hp
              have hm : c.toNat * 128 ^ k ≤ 127 * 128 ^ k := Nat.mul_le_mul_right _ (by omega)
              omega
          · rw [if_neg h3] at h
            have hx' : x + (c.toNat - 128) * 128 ^ k < 128 ^ (k + 1) := by
              rw [Nat.pow_succ]
              have hm : (c.toNat - 128) * 128 ^ k ≤ 127 * 128 ^ k := Nat.mul_le_mul_right _ (by omega)
              omega
            obtain ⟨a, b, d⟩ := ih (k + 1) _ (by omega) hx' y n h
            exact ⟨a, by omega, d⟩
theorem shortOf_ok {zs : List Int} (hz : Byt zs) {y n : Nat} (h : shortOf zs = (y, n, 0)) : n ≤ zs.length ∧ 0 < n ∧ y < 18446744073709551616 :=
  shortG_ok hz 10 0 0 rfl (by omega) y n h

/-- The errors. -/
theorem shortG_err : ∀ (f : Nat) {zs : List Int} (k x : Nat), (shortG zs k x f).2.2 = 0 ∨ shortG zs k x f = (0, 0, 4) ∨ shortG zs k x f = (0, 0, 12) := by
  intro f
  induction f with
  | zero => intro zs k x; simp [shortG]
  | succ f ih =>
    intro zs k x
    cases hc : zs[k]? with
    | none => rw [shortG, hc]; simp
    | some c =>
      rw [shortG_step hc]
      split
      · simp
      · split
        · simp
        · split
          · simp
          · exact ih _ _
theorem shortOf_err (zs : List Int) : (shortOf zs).2.2 = 0 ∨ shortOf zs = (0, 0, 4) ∨ shortOf zs = (0, 0, 12) := shortG_err 10 0 0

/-- What is put together is read again, whatever stands behind it. -/
theorem shortG_num : ∀ (f k x y : Nat) (pre rest : List Int), k + f = 10 → pre.length = k → y * 128 ^ k < 18446744073709551616 → (0 < k → 0 < y) →
    shortG (pre ++ numEnc y ++ rest) k x f = (x + y * 128 ^ k, k + (numEnc y).length, 0) := by
  intro f
  induction f with
  | zero =>
    intro k x y pre rest hk hp hy hy0
    obtain rfl : k = 10 := by omega
    have := hy0 (by omega)
    have h10 : (128 : Nat) ^ 10 = 1180591620717411303424 := by decide
    rw [h10] at hy
    omega
  | succ f ih =>
    intro k x y pre rest hk hp hy hy0
    by_cases hlt : y < 128
    · have hget : (pre ++ numEnc y ++ rest)[k]? = some (y : Int) := by
        rw [numEnc_lt hlt, List.append_assoc, List.getElem?_append_right (by omega)]
        simp [hp]
      rw [shortG_step hget]
      rw [if_neg, if_neg, if_pos (by omega), numEnc_lt hlt]
      · simp
      · rintro ⟨h0, h1⟩
        have := hy0 h1
        omega
      · rintro ⟨rfl, h1⟩
        have h9 : (128 : Nat) ^ 9 = 9223372036854775808 := by decide
        rw [h9] at hy
        omega
    · have hget : (pre ++ numEnc y ++ rest)[k]? = some ((y % 128 + 128 : Nat) : Int) := by
        rw [numEnc_ge (by omega), List.append_assoc, List.getElem?_append_right (by omega)]
        simp [hp]
      have hk9 : k ≠ 9 := by
        rintro rfl
        have h9 : (128 : Nat) ^ 9 = 9223372036854775808 := by decide
        rw [h9] at hy
        omega
      rw [shortG_step hget, if_neg (by rintro ⟨h, _⟩; exact hk9 h), if_neg (by rintro ⟨h, _⟩; omega), if_neg (by omega)]
      have e : pre ++ numEnc y ++ rest = (pre ++ [((y % 128 + 128 : Nat) : Int)]) ++ numEnc (y / 128) ++ rest := by
        rw [numEnc_ge (x := y) (by omega)]; simp
      have hdm : y = 128 * (y / 128) + y % 128 := by omega
      have hmul : y * 128 ^ k = (y / 128) * 128 ^ (k + 1) + (y % 128) * 128 ^ k := by
        rw [Nat.pow_succ]
        conv => lhs; rw [hdm]
        rw [Nat.add_mul, Nat.mul_comm 128 (y / 128), Nat.mul_assoc, Nat.mul_comm 128 (128 ^ k)]
      rw [e, ih (k + 1) _ (y / 128) _ rest (by omega) (by simp [hp]) (by omega) (by omega)]
      have e2 : (((y % 128 + 128 : Nat) : Int).toNat - 128) = y % 128 := by omega
      rw [e2, numEnc_ge (x := y) (by omega)]
      simp only [List.length_cons, Prod.mk.injEq, and_true]
      omega
theorem shortOf_num (y : Nat) (rest : List Int) (hy : y < 18446744073709551616) : shortOf (numEnc y ++ rest) = (y, (numEnc y).length, 0) := by
  have := shortG_num 10 0 0 y [] rest rfl rfl (by simpa using hy) (by omega)
  simpa [shortOf] using this

/-- And what is read was so put together. -/
theorem shortG_back {zs : List Int} (hz : Byt zs) : ∀ (f k x y n : Nat), k + f = 10 → shortG zs k x f = (y, n, 0) → ∃ v, y = x + v * 128 ^ k ∧ (0 < k → 0 < v) ∧ n = k + (numEnc v).length ∧ (zs.drop k).take (n - k) = numEnc v := by
  intro f
  induction f with
  | zero => intro k x y n _ h; simp [shortG] at h
  | succ f ih =>
    intro k x y n hk h
    cases hc : zs[k]? with
    | none => rw [shortG, hc] at h; simp at h
    | some c =>
      have hlt := lt_of_get hc
      have hb := hz.get hc
      have hdrop : zs.drop k = c :: zs.drop (k + 1) := by
        rw [List.drop_eq_getElem_cons hlt]
        rw [List.getElem?_eq_getElem hlt] at hc
        injection hc with hc
        rw [hc]
      rw [shortG_step hc] at h
      by_cases h1 : k = 9 ∧ 1 < c
      · rw [if_pos h1] at h; simp at h
      · rw [if_neg h1] at h
        by_cases h2 : c = 0 ∧ 0 < k
        · rw [if_pos h2] at h; simp at h
        · rw [if_neg h2] at h
          by_cases h3 : c < 128
          · rw [if_pos h3] at h
            simp only [Prod.mk.injEq, and_true] at h
            obtain ⟨rfl, rfl⟩ := h
            have hcl : c.toNat < 128 := by omega
            refine ⟨c.toNat, rfl, by omega, by rw [numEnc_lt hcl]; rfl, ?_⟩
            rw [numEnc_lt hcl, show k + 1 - k = 1 from by omega, hdrop]
            simp
            omega
          · rw [if_neg h3] at h
            obtain ⟨v, hy, hv, hn, ht⟩ := ih (k + 1) _ y n (by omega) h
            have hv0 := hv (by omega)
            have hge : 128 ≤ (c.toNat - 128) + 128 * v := by omega
            refine ⟨(c.toNat - 128) + 128 * v, ?_, by omega, ?_, ?_⟩
            · rw [hy, Nat.pow_succ, Nat.add_mul, Nat.mul_comm 128 v, Nat.mul_assoc, Nat.mul_comm 128 (128 ^ k), Nat.add_assoc]
            · rw [numEnc_ge hge, show (c.toNat - 128 + 128 * v) / 128 = v from by omega, List.length_cons]
              omega
            · rw [numEnc_ge hge, show (c.toNat - 128 + 128 * v) / 128 = v from by omega, hdrop, show n - k = (n - (k + 1)) + 1 from by omega, List.take_succ_cons, ht]
              congr 1
              omega
theorem shortOf_back {zs : List Int} (hz : Byt zs) {y n : Nat} (h : shortOf zs = (y, n, 0)) : zs.take n = numEnc y ∧ n = (numEnc y).length := by
  obtain ⟨v, hy, _, hn, ht⟩ := shortG_back hz 10 0 0 y n rfl h
  obtain rfl : y = v := by omega
  exact ⟨by simpa using ht, by omega⟩
end Go.Proofs.Ytlamebbolioljaa

/- Contracts of wire's reader. -/
namespace Go.Proofs.Ytlamebbolioljaa
open Go.RowKit

theorem and127 (c : Int) (h0 : 0 ≤ c) (h1 : c ≤ 255) : bits .and .u8 c 127 = c % 128 := by
  have key : ∀ n : Nat, n < 256 → bits .and .u8 (n : Int) 127 = ((n % 128 : Nat) : Int) := by decide +kernel
  have := key c.toNat (by omega)
  rw [show ((c.toNat : Nat) : Int) = c from by omega] at this
  rw [this]
  omega

theorem or_high (x k d : Nat) (hx : x < 128 ^ k) (hx64 : x < 18446744073709551616) (hd : d * 128 ^ k < 18446744073709551616) : bits .or .u64 (x : Int) ((d * 128 ^ k : Nat) : Int) = ((x + d * 128 ^ k : Nat) : Int) := by
  have hp : (128 : Nat) ^ k = 2 ^ (7 * k) := by rw [Nat.pow_mul]
  rw [u64_or_nat _ _ hx64 hd, Nat.or_comm, Nat.mul_comm d, hp, ← Nat.two_pow_add_eq_or_of_lt (by rw [← hp]; exact hx) d, Nat.add_comm]
theorem or_short (x k : Nat) (c : Int) (h0 : 0 ≤ c) (hx : x < 128 ^ k) (hk : k ≤ 8) : bits .or .u64 (x : Int) (IntKind.u64.wrap (c % 128 * 2 ^ (7 * k))) = ((x + (c % 128).toNat * 128 ^ k : Nat) : Int) := by
  have hp : (128 : Nat) ^ k = 2 ^ (7 * k) := by rw [Nat.pow_mul]
  have h8 : 128 ^ k ≤ 128 ^ 8 := Nat.pow_le_pow_right (by omega) hk
  have e8 : (128 : Nat) ^ 8 = 72057594037927936 := by decide
  rw [e8] at h8
  have hm : (c % 128).toNat * 128 ^ k ≤ 127 * 128 ^ k := Nat.mul_le_mul_right _ (by omega)
  have e : c % 128 * 2 ^ (7 * k) = (((c % 128).toNat * 128 ^ k : Nat) : Int) := by
    rw [hp, Int.natCast_mul, Int.natCast_pow, Int.toNat_of_nonneg (by omega)]
    rfl
  rw [e, IntWalk.u64_in _ ⟨by omega, by omega⟩, or_high x k _ hx (by omega) (by omega)]

set_option maxHeartbeats 1600000 in
theorem wireShort {A : Option Addr} {c n B : Nat} {zs : List Int} (w : World) (ha : Rb w B A zs) (hz : Byt zs) (hl : zs.length ≤ maxLen) (hn : zs.length = n) :
    Calls Try.prog 105 #[.slice A n c] w fun e w' => e = .returned (.tuple #[.int .u64 (shortOf zs).1, .int .i64 (shortOf zs).2.1, .int .i64 (shortOf zs).2.2]) ∧ w' = w := by
  subst hn
  unfold maxLen at hl
  go_enter Try.func105, Try.ntmps105
  go_wp2
  go_step3
  go_wp2
  go_step3
  go_wp2
  go_loop [2, 3] (fun xv nv => ∃ (k x : Nat), k ≤ 9 ∧ k ≤ zs.length ∧ xv = .int .u64 x ∧ nv = .int .i64 k ∧ x < 128 ^ k ∧ shortG zs k x (10 - k) = shortOf zs) (fun _ nv => 10 - (intOf nv).toNat)
  case atStart => exact ⟨0, 0, by omega, by omega, rfl, rfl, by omega, rfl⟩
  case round =>
    obtain ⟨k, x, hk, hkz, rfl, rfl, hx, hs⟩ := hrel
    have HS := Lib.hid hs
    have HX := Lib.hid hx
    clear hs hx
    by_cases hlt : k < zs.length
    · obtain ⟨b, o, c, hc, rfl, hb, hcell⟩ := ha.get hlt
      have hcb := hz.get hc
      have HC := Lib.hid hc
      clear hc
      have hkl : (((k : Nat) : Int) == ((zs.length : Nat) : Int)) = false := by rw [beq_eq_false_iff_ne]; omega
      have hstep := shortG_step (x := x) (f := 9 - k) HC.out
      rw [show 9 - k + 1 = 10 - k from by omega, HS.out] at hstep
      have hand := and127 c hcb.1 hcb.2
      by_cases h1 : k = 9 ∧ 1 < c
      · have hres : shortOf zs = (0, 0, 4) := by rw [hstep, if_pos h1]
        obtain ⟨rfl, hc1⟩ := h1
        have HR := Lib.hid hres
        clear hres hstep
        go_wp2
        go_ret3
        exact ⟨by rw [HR.out]; rfl, rfl⟩
      · rw [if_neg h1] at hstep
        by_cases hk9 : k = 9
        · subst hk9
          by_cases h0 : c = 0
          · subst h0
            rw [if_pos ⟨rfl, by omega⟩] at hstep
            have HR := Lib.hid hstep
            clear hstep h1
            go_wp2
            go_ret3
            exact ⟨by rw [HR.out]; rfl, rfl⟩
          · obtain rfl : c = 1 := by omega
            rw [if_neg (by omega), if_pos (by omega)] at hstep
            have HR := Lib.hid hstep
            clear hstep h1 hand
            have hand1 : bits .and .u8 1 127 = 1 := by decide +kernel
            obtain ⟨y, hy⟩ : ∃ y : Int, y = ((x + 1 * 128 ^ 9 : Nat) : Int) := ⟨_, rfl⟩
            have hor : bits .or .u64 (x : Int) 9223372036854775808 = y := by
              have h9 : (128 : Nat) ^ 9 = 9223372036854775808 := by decide
              have hx9 := HX.out
              rw [hy, ← or_high x 9 1 hx9 (by rw [h9] at hx9; omega) (by decide), h9]
              rfl
            have HYY := Lib.hid hy
            clear hy
            go_wp2
            go_ret3
            exact ⟨by rw [HR.out, HYY.out]; rfl, rfl⟩
        · have hk8 : k ≤ 8 := by omega
          have hk9b : ((k : Int) == 9) = false := by rw [beq_eq_false_iff_ne]; omega
          by_cases h0 : c = 0
          · subst h0
            by_cases hk0 : 0 < k
            · rw [if_pos ⟨rfl, hk0⟩] at hstep
              have HR := Lib.hid hstep
              clear hstep h1
              go_wp2
              go_ret3
              exact ⟨by rw [HR.out]; rfl, rfl⟩
            · obtain rfl : k = 0 := by omega
              rw [if_neg (by omega), if_pos (by omega)] at hstep
              have HR := Lib.hid hstep
              clear hstep h1
              have hcell0 : w.cell? ⟨b, o, none⟩ = some (.int .u8 0) := hcell
              obtain rfl : x = 0 := by have := HX.out; omega
              clear hcell hand
              have hand1 : bits .and .u8 0 127 = 0 := by decide +kernel
              have hor1 : bits .or .u64 0 0 = 0 := by decide +kernel
              go_wp2
              go_ret3
              exact ⟨by rw [HR.out]; rfl, rfl⟩
          · have h0b : (c == 0) = false := by simp [h0]
            obtain ⟨y, hy⟩ : ∃ y : Int, y = ((x + (c % 128).toNat * 128 ^ k : Nat) : Int) := ⟨_, rfl⟩
            have hor : bits .or .u64 (x : Int) (IntKind.u64.wrap (c % 128 * 2 ^ (7 * k))) = y := by rw [hy]; exact or_short x k c hcb.1 HX.out hk8
            have HYY := Lib.hid hy
            clear hy
            rw [if_neg (by omega)] at hstep
            by_cases h128 : c < 128
            · rw [if_pos h128] at hstep
              have HR := Lib.hid hstep
              clear hstep h1
              go_wp2
              go_ret3
              exact ⟨by rw [HR.out, HYY.out, show c % 128 = c from by omega]; rfl, rfl⟩
            · rw [if_neg h128] at hstep
              have HR := Lib.hid hstep
              clear hstep h1
              obtain ⟨m, rfl⟩ : ∃ m : Nat, y = m := ⟨_, HYY.out⟩
              go_wp2
              go_round
              case rel =>
                have hm := HYY.out
                have hxm : m = x + (c.toNat - 128) * 128 ^ k := by
                  have : (c % 128).toNat = c.toNat - 128 := by omega
                  rw [this] at hm
                  omega
                refine ⟨k + 1, m, by omega, by omega, rfl, by go_num, ?_, ?_⟩
                · rw [hxm, Nat.pow_succ]
                  have hmul : (c.toNat - 128) * 128 ^ k ≤ 127 * 128 ^ k := Nat.mul_le_mul_right _ (by omega)
                  have := HX.out
                  omega
                · rw [HR.out, hxm, show 10 - (k + 1) = 9 - k from by omega]
              case measure => simp [intOf]; omega
    · have hkl : (((k : Nat) : Int) == ((zs.length : Nat) : Int)) = true := by rw [beq_iff_eq]; omega
      have hres : shortOf zs = (0, 0, 12) := by rw [← HS.out]; exact shortG_none (by omega)
      have HR := Lib.hid hres
      clear hres
      go_wp2
      go_ret3
      exact ⟨by rw [HR.out]; rfl, rfl⟩
end Go.Proofs.Ytlamebbolioljaa

/- Contracts of wire's reader: the methods. -/
namespace Go.Proofs.Ytlamebbolioljaa
open Go.RowKit

/-- The reader at block g reads the bytes zs (they lie from A on), stands at p, and holds the error e. -/
structure Rdr (w : World) (g : Nat) (A : Option Addr) (c : Nat) (zs : List Int) (p e : Nat) : Prop where
  blk : Bk w g 139 #[.slice A zs.length c, .int .i64 p, .bool true, .int .i64 e]
  rd : Rb w w.heap.size A zs
  far : ∀ a, A = some a → a.block ≠ g
  cap : zs.length ≤ c
  pos : p ≤ zs.length
  byt : Byt zs
  len : zs.length ≤ 140737488351232
  nil : A = none → c = 0
section
variable {w w' : World} {g c p e : Nat} {A : Option Addr} {zs : List Int}
theorem Rdr.drewN (h : Rdr w g A c zs p e) (k : Nat) : Rdr (w.drewN k) g A c zs p e := ⟨h.blk, h.rd, h.far, h.cap, h.pos, h.byt, h.len, h.nil⟩
theorem Rd.setfar {B : Nat} {xs : List Value} (h : Rd w B A xs) {q : Addr} (hq : ∀ a, A = some a → a.block ≠ q.block) (u : Value) : Rd (w.setCell q u) B A xs := fun hn => by
  obtain ⟨b, o, rfl, hb, hc⟩ := h hn
  exact ⟨b, o, rfl, hb, fun j v hv => (World.cell?_setCell_other w q ⟨b, o + j, none⟩ u (fun e => hq _ rfl (by subst e; rfl))).trans (hc j v hv)⟩
theorem Rdr.putErr (h : Rdr w g A c zs p e) (e' : Nat) : Rdr (w.setCell ⟨g, 3, none⟩ (.int .i64 e')) g A c zs p e' :=
  ⟨h.blk.set 3 _, by simpa [World.setCell] using h.rd.setfar (q := ⟨g, 3, none⟩) h.far _, h.far, h.cap, h.pos, h.byt, h.len, h.nil⟩
theorem Rdr.putAt (h : Rdr w g A c zs p e) {p' : Nat} (hp : p' ≤ zs.length) : Rdr (w.setCell ⟨g, 1, none⟩ (.int .i64 p')) g A c zs p' e :=
  ⟨h.blk.set 1 _, by simpa [World.setCell] using h.rd.setfar (q := ⟨g, 1, none⟩) h.far _, h.far, h.cap, hp, h.byt, h.len, h.nil⟩
/-- What leaves the reader's two blocks alone keeps it. -/
theorem Rdr.keep (h : Rdr w g A c zs p e) {row : Option Nat} (hg : w.grownBy w' row) (h1 : row ≠ some g) (h2 : ∀ a, A = some a → row ≠ some a.block) : Rdr w' g A c zs p e := by
  refine ⟨(hg.block g h.blk.lt (fun e => h1 e.symm)).trans h.blk, fun hn => ?_, h.far, h.cap, h.pos, h.byt, h.len, h.nil⟩
  obtain ⟨b, o, rfl, hb, hc⟩ := h.rd hn
  exact ⟨b, o, rfl, Nat.lt_of_lt_of_le hb hg.size, fun j v hv => (World.cell?_of_block (a := ⟨b, o + j, none⟩) (hg.block b hb (fun e => h2 _ rfl e.symm))).trans (hc j v hv)⟩
theorem Rdr.below (h : Rdr w g A c zs p e) (hg : Below w.heap.size w w') : Rdr w' g A c zs p e :=
  h.keep (row := none) ⟨hg.os, hg.tape, hg.output, hg.size, fun k hk _ => hg.block k hk⟩ (by simp) (by simp)
end
/-- The state behind a call of Number: the number, the place, the error. -/
def rdNum (zs : List Int) (p e : Nat) : Nat × Nat × Nat := if e ≠ 0 then (0, p, e) else ((shortOf (zs.drop p)).1, p + (shortOf (zs.drop p)).2.1, (shortOf (zs.drop p)).2.2)
theorem shortOf_le {zs : List Int} (hz : Byt zs) : (shortOf zs).2.1 ≤ zs.length ∧ (shortOf zs).2.2 ≤ 12 := by
  rcases shortOf_err zs with h | h | h
  · have := shortOf_ok hz (y := (shortOf zs).1) (n := (shortOf zs).2.1) (by rw [← h])
    omega
  · rw [h]; simp
  · rw [h]; simp
theorem only_set {w w' : World} {g : Nat} (h : w.grownBy w' (some g)) (o : Nat) (u : Value) : w.grownBy (w'.setCell ⟨g, o, none⟩ u) (some g) :=
  ⟨h.os, h.tape, h.output, by simpa [World.setCell] using h.size, fun i hi hne => (Below.heap_setCell w' _ u i (by rintro rfl; exact hne rfl)).trans (h.block i hi hne)⟩
theorem only_drewN {w w' : World} {r : Option Nat} (h : w.grownBy w' r) (k : Nat) : w.grownBy (w'.drewN k) r := ⟨h.os, h.tape, h.output, h.size, h.block⟩

set_option maxHeartbeats 400000 in
theorem rdrNewB {A0 : Option Addr} {c0 B n : Nat} {zs : List Int} (w : World) (ha : Rb w B A0 zs) (hB : B ≤ w.heap.size) (hz : Byt zs) (hl : zs.length ≤ 140737488351232) (hc : A0 = none → zs = [] ∧ c0 = 0) (hn : zs.length = n) :
    Calls Try.prog 77 #[.slice A0 n c0] w fun e w' => ∃ g A c, e = .returned (.pointer (some ⟨g, 0, none⟩)) ∧ Rdr w' g A c zs 0 0 ∧ Below w.heap.size w w' ∧ w.heap.size ≤ g ∧ (∀ a, A = some a → w.heap.size ≤ a.block ∧ a.block < w'.heap.size) := by
  subst hn
  go_enter Try.func77, Try.ntmps77
  go_wp2_with fail
  refine (bytesClone w ha hB hl hc rfl).mono ?_
  rintro e w1 ⟨A, c, rfl, happ, hA⟩
  go_wp2
  go_ret
  have hb := happ.below0
  have hlo : ∀ a, A = some a → w.heap.size ≤ a.block := fun a ha => by
    subst ha
    exact (happ.own.lt a.block rfl).1
  have hhi : ∀ a, A = some a → a.block < w1.heap.size := fun a ha => by
    subst ha
    exact (happ.own.lt a.block rfl).2
  refine ⟨w1.heap.size, A, c, rfl, ⟨Bk.new w1 _ _, ?_, ?_, ?_, Nat.zero_le _, hz, hl, ?_⟩, hb.alloc hb.size _, hb.size, fun a ha => ⟨hlo a ha, by have := hhi a ha; simp; omega⟩⟩
  · exact ((Rd.of_own happ.own).alloc (Nat.le_refl _) _).more (by simp)
  · intro a ha e
    have := hhi a ha
    omega
  · rcases happ.own.2 with ⟨h1, h2⟩ | ⟨_, cap, _, h1, _, _, h2, _⟩
    · omega
    · injection h1 with _ _ h3
      omega
  · rintro rfl
    rcases happ.own.2 with ⟨h1, _⟩ | ⟨_, _, _, h1, _⟩
    · injection h1
    · cases h1

theorem rdrNew {A0 : Option Addr} {c0 B n : Nat} {zs : List Int} (w : World) (ha : Rb w B A0 zs) (hB : B ≤ w.heap.size) (hz : Byt zs) (hl : zs.length ≤ 140737488351232) (hc : A0 = none → zs = [] ∧ c0 = 0) (hn : zs.length = n) :
    Calls Try.prog 77 #[.slice A0 n c0] w fun e w' => ∃ g A c, e = .returned (.pointer (some ⟨g, 0, none⟩)) ∧ Rdr w' g A c zs 0 0 ∧ Below w.heap.size w w' ∧ w.heap.size ≤ g ∧ (∀ a, A = some a → w.heap.size ≤ a.block) := by
  refine (rdrNewB w ha hB hz hl hc hn).mono ?_
  rintro e w' ⟨g, A, c, h1, h2, h3, h4, h5⟩
  exact ⟨g, A, c, h1, h2, h3, h4, fun a ha => (h5 a ha).1⟩

theorem wireShort' {A : Option Addr} {c n B x m er : Nat} {zs : List Int} (w : World) (hs : shortOf zs = (x, m, er)) (ha : Rb w B A zs) (hz : Byt zs) (hl : zs.length ≤ maxLen) (hn : zs.length = n) :
    Calls Try.prog 105 #[.slice A n c] w fun e w' => e = .returned (.tuple #[.int .u64 x, .int .i64 m, .int .i64 er]) ∧ w' = w := by
  have := wireShort (c := c) w ha hz hl hn
  rw [hs] at this
  exact this
/-- What the walk of a method is told of the reader. -/
theorem Rdr.facts {w : World} {g c p e : Nat} {A : Option Addr} {zs : List Int} (h : Rdr w g A c zs p e) :
    w.cell? ⟨g, 0, none⟩ = some (.slice A zs.length c) ∧ w.cell? ⟨g, 1, none⟩ = some (.int .i64 p) ∧ w.cell? ⟨g, 2, none⟩ = some (.bool true) ∧ w.cell? ⟨g, 3, none⟩ = some (.int .i64 e) ∧ w.frozen? ⟨g, 1, none⟩ = false ∧ w.frozen? ⟨g, 3, none⟩ = false :=
  ⟨h.blk.cell 0, h.blk.cell 1, h.blk.cell 2, h.blk.cell 3, h.blk.frozen 1, h.blk.frozen 3⟩
theorem cast_add (a b : Nat) : ((a : Int) + (b : Int)) = ((a + b : Nat) : Int) := by omega
theorem shortOf_drop {zs : List Int} (hz : Byt zs) {p x m er : Nat} (hp : p ≤ zs.length) (hs : shortOf (zs.drop p) = (x, m, er)) : p + m ≤ zs.length ∧ er ≤ 12 ∧ x < 18446744073709551616 ∧ (er ≠ 0 → x = 0 ∧ m = 0) := by
  have h := shortOf_le (hz.drop p)
  rw [hs, List.length_drop] at h
  simp only at h
  refine ⟨by omega, h.2, ?_, ?_⟩
  · rcases shortOf_err (zs.drop p) with e | e | e
    · rw [hs] at e
      simp at e
      subst e
      exact (shortOf_ok (hz.drop p) hs).2.2
    · rw [hs] at e; simp at e; omega
    · rw [hs] at e; simp at e; omega
  · intro hne
    rcases shortOf_err (zs.drop p) with e | e | e
    · rw [hs] at e; exact absurd e hne
    · rw [hs] at e; simp at e; omega
    · rw [hs] at e; simp at e; omega

def NumPost (w : World) (g : Nat) (A : Option Addr) (c : Nat) (zs : List Int) (p e : Nat) (en : Ending) (w' : World) : Prop :=
  en = .returned (.int .u64 (rdNum zs p e).1) ∧ Rdr w' g A c zs (rdNum zs p e).2.1 (rdNum zs p e).2.2 ∧ w.grownBy w' (some g)
set_option maxHeartbeats 400000 in
theorem rdrNumber {A : Option Addr} {c g p e : Nat} {zs : List Int} (w : World) (h : Rdr w g A c zs p e) (he : e ≤ 100) :
    Calls Try.prog 96 #[.pointer (some ⟨g, 0, none⟩)] w (NumPost w g A c zs p e) := by
  obtain ⟨c0, c1, c2, c3, f1, f3⟩ := h.facts
  have hpos := h.pos
  have hcap := h.cap
  have hlen := h.len
  by_cases he0 : e = 0
  · subst he0
    obtain ⟨x, m, er, hs⟩ : ∃ x m er, shortOf (zs.drop p) = (x, m, er) := ⟨_, _, _, rfl⟩
    obtain ⟨hm, her, hx, _⟩ := shortOf_drop h.byt hpos hs
    have HS := Lib.hid hs
    clear hs
    go_enter Try.func96, Try.ntmps96
    go_wp2
    go_quiet ((go_at_call 105; go_loud (exact Calls.quiet_of_same (wireShort' _ HS.out (Rb.drop h.rd h.cap) (h.byt.drop p) (by rw [List.length_drop]; simp only [maxLen]; omega) (by rw [List.length_drop])))))
    generalize (if c = p then A else Option.map (fun x => x.add p) A) = A2
    go_wp2
    go_ret
    have hr : rdNum zs p 0 = (x, p + m, er) := by simp [rdNum, HS.out]
    refine ⟨by rw [hr]; rfl, ?_, only_set (only_set (only_drewN (World.grownBy.refl _ _) _) _ _) _ _⟩
    rw [hr, cast_add]
    exact ((h.drewN nq).putErr er).putAt hm
  · have hne : ((e : Int) != 0) = true := by rw [bne_iff_ne]; omega
    go_enter Try.func96, Try.ntmps96
    go_wp2
    go_ret
    have hr : rdNum zs p e = (0, p, e) := by simp [rdNum, he0]
    exact ⟨by rw [hr]; rfl, by rw [hr]; exact h, World.grownBy.refl _ _⟩

theorem rdrErr {A : Option Addr} {c g p e : Nat} {zs : List Int} (w : World) (h : Rdr w g A c zs p e) :
    Calls Try.prog 82 #[.pointer (some ⟨g, 0, none⟩)] w fun en w' => en = .returned (.int .i64 e) ∧ w' = w := by
  obtain ⟨c0, c1, c2, c3, f1, f3⟩ := h.facts
  go_enter Try.func82, Try.ntmps82
  go_wp2
  go_ret
  exact ⟨rfl, rfl⟩
theorem rdrLeft {A : Option Addr} {c g p e : Nat} {zs : List Int} (w : World) (h : Rdr w g A c zs p e) :
    Calls Try.prog 98 #[.pointer (some ⟨g, 0, none⟩)] w fun en w' => en = .returned (.int .i64 ((zs.length - p : Nat) : Int)) ∧ ∃ n, w' = w.drewN n := by
  obtain ⟨c0, c1, c2, c3, f1, f3⟩ := h.facts
  have hpos := h.pos
  have hlen := h.len
  obtain ⟨l, hl⟩ : ∃ l : Nat, l = zs.length - p := ⟨_, rfl⟩
  have hll : ((zs.length : Nat) : Int) - (p : Int) = (l : Int) := by omega
  rw [← hl]
  clear hl
  go_enter Try.func98, Try.ntmps98
  go_wp2
  go_quiet (fail)
  go_wp2
  go_ret
  exact ⟨rfl, _, rfl⟩
end Go.Proofs.Ytlamebbolioljaa

/- Contracts of wire's reader: Fixed, Piece. -/
namespace Go.Proofs.Ytlamebbolioljaa
open Go.RowKit

/-- The state behind a call of Fixed: the bytes, the place, the error. -/
def rdFix (zs : List Int) (p e n : Nat) : List Int × Nat × Nat := if e ≠ 0 then ([], p, e) else if zs.length - p < n then ([], p, 12) else ((zs.drop p).take n, p + n, 0)
/-- A reader's method has handed back bytes of its own. -/
def BytPost (w : World) (g : Nat) (A : Option Addr) (c : Nat) (zs : List Int) (out : List Int) (p e : Nat) (en : Ending) (w' : World) : Prop :=
  ∃ A' c', en = .returned (.slice A' out.length c') ∧ Rdr w' g A c zs p e ∧ w.grownBy w' (some g) ∧ Rb w' w'.heap.size A' out ∧ out.length ≤ c' ∧ (∀ a, A' = some a → w.heap.size ≤ a.block) ∧ (A' = none → out = [] ∧ c' = 0)

set_option maxRecDepth 100000 in
set_option maxHeartbeats 1000000 in
theorem rdrFixed {A : Option Addr} {c g p e n : Nat} {zs : List Int} (w : World) (h : Rdr w g A c zs p e) (he : e ≤ 100) (hn : n ≤ 4611686018427387904) :
    Calls Try.prog 94 #[.pointer (some ⟨g, 0, none⟩), .int .i64 n] w (BytPost w g A c zs (rdFix zs p e n).1 (rdFix zs p e n).2.1 (rdFix zs p e n).2.2) := by
  obtain ⟨c0, c1, c2, c3, f1, f3⟩ := h.facts
  have hpos := h.pos
  have hcap := h.cap
  have hlen := h.len
  by_cases he0 : e = 0
  · subst he0
    obtain ⟨l, hl⟩ : ∃ l : Nat, zs.length - p = l := ⟨_, rfl⟩
    have hrl := rdrLeft w h
    rw [hl] at hrl
    by_cases hnl : l < n
    · have hr : rdFix zs p 0 n = ([], p, 12) := by rw [rdFix, if_neg (by simp), if_pos (by omega)]
      rw [hr]
      have d1 : ((l : Nat) : Int) < (n : Int) := by omega
      go_enter Try.func94, Try.ntmps94
      go_wp2_with (first
        | (go_at_call 98; refine hrl.mono ?_; rintro e w1 ⟨rfl, nd, rfl⟩)
        | go_in)
      go_ret
      refine ⟨none, 0, rfl, (h.drewN nd).putErr 12, only_set (only_drewN (World.grownBy.refl _ _) _) _ _, Rd.nil, Nat.le_refl _, (fun a ha => by cases ha), fun _ => ⟨rfl, rfl⟩⟩
    · have hr : rdFix zs p 0 n = ((zs.drop p).take n, p + n, 0) := by rw [rdFix, if_neg (by simp), if_neg (by omega)]
      rw [hr]
      go_enter Try.func94, Try.ntmps94
      have d1 : decide (((l : Nat) : Int) < (n : Int)) = false := by simp; omega
      go_wp2_with (first
        | (go_at_call 98; refine hrl.mono ?_; rintro e w1 ⟨rfl, nd, rfl⟩)
        | go_in)
      rw [cast_add]
      have R2 := (h.drewN nd).putAt (p' := p + n) (by omega)
      have hg2 : w.grownBy ((w.drewN nd).setCell ⟨g, 1, none⟩ (.int .i64 ((p + n : Nat) : Int))) (some g) := only_set (only_drewN (World.grownBy.refl _ _) _) _ _
      obtain ⟨W2, hW2⟩ : ∃ W2, (w.drewN nd).setCell ⟨g, 1, none⟩ (.int .i64 ((p + n : Nat) : Int)) = W2 := ⟨_, rfl⟩
      rw [hW2] at R2 hg2 ⊢
      obtain ⟨q, hq⟩ : ∃ q, p + n = q := ⟨_, rfl⟩
      rw [hq] at R2 ⊢
      have hws : w.heap.size ≤ W2.heap.size := hg2.size
      clear hW2 c0 c1 c2 c3 f1 f3
      obtain ⟨c0, c1, c2, c3, f1, f3⟩ := R2.facts
      have e1 : IntKind.i64.wrap ((q : Int) - (n : Int)) = (p : Int) := by rw [IntKind.wrap_i64]; omega
      have d2 : (p : Int) ≤ (q : Int) := by omega
      have d3 : (q : Int) ≤ (c : Int) := by omega
      have d4 : p ≤ q := by omega
      have d5 : q ≤ c := by omega
      have HL := Lib.hid hl
      have HQ := Lib.hid hq
      clear hl hq hr
      go_still_tail 18, (by kernel_rfl)
      change wpList _ _ _ _ _ W2.drew
      have hcl : ∀ (A1 : Option Addr) (m c1 : Nat), A1 = (if c = p then A else A.map (·.add p)) → m = q - p → c1 = c - p →
          Calls Try.prog 92 #[.slice A1 m c1] W2.drew (RetNew 5 1 W2.drew m (bv ((zs.drop p).take n)) (fun A' => A' = none → A1 = none)) := by
        rintro A1 m c1 rfl rfl rfl
        have hq := HQ.out
        have hl := HL.out
        have hlen' : ((zs.drop p).take n).length = q - p := by rw [List.length_take, List.length_drop]; omega
        refine bytesClone (xs := (zs.drop p).take n) W2.drew (Rb.take (Rb.drop R2.rd R2.cap) n) (Nat.le_refl _) (by rw [hlen']; omega) (fun e => ?_) hlen'
        have hA : A = none := by
          split at e
          · exact e
          · cases A with
            | none => rfl
            | some a => cases e
        have hc0 := R2.nil hA
        exact ⟨by rw [List.drop_eq_nil_of_le (by omega)]; simp, by omega⟩
      have fin : ∀ (en : Ending) (w3 : World) (A1 : Option Addr), A1 = (if c = p then A else A.map (·.add p)) → RetNew 5 1 W2.drew (q - p) (bv ((zs.drop p).take n)) (fun A' => A' = none → A1 = none) en w3 → BytPost w g A c zs ((zs.drop p).take n) (p + n) 0 en w3 := by
        rintro en w3 A1 hA1 ⟨A', c', rfl, happ, hne⟩
        have hq := HQ.out
        have hl := HL.out
        have hlen' : ((zs.drop p).take n).length = q - p := by rw [List.length_take, List.length_drop]; omega
        have hb := happ.below0
        have R3 : Rdr W2.drew g A c zs q 0 := R2.drewN 1
        refine ⟨A', c', by rw [hlen'], by rw [hq]; exact R3.below hb, ?_, happ.rd, by rw [hlen']; exact happ.cap, fun a ha => by have := happ.lo a ha; have : W2.drew.heap.size = W2.heap.size := rfl; omega, fun e => ?_⟩
        · exact ⟨hb.os.trans hg2.os, hb.tape.trans hg2.tape, hb.output.trans hg2.output, Nat.le_trans hws hb.size, fun k hk hne => (hb.block k (Nat.lt_of_lt_of_le hk hws)).trans (hg2.block k hk hne)⟩
        · subst e
          rcases happ.own.2 with ⟨h1, h2⟩ | ⟨_, _, _, h1, _⟩
          · injection h1 with _ h3 h4
            refine ⟨List.eq_nil_of_length_eq_zero (by omega), h4⟩
          · cases h1
      have HCL := Lib.hid hcl
      have FIN := Lib.hid fin
      clear hcl fin
      by_cases hcp : c = p
      · have h1 := HCL.out A (q - p) 0 (by rw [if_pos hcp]) rfl (by omega)
        have h2 := fun en w3 => FIN.out en w3 A (by rw [if_pos hcp])
        have H2 := Lib.hid h2
        clear h2
        go_wp2_with fail
        refine h1.mono ?_
        intro en w3 hpost
        have hfin := H2.out en w3 hpost
        obtain ⟨A', c', rfl, -⟩ := hpost
        go_wp2
        go_ret
        exact hfin
      · have h1 := HCL.out (A.map (·.add p)) (q - p) (c - p) (by rw [if_neg hcp]) rfl rfl
        have h2 := fun en w3 => FIN.out en w3 (A.map (·.add p)) (by rw [if_neg hcp])
        have H2 := Lib.hid h2
        clear h2
        go_wp2_with fail
        refine h1.mono ?_
        intro en w3 hpost
        have hfin := H2.out en w3 hpost
        obtain ⟨A', c', rfl, -⟩ := hpost
        go_wp2
        go_ret
        exact hfin
  · have hne : ((e : Int) != 0) = true := by rw [bne_iff_ne]; omega
    have hr : rdFix zs p e n = ([], p, e) := by rw [rdFix, if_pos he0]
    rw [hr]
    go_enter Try.func94, Try.ntmps94
    go_wp2
    go_ret
    exact ⟨none, 0, rfl, h, World.grownBy.refl _ _, Rd.nil, Nat.le_refl _, (fun a ha => by cases ha), fun _ => ⟨rfl, rfl⟩⟩
end Go.Proofs.Ytlamebbolioljaa

/- Contracts of wire's reader: Piece. -/
namespace Go.Proofs.Ytlamebbolioljaa
open Go.RowKit

def rdPiece (zs : List Int) (p e : Nat) : List Int × Nat × Nat :=
  if e ≠ 0 then ([], p, e)
  else if (shortOf (zs.drop p)).2.2 ≠ 0 then ([], p, (shortOf (zs.drop p)).2.2)
  else if 1048576 < (shortOf (zs.drop p)).1 then ([], p, 3)
  else if zs.length - (p + (shortOf (zs.drop p)).2.1) < (shortOf (zs.drop p)).1 then ([], p, 12)
  else ((zs.drop (p + (shortOf (zs.drop p)).2.1)).take (shortOf (zs.drop p)).1, p + (shortOf (zs.drop p)).2.1 + (shortOf (zs.drop p)).1, 0)
theorem BytPost.none {w w' : World} {g p e c : Nat} {A : Option Addr} {zs : List Int} (h : Rdr w' g A c zs p e) (hg : w.grownBy w' (some g)) : BytPost w g A c zs [] p e (.returned (.slice none 0 0)) w' :=
  ⟨Option.none, 0, rfl, h, hg, Rd.nil, Nat.le_refl _, (fun a ha => by cases ha), fun _ => ⟨rfl, rfl⟩⟩

set_option maxRecDepth 100000 in
set_option maxHeartbeats 1000000 in
theorem rdrPiece {A : Option Addr} {c g p e : Nat} {zs : List Int} (w : World) (h : Rdr w g A c zs p e) (he : e ≤ 100) :
    Calls Try.prog 95 #[.pointer (some ⟨g, 0, none⟩)] w (BytPost w g A c zs (rdPiece zs p e).1 (rdPiece zs p e).2.1 (rdPiece zs p e).2.2) := by
  obtain ⟨c0, c1, c2, c3, f1, f3⟩ := h.facts
  have hpos := h.pos
  have hcap := h.cap
  have hlen := h.len
  by_cases he0 : e = 0
  · subst he0
    obtain ⟨x, m, er, hs⟩ : ∃ x m er, shortOf (zs.drop p) = (x, m, er) := ⟨_, _, _, rfl⟩
    obtain ⟨hm, her, hx, herx⟩ := shortOf_drop h.byt hpos hs
    obtain ⟨res, hres⟩ : ∃ res, rdPiece zs p 0 = res := ⟨_, rfl⟩
    rw [hres]
    unfold rdPiece at hres
    rw [if_neg (by simp), hs] at hres
    simp only at hres
    have HS := Lib.hid hs
    have HX := Lib.hid hx
    have HRES := Lib.hid hres
    obtain ⟨l, hl⟩ : ∃ l : Nat, zs.length - p = l := ⟨_, rfl⟩
    have hml : m ≤ l := by omega
    have hrl := fun nd => Lib.hid (rdrLeft (w.drewN nd) (h.drewN nd))
    rw [hl] at hrl
    obtain ⟨k, hk⟩ : ∃ k : Nat, l - m = k := ⟨_, rfl⟩
    have hkk : (l : Int) - (m : Int) = (k : Int) := by omega
    have hk64 : k ≤ 140737488351232 := by omega
    have HL := Lib.hid hl
    have HK := Lib.hid hk
    clear hs hx hres hl herx hk
    go_enter Try.func95, Try.ntmps95
    go_wp2
    go_quiet ((go_at_call 105; go_loud (exact Calls.quiet_of_same (wireShort' _ HS.out (Rb.drop h.rd h.cap) (h.byt.drop p) (by rw [List.length_drop]; simp only [maxLen]; omega) (by rw [List.length_drop])))))
    generalize (if c = p then A else Option.map (fun x => x.add p) A) = A2
    by_cases her0 : er = 0
    · subst her0
      by_cases hx1 : 1048576 < x
      · have d1 : ((1048576 : Int) < (x : Int)) := by omega
        go_wp2
        go_ret
        have hr := HRES.out
        rw [if_neg (by simp), if_pos hx1] at hr
        rw [← hr]
        exact BytPost.none ((h.drewN nq).putErr 3) (only_set (only_drewN (World.grownBy.refl _ _) _) _ _)
      have d1 : decide ((1048576 : Int) < (x : Int)) = false := by simp; omega
      by_cases hx2 : k < x
      · have d2 : ((k : Int) < (x : Int)) := by omega
        go_wp2_with (first
          | (go_at_call 98; refine (hrl _).out.mono ?_; rintro e w1 ⟨rfl, nd, rfl⟩)
          | go_in)
        go_ret
        have hr := HRES.out
        rw [if_neg (by simp), if_neg hx1, if_pos (by have := HL.out; have := HK.out; omega)] at hr
        rw [← hr]
        exact BytPost.none ((h.drewN (nq + nd)).putErr 12) (only_set (only_drewN (World.grownBy.refl _ _) _) _ _)
      have d2 : decide ((k : Int) < (x : Int)) = false := by simp; omega
      go_wp2_with (first
          | (go_at_call 98; refine (hrl _).out.mono ?_; rintro e w1 ⟨rfl, nd, rfl⟩)
          | (go_at_call 97; go_in))
      rw [cast_add]
      refine (rdrFixed _ ((h.drewN (nq + nd)).putAt (p' := p + m) hm) (by omega) (by omega)).mono ?_
      have hg1 : w.grownBy ((w.drewN (nq + nd)).setCell ⟨g, 1, none⟩ (.int .i64 ((p + m : Nat) : Int))) (some g) := only_set (only_drewN (World.grownBy.refl _ _) _) _ _
      have hf : rdFix zs (p + m) 0 x = ((zs.drop (p + m)).take x, p + m + x, 0) := by
        rw [rdFix, if_neg (by simp), if_neg (by have := HL.out; have := HK.out; omega)]
      rw [hf]
      have hr := HRES.out
      rw [if_neg (by simp), if_neg hx1, if_neg (by have := HL.out; have := HK.out; omega)] at hr
      rw [hr]
      clear hr hf
      rintro en w3 ⟨A', c', rfl, hR, hg, hrd, hcp, hlo, hnil⟩
      go_wp2
      go_ret
      exact ⟨A', c', rfl, hR, grown_row hg1 hg (.inl rfl), hrd, hcp, fun a ha => Nat.le_trans hg1.size (hlo a ha), hnil⟩
    · have hne : ((er : Int) != 0) = true := by rw [bne_iff_ne]; omega
      go_wp2
      go_ret
      have hr := HRES.out
      rw [if_pos her0] at hr
      rw [← hr]
      exact BytPost.none ((h.drewN nq).putErr er) (only_set (only_drewN (World.grownBy.refl _ _) _) _ _)
  · have hne : ((e : Int) != 0) = true := by rw [bne_iff_ne]; omega
    go_enter Try.func95, Try.ntmps95
    go_wp2
    go_ret
    have hr : rdPiece zs p e = ([], p, e) := by rw [rdPiece, if_pos he0]
    rw [hr]
    exact BytPost.none h (World.grownBy.refl _ _)
end Go.Proofs.Ytlamebbolioljaa

/- Spans: plain words, and how they lie in memory; the contracts of Text, name, long and Check. -/
namespace Go.Proofs.Ytlamebbolioljaa
open Go.RowKit

structure Tg where
  key : ByteArray
  val : ByteArray
deriving DecidableEq
structure Sp where
  hi : Nat
  lo : Nat
  id : Nat
  parent : Nat
  service : ByteArray
  name : ByteArray
  kind : Int
  start : Int
  length : Int
  fails : Bool
  tags : List Tg
deriving DecidableEq
/-- The cells of tags. -/
def tgs (l : List Tg) : List Value := l.flatMap fun t => [.string t.key, .string t.val]
theorem tgs_length (l : List Tg) : (tgs l).length = l.length * 2 := by
  induction l with
  | nil => rfl
  | cons t l ih =>
    have : tgs (t :: l) = .string t.key :: .string t.val :: tgs l := rfl
    rw [this, List.length_cons, List.length_cons, List.length_cons, ih]
    omega
theorem tgs_append (a b : List Tg) : tgs (a ++ b) = tgs a ++ tgs b := by simp [tgs]
theorem tgs_get : ∀ {l : List Tg} {i : Nat} {t : Tg}, l[i]? = some t → (tgs l)[i * 2]? = some (.string t.key) ∧ (tgs l)[i * 2 + 1]? = some (.string t.val) := by
  intro l
  induction l with
  | nil => intro i t h; simp at h
  | cons u l ih =>
    intro i t h
    have e : tgs (u :: l) = .string u.key :: .string u.val :: tgs l := rfl
    rw [e]
    cases i with
    | zero => simp at h; subst h; simp
    | succ i =>
      have := ih (i := i) (t := t) (by simpa using h)
      rw [show (i + 1) * 2 = i * 2 + 1 + 1 from by omega, show i * 2 + 1 + 1 + 1 = (i * 2 + 1) + 1 + 1 from rfl, List.getElem?_cons_succ, List.getElem?_cons_succ, List.getElem?_cons_succ, List.getElem?_cons_succ]
      exact this
theorem tgs_one (l : List Tg) : ∀ u ∈ tgs l, u.oneCell' = true := by
  intro u hu
  obtain ⟨t, _, ht⟩ := List.mem_flatMap.1 hu
  simp at ht
  rcases ht with rfl | rfl <;> rfl
/-- The tags lie from A on, two cells each. -/
abbrev RbT (w : World) (B : Nat) (A : Option Addr) (l : List Tg) : Prop := Rd w B A (tgs l)
theorem RbT.get {w : World} {B : Nat} {A : Option Addr} {l : List Tg} (h : RbT w B A l) {i : Nat} {t : Tg} (hi : l[i]? = some t) :
    ∃ b o, A = some ⟨b, o, none⟩ ∧ b < B ∧ w.cell? ⟨b, o + i * 2, none⟩ = some (.string t.key) ∧ w.cell? ⟨b, o + i * 2 + 1, none⟩ = some (.string t.val) := by
  obtain ⟨h1, h2⟩ := tgs_get hi
  obtain ⟨b, o, e, hb, hc⟩ := Rd.get h h1
  obtain ⟨b', o', e', _, hc'⟩ := Rd.get h h2
  rw [e] at e'
  cases e'
  exact ⟨b, o, e, hb, hc, hc'⟩

/-- A span's cells. -/
abbrev spC (s : Sp) (A : Option Addr) (n c : Nat) : Array Value := #[.int .u64 s.hi, .int .u64 s.lo, .int .u64 s.id, .int .u64 s.parent, .string s.service, .string s.name, .int .i64 s.kind, .int .i64 s.start, .int .i64 s.length, .bool s.fails, .slice A n c]
abbrev spV (s : Sp) (A : Option Addr) (n c : Nat) : Value := .agg (spC s A n c)

/-! ### what may be -/
def plainB (s : ByteArray) : Bool := (nums s).all fun x => decide (32 ≤ x) && decide (x ≤ 126)
def txtB (s : ByteArray) : Bool := decide (s.size ≤ 128) && plainB s
def nameB (s : ByteArray) : Bool := decide (0 < s.size) && txtB s
def tgLong (t : Tg) : Bool := decide (128 < t.key.size) || decide (128 < t.val.size)
def longB (s : Sp) : Bool := decide (128 < s.service.size) || decide (128 < s.name.size) || decide (16 < s.tags.length) || s.tags.any tgLong
def strLt (s t : ByteArray) : Bool := Op.bytesLess s.toList t.toList
def tagOk (l : List Tg) (i : Nat) : Bool :=
  match l[i]? with
  | none => true
  | some t => nameB t.key && txtB t.val && (decide (i = 0) || match l[i - 1]? with | none => true | some u => strLt u.key t.key)
def tagsOk (l : List Tg) (k : Nat) : Bool := (List.range k).all (tagOk l)
theorem tagsOk_succ (l : List Tg) (k : Nat) : tagsOk l (k + 1) = (tagsOk l k && tagOk l k) := by simp [tagsOk, List.range_succ]
def headB (s : Sp) : Bool :=
  (decide (s.hi ≠ 0) || decide (s.lo ≠ 0)) && decide (s.id ≠ 0) && nameB s.service && nameB s.name && decide (0 ≤ s.kind) && decide (s.kind ≤ 5) && decide (0 ≤ s.start) && decide (0 ≤ s.length) && decide (s.start ≤ 4611686018427387903) && decide (s.length ≤ 4611686018427387903 - s.start)
/-- What Check tells. -/
def spChk (s : Sp) : Nat := if longB s = true then 3 else if headB s && tagsOk s.tags s.tags.length then 0 else 2

set_option maxHeartbeats 400000 in
theorem spText (w : World) (s : ByteArray) :
    Calls Try.prog 37 #[.string s] w fun e w' => e = .returned (.bool (txtB s)) ∧ w' = w := by
  obtain ⟨q, hq⟩ : ∃ q, txtB s = q := ⟨_, rfl⟩
  rw [hq]
  have HQ := Lib.hid hq
  clear hq
  by_cases hl : 128 < s.size
  · have d1 : (128 : Int) < (s.size : Int) := by omega
    go_enter Try.func37, Try.ntmps37
    go_wp2
    go_ret
    have : q = false := by rw [← HQ.out, txtB]; simp; omega
    exact ⟨by rw [this]; rfl, rfl⟩
  have d1 : decide ((128 : Int) < (s.size : Int)) = false := by simp; omega
  go_enter Try.func37, Try.ntmps37
  go_wp2
  go_loop [9] (fun iv_ => ∃ k : Nat, k ≤ s.size ∧ iv_ = .int .i64 k ∧ ((nums s).take k).all (fun x => decide (32 ≤ x) && decide (x ≤ 126)) = true) (fun i => s.size - (intOf i).toNat)
  case atStart => exact ⟨0, by omega, rfl, rfl⟩
  case round =>
    obtain ⟨k, hk, rfl, hall⟩ := hrel
    have HA := Lib.hid hall
    clear hall
    by_cases hlt : k < s.size
    · have hlt' : (k : Int) < (s.size : Int) := by omega
      obtain ⟨z, hz⟩ : ∃ z : Int, z = ((s[k]'hlt).toNat : Int) := ⟨_, rfl⟩
      have hzz : ((s[k]'hlt).toNat : Int) = z := hz.symm
      have HZ : Hid ((nums s)[k]? = some z) := by rw [hz]; exact nums_get hlt
      clear hz
      by_cases h1 : z < 32
      · go_wp2
        go_ret
        have : q = false := by
          rw [← HQ.out, txtB, plainB]
          have : ((nums s).all fun x => decide (32 ≤ x) && decide (x ≤ 126)) = false := by
            rw [List.all_eq_false]
            exact ⟨z, List.mem_of_getElem? HZ.out, by simp; omega⟩
          simp [this]
        exact ⟨by rw [this]; rfl, rfl⟩
      have h1' : decide (z < 32) = false := by simp; omega
      by_cases h2 : 126 < z
      · go_wp2
        go_ret
        have : q = false := by
          rw [← HQ.out, txtB, plainB]
          have : ((nums s).all fun x => decide (32 ≤ x) && decide (x ≤ 126)) = false := by
            rw [List.all_eq_false]
            exact ⟨z, List.mem_of_getElem? HZ.out, by simp; omega⟩
          simp [this]
        exact ⟨by rw [this]; rfl, rfl⟩
      have h2' : decide (126 < z) = false := by simp; omega
      go_wp2
      go_round
      case rel => exact ⟨k + 1, by omega, by go_num, by rw [take_snoc HZ.out, List.all_append, HA.out]; simp; omega⟩
      case measure => simp [intOf]; omega
    · have hlt' : decide ((k : Int) < (s.size : Int)) = false := by simp; omega
      go_wp2
      go_ret
      have : q = true := by
        rw [← HQ.out, txtB, plainB]
        have h1 := HA.out
        rw [List.take_of_length_le (by rw [nums_len]; omega)] at h1
        rw [h1]
        simp; omega
      exact ⟨by rw [this]; rfl, rfl⟩

theorem str_empty {s : ByteArray} : (s.toList == []) = decide (s.size = 0) := by
  rw [ByteArray.toList_eq, Bool.eq_iff_iff, beq_iff_eq, decide_eq_true_iff]
  have : s.data.toList.length = s.size := rfl
  refine ⟨fun h => by rw [← this, h]; rfl, fun h => List.eq_nil_of_length_eq_zero (by omega)⟩
theorem spName (w : World) (s : ByteArray) :
    Calls Try.prog 90 #[.string s] w fun e w' => e = .returned (.bool (nameB s)) ∧ w' = w := by
  by_cases h0 : 0 < s.size
  · have d1 : (s.toList == []) = false := by rw [str_empty, decide_eq_false_iff_not]; omega
    obtain ⟨q, hq⟩ : ∃ q, txtB s = q := ⟨_, rfl⟩
    have hn : nameB s = q := by simp [nameB, h0, hq]
    have ht := spText w s
    rw [hq] at ht
    rw [hn]
    have HT := Lib.hid ht
    clear ht hq hn
    go_enter Try.func90, Try.ntmps90
    go_wp2_with (go_at_call 37; refine HT.out.mono ?_; rintro e w' ⟨rfl, rfl⟩)
    go_ret
    exact ⟨rfl, rfl⟩
  · have d1 : (s.toList == []) = true := by rw [str_empty, decide_eq_true_iff]; omega
    have hn : nameB s = false := by simp [nameB, h0]
    rw [hn]
    go_enter Try.func90, Try.ntmps90
    go_wp2
    go_ret
    exact ⟨rfl, rfl⟩
theorem spLong1 (W : World) (t : Tg) :
    Calls Try.prog 104 #[.agg #[.string t.key, .string t.val]] W fun e W' => e = .returned (.bool (tgLong t)) ∧ Below W.heap.size W W' := by
  obtain ⟨q, hq⟩ : ∃ q, tgLong t = q := ⟨_, rfl⟩
  rw [hq]
  unfold tgLong at hq
  have HQ := Lib.hid hq
  clear hq
  by_cases h1 : 128 < t.key.size
  · have d1 : (128 : Int) < (t.key.size : Int) := by omega
    go_enter Try.func104, Try.ntmps104
    go_wp2
    go_ret
    have : q = true := by rw [← HQ.out]; simp [h1]
    exact ⟨by rw [this]; rfl, (Below.refl _ W).alloc (Nat.le_refl _) _⟩
  have d1 : decide ((128 : Int) < (t.key.size : Int)) = false := by simp; omega
  by_cases h2 : 128 < t.val.size
  · have d2 : (128 : Int) < (t.val.size : Int) := by omega
    go_enter Try.func104, Try.ntmps104
    go_wp2
    go_ret
    have : q = true := by rw [← HQ.out]; simp [h2]
    exact ⟨by rw [this]; rfl, (Below.refl _ W).alloc (Nat.le_refl _) _⟩
  have d2 : decide ((128 : Int) < (t.val.size : Int)) = false := by simp; omega
  go_enter Try.func104, Try.ntmps104
  go_wp2
  go_ret
  have : q = false := by rw [← HQ.out]; simp [h1, h2]
  exact ⟨by rw [this]; rfl, (Below.refl _ W).alloc (Nat.le_refl _) _⟩
end Go.Proofs.Ytlamebbolioljaa

/- Keys: what a key is; slices.Contains of ints; has. -/
namespace Go.Proofs.Ytlamebbolioljaa
open Go.RowKit

structure Ky where
  kind : Int
  hi : Nat
  lo : Nat
  id : Nat
  service : ByteArray
  name : ByteArray
  value : ByteArray
  number : Nat
  start : Int
deriving DecidableEq
abbrev kyC (k : Ky) : Array Value := #[.int .i64 k.kind, .int .u64 k.hi, .int .u64 k.lo, .int .u64 k.id, .string k.service, .string k.name, .string k.value, .int .u64 k.number, .int .i64 k.start]
abbrev kyV (k : Ky) : Value := .agg (kyC k)
def hasI (l : List Int) (x : Int) : Bool := l.any (fun y => y == x)
theorem iv_length (l : List Int) : (iv l).length = l.length := by simp [iv]
theorem iv_get {l : List Int} {i : Nat} {x : Int} (h : l[i]? = some x) : (iv l)[i]? = some (.int .i64 x) := by simp [iv, h]
/-- The place of x, or -1. -/
def idxI (l : List Int) (x : Int) : Int := match l.findIdx? (fun y => y == x) with | some i => (i : Int) | none => -1
theorem idxI_has (l : List Int) (x : Int) : decide (0 ≤ idxI l x) = hasI l x := by
  unfold idxI hasI
  cases hf : l.findIdx? (fun y => y == x) with
  | none =>
    rw [List.findIdx?_eq_none_iff] at hf
    have : l.any (fun y => y == x) = false := by rw [List.any_eq_false]; intro y hy; rw [hf y hy]; simp
    rw [this]
    rfl
  | some i =>
    obtain ⟨hi, h1, _⟩ := List.findIdx?_eq_some_iff_getElem.1 hf
    have : l.any (fun y => y == x) = true := List.any_eq_true.2 ⟨_, List.getElem_mem hi, h1⟩
    rw [this, decide_eq_true_iff]
    simp only
    omega
set_option maxHeartbeats 400000 in
theorem slIndexI {A : Option Addr} {c n B : Nat} {l : List Int} (x : Int) (w : World) (hf : Rd w B A (iv l)) (hn : l.length = n) (hnl : n ≤ 1000) :
    Calls Try.prog 60 #[.slice A n c, .int .i64 x] w fun e w' => e = .returned (.int .i64 (idxI l x)) ∧ w' = w := by
  have HN := Lib.hid hn
  obtain ⟨q, hq⟩ : ∃ q, idxI l x = q := ⟨_, rfl⟩
  rw [hq]
  have HQ := Lib.hid hq
  clear hn hq
  go_enter Try.func60, Try.ntmps60
  go_wp2
  go_loop [8] (fun iv_ => ∃ j : Nat, j ≤ n ∧ iv_ = .int .i64 j ∧ (∀ i y, i < j → l[i]? = some y → (y == x) = false)) (fun i => n - (intOf i).toNat)
  case atStart => exact ⟨0, by omega, rfl, fun i y h => by omega⟩
  case round =>
    obtain ⟨j, hj, rfl, hall⟩ := hrel
    have HA := Lib.hid hall
    clear hall
    by_cases hlt : j < n
    · have hlt' : (j : Int) < (n : Int) := by omega
      obtain ⟨y, hy⟩ : ∃ y, l[j]? = some y := ⟨_, List.getElem?_eq_getElem (by rw [HN.out]; exact hlt)⟩
      obtain ⟨b, o, rfl, hbb, hc⟩ := hf.get (iv_get hy)
      have HY := Lib.hid hy
      clear hy
      by_cases he : x = y
      · have d1 : (x == y) = true := by simp [he]
        have hqj : q = (j : Int) := by
          rw [← HQ.out, idxI]
          have : l.findIdx? (fun y => y == x) = some j := by
            rw [List.findIdx?_eq_some_iff_getElem]
            have hl := (List.getElem?_eq_some_iff.1 HY.out).1
            refine ⟨hl, by rw [(List.getElem?_eq_some_iff.1 HY.out).2]; simp [he], fun i hi => ?_⟩
            have := HA.out i _ hi (List.getElem?_eq_getElem (by omega))
            rw [this]
            simp
          rw [this]
        have HQJ := Lib.hid hqj
        clear hqj he
        go_wp2
        go_ret
        exact ⟨by rw [HQJ.out]; rfl, rfl⟩
      · have d1 : (x == y) = false := by simp [he]
        have hst : ∀ i z, i < j + 1 → l[i]? = some z → (z == x) = false := fun i z hi hz => by
          by_cases hij : i < j
          · exact HA.out i z hij hz
          · obtain rfl : i = j := by omega
            rw [HY.out] at hz
            cases hz
            simp
            exact fun e => he e.symm
        have HST := Lib.hid hst
        clear hst he
        go_wp2
        go_round
        case rel => exact ⟨j + 1, by omega, by go_num, HST.out⟩
        case measure => simp [intOf]; omega
    · have hlt' : decide ((j : Int) < (n : Int)) = false := by simp; omega
      have hq1 : q = -1 := by
        rw [← HQ.out, idxI]
        have : l.findIdx? (fun y => y == x) = none := by
          rw [List.findIdx?_eq_none_iff]
          intro y hy
          obtain ⟨i, hi, rfl⟩ := List.getElem_of_mem hy
          exact HA.out i _ (by rw [HN.out] at hi; omega) (List.getElem?_eq_getElem hi)
        rw [this]
      have HQ1 := Lib.hid hq1
      clear hq1
      go_wp2
      go_ret
      exact ⟨by rw [HQ1.out]; rfl, rfl⟩
theorem slContI {A : Option Addr} {c n B : Nat} {l : List Int} (x : Int) (w : World) (hf : Rd w B A (iv l)) (hn : l.length = n) (hnl : n ≤ 1000) :
    Calls Try.prog 39 #[.slice A n c, .int .i64 x] w fun e w' => e = .returned (.bool (hasI l x)) ∧ w' = w := by
  have hc := slIndexI (c := c) x w hf hn hnl
  have hh := idxI_has l x
  obtain ⟨q, hq⟩ : ∃ q, idxI l x = q := ⟨_, rfl⟩
  rw [hq] at hc hh
  rw [← hh]
  have HC := Lib.hid hc
  clear hc hh hq
  go_enter Try.func39, Try.ntmps39
  go_wp2_with (go_at_call 60; refine HC.out.mono ?_; rintro e w' ⟨rfl, rfl⟩)
  go_ret
  exact ⟨rfl, rfl⟩
/-- The closure that asks for a part. -/
theorem scHas {A : Option Addr} {n gl B : Nat} {l : List Int} (x : Int) (w : World) (hc : w.cell? ⟨gl, 0, none⟩ = some (.slice A n n)) (hf : Rd w B A (iv l)) (hn : l.length = n) (hnl : n ≤ 1000) :
    Calls Try.prog 38 #[.int .i64 x, .pointer (some ⟨gl, 0, none⟩)] w fun e w' => e = .returned (.bool (hasI l x)) ∧ w' = w := by
  have hk := slContI (c := n) x w hf hn hnl
  obtain ⟨q, hq⟩ : ∃ q, hasI l x = q := ⟨_, rfl⟩
  rw [hq] at hk ⊢
  have HK := Lib.hid hk
  clear hk hq hn
  go_enter Try.func38, Try.ntmps38
  go_wp2_with (go_at_call 39; refine HK.out.mono ?_; rintro e w' ⟨rfl, rfl⟩)
  go_ret
  exact ⟨rfl, rfl⟩
set_option maxHeartbeats 400000 in
/-- The document's has. -/
theorem rHas {A : Option Addr} {c n B : Nat} {l : List Int} (x : Int) (w : World) (hf : Rd w B A (iv l)) (hn : l.length = n) (hnl : n ≤ 1000) :
    Calls Try.prog 41 #[.slice A n c, .int .i64 x] w fun e w' => e = .returned (.bool (hasI l x)) ∧ w' = w := by
  have HN := Lib.hid hn
  obtain ⟨q, hq⟩ : ∃ q, hasI l x = q := ⟨_, rfl⟩
  rw [hq]
  have HQ := Lib.hid hq
  clear hn hq
  go_enter Try.func41, Try.ntmps41
  go_wp2
  go_loop [5] (fun iv_ => ∃ j : Nat, j ≤ n ∧ iv_ = .int .i64 j ∧ (∀ i y, i < j → l[i]? = some y → (y == x) = false)) (fun i => n - (intOf i).toNat)
  case atStart => exact ⟨0, by omega, rfl, fun i y h => by omega⟩
  case round =>
    obtain ⟨j, hj, rfl, hall⟩ := hrel
    have HA := Lib.hid hall
    clear hall
    by_cases hlt : j < n
    · have hlt' : (j : Int) < (n : Int) := by omega
      obtain ⟨y, hy⟩ : ∃ y, l[j]? = some y := ⟨_, List.getElem?_eq_getElem (by rw [HN.out]; exact hlt)⟩
      obtain ⟨b, o, rfl, hbb, hc⟩ := hf.get (iv_get hy)
      have HY := Lib.hid hy
      clear hy
      by_cases he : y = x
      · have d1 : (y == x) = true := by simp [he]
        have hqj : q = true := by
          rw [← HQ.out, hasI, List.any_eq_true]
          exact ⟨y, List.mem_of_getElem? HY.out, by simp [he]⟩
        have HQJ := Lib.hid hqj
        clear hqj he
        go_wp2
        go_ret
        exact ⟨by rw [HQJ.out]; rfl, rfl⟩
      · have d1 : (y == x) = false := by simp [he]
        have hst : ∀ i z, i < j + 1 → l[i]? = some z → (z == x) = false := fun i z hi hz => by
          by_cases hij : i < j
          · exact HA.out i z hij hz
          · obtain rfl : i = j := by omega
            rw [HY.out] at hz
            cases hz
            simp [he]
        have HST := Lib.hid hst
        clear hst he
        go_wp2
        go_round
        case rel => exact ⟨j + 1, by omega, by go_num, HST.out⟩
        case measure => simp [intOf]; omega
    · have hlt' : decide ((j : Int) < (n : Int)) = false := by simp; omega
      have hq1 : q = false := by
        rw [← HQ.out, hasI, List.any_eq_false]
        intro y hy
        obtain ⟨i, hi, rfl⟩ := List.getElem_of_mem hy
        rw [HA.out i _ (by rw [HN.out] at hi; omega) (List.getElem?_eq_getElem hi)]
        simp
      have HQ1 := Lib.hid hq1
      clear hq1
      go_wp2
      go_ret
      exact ⟨by rw [HQ1.out]; rfl, rfl⟩
end Go.Proofs.Ytlamebbolioljaa
