/- Texts of the proof of GatherScriptSaid, joined: Rdr Rdr2 Clone Rdr3 Rdr4 SpM SpG0 SpG. -/
import Derived.Test.YtoojpagpkbcfjaaGreatJGatherScript2
import Derived.WalkMore
import Derived.StillTailTactics
import Derived.Test.YtoojpagpkbcfjaaGreatJGatherScript1
import Derived.Deep.Cut
import Derived.Deep.RegionHeld3
import Derived.Deep.QuietTactic
/- Contracts of wire's reader. -/
namespace Go.Proofs.YtoojpagpkbcfjaaGreat
open Go.RowKit

theorem and127 (c : Int) (h0 : 0 ≤ c) (h1 : c ≤ 255) : bits .and .u8 c 127 = c % 128 := by
  have key : ∀ n : Nat, n < 256 → bits .and .u8 (n : Int) 127 = ((n % 128 : Nat) : Int) := by decide +kernel
  have := key c.toNat (by omega)
  rw [show ((c.toNat : Nat) : Int) = c from by omega] at this
  rw [this]
  omega

theorem or_high (x k d : Nat) (hx : x < 128 ^ k) (hx64 : x < 18446744073709551616) (hd : d * 128 ^ k < 18446744073709551616) : bits .or .u64 (x : Int) ((d * 128 ^ k : Nat) : Int) = ((x + d * 128 ^ k : Nat) : Int) := by
  have hp : (128 : Nat) ^ k = 2 ^ (7 * k) := by rw [Nat.pow_mul]
  rw [u64_or_nat _ _ hx64 hd, Nat.or_comm, Nat.mul_comm d, hp, ← Nat.two_pow_add_eq_or_of_lt (by rw [← hp]; exact hx) d, Nat.add_comm]
theorem or_short (x k : Nat) (c : Int) (h0 : 0 ≤ c) (hx : x < 128 ^ k) (hk : k ≤ 8) : bits .or .u64 (x : Int) (IntKind.u64.wrap (c % 128 * 2 ^ (7 * k))) = ((x + (c % 128).toNat * 128 ^ k : Nat) : Int) := by
  have hp : (128 : Nat) ^ k = 2 ^ (7 * k) := by rw [Nat.pow_mul]
  have h8 : 128 ^ k ≤ 128 ^ 8 := Nat.pow_le_pow_right (by omega) hk
  have e8 : (128 : Nat) ^ 8 = 72057594037927936 := by decide
  rw [e8] at h8
  have hm : (c % 128).toNat * 128 ^ k ≤ 127 * 128 ^ k := Nat.mul_le_mul_right _ (by omega)
  have e : c % 128 * 2 ^ (7 * k) = (((c % 128).toNat * 128 ^ k : Nat) : Int) := by
    rw [hp, Int.natCast_mul, Int.natCast_pow, Int.toNat_of_nonneg (by omega)]
    rfl
  rw [e, IntWalk.u64_in _ ⟨by omega, by omega⟩, or_high x k _ hx (by omega) (by omega)]

end Go.Proofs.YtoojpagpkbcfjaaGreat


/- Contracts of wire's reader: the methods. -/
namespace Go.Proofs.YtoojpagpkbcfjaaGreat
open Go.RowKit

section
variable {w w' : World} {g c p e : Nat} {A : Option Addr} {zs : List Int}
theorem Rd.setfar {B : Nat} {xs : List Value} (h : Rd w B A xs) {q : Addr} (hq : ∀ a, A = some a → a.block ≠ q.block) (u : Value) : Rd (w.setCell q u) B A xs := fun hn => by
  obtain ⟨b, o, rfl, hb, hc⟩ := h hn
  exact ⟨b, o, rfl, hb, fun j v hv => (World.cell?_setCell_other w q ⟨b, o + j, none⟩ u (fun e => hq _ rfl (by subst e; rfl))).trans (hc j v hv)⟩
end
/-- The state behind a call of Number: the number, the place, the error. -/
def rdNum (zs : List Int) (p e : Nat) : Nat × Nat × Nat := if e ≠ 0 then (0, p, e) else ((shortOf (zs.drop p)).1, p + (shortOf (zs.drop p)).2.1, (shortOf (zs.drop p)).2.2)
theorem shortOf_le {zs : List Int} (hz : Byt zs) : (shortOf zs).2.1 ≤ zs.length ∧ (shortOf zs).2.2 ≤ 12 := by
  rcases shortOf_err zs with h | h | h
  · have := shortOf_ok hz (y := (shortOf zs).1) (n := (shortOf zs).2.1) (by rw [← h])
    omega
  · rw [h]; simp
  · rw [h]; simp
theorem only_set {w w' : World} {g : Nat} (h : w.grownBy w' (some g)) (o : Nat) (u : Value) : w.grownBy (w'.setCell ⟨g, o, none⟩ u) (some g) :=
  ⟨h.os, h.tape, h.output, by simpa [World.setCell] using h.size, fun i hi hne => (Below.heap_setCell w' _ u i (by rintro rfl; exact hne rfl)).trans (h.block i hi hne)⟩
theorem only_drewN {w w' : World} {r : Option Nat} (h : w.grownBy w' r) (k : Nat) : w.grownBy (w'.drewN k) r := ⟨h.os, h.tape, h.output, h.size, h.block⟩

theorem cast_add (a b : Nat) : ((a : Int) + (b : Int)) = ((a + b : Nat) : Int) := by omega
theorem shortOf_drop {zs : List Int} (hz : Byt zs) {p x m er : Nat} (hp : p ≤ zs.length) (hs : shortOf (zs.drop p) = (x, m, er)) : p + m ≤ zs.length ∧ er ≤ 12 ∧ x < 18446744073709551616 ∧ (er ≠ 0 → x = 0 ∧ m = 0) := by
  have h := shortOf_le (hz.drop p)
  rw [hs, List.length_drop] at h
  simp only at h
  refine ⟨by omega, h.2, ?_, ?_⟩
  · rcases shortOf_err (zs.drop p) with e | e | e
    · rw [hs] at e
      simp at e
      subst e
      exact (shortOf_ok (hz.drop p) hs).2.2
    · rw [hs] at e; simp at e; omega
    · rw [hs] at e; simp at e; omega
  · intro hne
    rcases shortOf_err (zs.drop p) with e | e | e
    · rw [hs] at e; exact absurd e hne
    · rw [hs] at e; simp at e; omega
    · rw [hs] at e; simp at e; omega

end Go.Proofs.YtoojpagpkbcfjaaGreat


/- The contract of bytes.Clone. -/
namespace Go.Proofs.YtoojpagpkbcfjaaGreat
open Go.RowKit

end Go.Proofs.YtoojpagpkbcfjaaGreat


/- Contracts of wire's reader: Fixed, Piece. -/
namespace Go.Proofs.YtoojpagpkbcfjaaGreat
open Go.RowKit

/-- The state behind a call of Fixed: the bytes, the place, the error. -/
def rdFix (zs : List Int) (p e n : Nat) : List Int × Nat × Nat := if e ≠ 0 then ([], p, e) else if zs.length - p < n then ([], p, 12) else ((zs.drop p).take n, p + n, 0)
end Go.Proofs.YtoojpagpkbcfjaaGreat


/- Contracts of wire's reader: Piece. -/
namespace Go.Proofs.YtoojpagpkbcfjaaGreat
open Go.RowKit

def rdPiece (zs : List Int) (p e : Nat) : List Int × Nat × Nat :=
  if e ≠ 0 then ([], p, e)
  else if (shortOf (zs.drop p)).2.2 ≠ 0 then ([], p, (shortOf (zs.drop p)).2.2)
  else if 1048576 < (shortOf (zs.drop p)).1 then ([], p, 3)
  else if zs.length - (p + (shortOf (zs.drop p)).2.1) < (shortOf (zs.drop p)).1 then ([], p, 12)
  else ((zs.drop (p + (shortOf (zs.drop p)).2.1)).take (shortOf (zs.drop p)).1, p + (shortOf (zs.drop p)).2.1 + (shortOf (zs.drop p)).1, 0)
end Go.Proofs.YtoojpagpkbcfjaaGreat


/- Spans: what may be; and the readers' texts with it. -/


/- Spans: cmp.Compare, cmp.Or, slices.CompareFunc. -/
namespace Go.Proofs.YtoojpagpkbcfjaaGreat
open Go.RowKit

theorem cmpU (x y : Int) (w : World) : Calls Tryz.prog 60 #[.int .u64 x, .int .u64 y] w fun e w' => e = .returned (.int .i64 (cmpI x y)) ∧ w' = w := by
  by_cases h1 : x < y
  · rw [show cmpI x y = -1 from by rw [cmpI, if_pos h1]]
    go_enter Tryz.func60, Tryz.ntmps60
    go_wp2
    go_ret
    exact ⟨rfl, rfl⟩
  · by_cases h2 : y < x
    · rw [show cmpI x y = 1 from by rw [cmpI, if_neg h1, if_pos h2]]
      go_enter Tryz.func60, Tryz.ntmps60
      go_wp2
      go_ret
      exact ⟨rfl, rfl⟩
    · rw [show cmpI x y = 0 from by rw [cmpI, if_neg h1, if_neg h2]]
      go_enter Tryz.func60, Tryz.ntmps60
      go_wp2
      go_ret
      exact ⟨rfl, rfl⟩
theorem cmpStr (s t : ByteArray) (w : World) : Calls Tryz.prog 81 #[.string s, .string t] w fun e w' => e = .returned (.int .i64 (cmpS s t)) ∧ w' = w := by
  have n1 : (s.toList == s.toList) = true := by simp
  have n2 : (t.toList == t.toList) = true := by simp
  cases h1 : strLt s t with
  | true =>
    rw [show cmpS s t = -1 from by rw [cmpS, if_pos h1]]
    unfold strLt at h1
    go_enter Tryz.func81, Tryz.ntmps81
    go_wp2
    go_ret
    exact ⟨rfl, rfl⟩
  | false =>
    by_cases h2 : s = t
    · subst h2
      rw [show cmpS s s = 0 from by rw [cmpS, h1]; simp]
      unfold strLt at h1
      go_enter Tryz.func81, Tryz.ntmps81
      go_wp2
      go_ret
      exact ⟨rfl, rfl⟩
    · rw [show cmpS s t = 1 from by rw [cmpS, h1, if_neg h2]; simp]
      have h3 : (s.toList == t.toList) = false := by rw [strEq_of']; simpa using h2
      unfold strLt at h1
      go_enter Tryz.func81, Tryz.ntmps81
      go_wp2
      go_ret
      exact ⟨rfl, rfl⟩
set_option maxHeartbeats 400000 in
theorem cmpOr {l : List Int} {n g : Nat} (w : World) (hn : l.length = n) (hnl : n ≤ 1000) (hb : Bk w g 3 (l.map (Value.int .i64)).toArray) :
    Calls Tryz.prog 59 #[.slice (some ⟨g, 0, none⟩) n n] w fun e w' => e = .returned (.int .i64 (orL l)) ∧ w' = w := by
  have HN := Lib.hid hn
  have hget : ∀ j x, l[j]? = some x → w.cell? ⟨g, j, none⟩ = some (.int .i64 x) := fun j x h => by
    rw [hb.cell j, List.getElem?_toArray, List.getElem?_map, h]
    rfl
  have HG := Lib.hid hget
  obtain ⟨q, hq⟩ : ∃ q, orL l = q := ⟨_, rfl⟩
  rw [hq]
  have HQ := Lib.hid hq
  clear hn hget hq
  go_enter Tryz.func59, Tryz.ntmps59
  go_wp2
  go_loop [8] (fun i => ∃ j : Nat, j ≤ n ∧ i = .int .i64 j ∧ orL (l.drop j) = q) (fun i => n - (intOf i).toNat)
  case atStart => exact ⟨0, by omega, rfl, HQ.out⟩
  case round =>
    obtain ⟨j, hj, rfl, hd⟩ := hrel
    have HD := Lib.hid hd
    clear hd
    by_cases hlt : j < n
    · have hlt' : (j : Int) < (n : Int) := by omega
      obtain ⟨x, hx⟩ : ∃ x, l[j]? = some x := ⟨_, List.getElem?_eq_getElem (by rw [HN.out]; exact hlt)⟩
      have hc := HG.out j x hx
      have hd := orL_drop hx
      rw [HD.out] at hd
      have HX := Lib.hid hd
      clear hx hd
      by_cases h0 : x = 0
      · subst h0
        have hd := HX.out
        rw [if_neg (by simp)] at hd
        have HX2 := Lib.hid hd
        clear hd
        go_wp2
        go_round
        case rel => exact ⟨j + 1, by omega, by go_num, HX2.out.symm⟩
        case measure => simp [intOf]; omega
      · have hxb : (x != 0) = true := by simp [h0]
        have hd := HX.out
        rw [if_pos h0] at hd
        have HX2 := Lib.hid hd
        clear hd
        go_wp2
        go_ret
        exact ⟨by rw [HX2.out]; rfl, rfl⟩
    · have hlt' : decide ((j : Int) < (n : Int)) = false := by simp; omega
      go_wp2
      go_ret
      have : q = 0 := by
        rw [← HD.out, List.drop_eq_nil_of_le (by rw [HN.out]; omega)]
        rfl
      exact ⟨by rw [this]; rfl, rfl⟩
end Go.Proofs.YtoojpagpkbcfjaaGreat


/- cmp.Compare of int64, of int. -/
namespace Go.Proofs.YtoojpagpkbcfjaaGreat
open Go.RowKit
theorem cmpJ (x y : Int) (w : World) : Calls Tryz.prog 80 #[.int .i64 x, .int .i64 y] w fun e w' => e = .returned (.int .i64 (cmpI x y)) ∧ w' = w := by
  by_cases h1 : x < y
  · rw [show cmpI x y = -1 from by rw [cmpI, if_pos h1]]
    go_enter Tryz.func80, Tryz.ntmps80
    go_wp2
    go_ret
    exact ⟨rfl, rfl⟩
  · by_cases h2 : y < x
    · rw [show cmpI x y = 1 from by rw [cmpI, if_neg h1, if_pos h2]]
      go_enter Tryz.func80, Tryz.ntmps80
      go_wp2
      go_ret
      exact ⟨rfl, rfl⟩
    · rw [show cmpI x y = 0 from by rw [cmpI, if_neg h1, if_neg h2]]
      go_enter Tryz.func80, Tryz.ntmps80
      go_wp2
      go_ret
      exact ⟨rfl, rfl⟩
theorem cmpN' (x y : Int) (w : World) : Calls Tryz.prog 82 #[.int .i64 x, .int .i64 y] w fun e w' => e = .returned (.int .i64 (cmpI x y)) ∧ w' = w := by
  by_cases h1 : x < y
  · rw [show cmpI x y = -1 from by rw [cmpI, if_pos h1]]
    go_enter Tryz.func82, Tryz.ntmps82
    go_wp2
    go_ret
    exact ⟨rfl, rfl⟩
  · by_cases h2 : y < x
    · rw [show cmpI x y = 1 from by rw [cmpI, if_neg h1, if_pos h2]]
      go_enter Tryz.func82, Tryz.ntmps82
      go_wp2
      go_ret
      exact ⟨rfl, rfl⟩
    · rw [show cmpI x y = 0 from by rw [cmpI, if_neg h1, if_neg h2]]
      go_enter Tryz.func82, Tryz.ntmps82
      go_wp2
      go_ret
      exact ⟨rfl, rfl⟩
end Go.Proofs.YtoojpagpkbcfjaaGreat

