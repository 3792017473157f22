/- Texts of the proof of AdjustTreeSaid, joined: Rdr2 Clone Rdr3 Rdr4 SpM SpG0 SpG SpH. -/
import Derived.Test.YtchpekidnbdpdaaJAdjustTree2
import Derived.StillTailTactics
import Derived.Test.YtchpekidnbdpdaaJAdjustTree1
import Derived.Deep.Cut
import Derived.Deep.RegionHeld3
import Derived.Deep.QuietTactic
/- Contracts of wire's reader: the methods. -/
namespace Go.Proofs.Ytchpekidnbdpdaa
open Go.RowKit

section
variable {w w' : World} {g c p e : Nat} {A : Option Addr} {zs : List Int}
theorem Rd.setfar {B : Nat} {xs : List Value} (h : Rd w B A xs) {q : Addr} (hq : ∀ a, A = some a → a.block ≠ q.block) (u : Value) : Rd (w.setCell q u) B A xs := fun hn => by
  obtain ⟨b, o, rfl, hb, hc⟩ := h hn
  exact ⟨b, o, rfl, hb, fun j v hv => (World.cell?_setCell_other w q ⟨b, o + j, none⟩ u (fun e => hq _ rfl (by subst e; rfl))).trans (hc j v hv)⟩
end
/-- The state behind a call of Number: the number, the place, the error. -/
def rdNum (zs : List Int) (p e : Nat) : Nat × Nat × Nat := if e ≠ 0 then (0, p, e) else ((shortOf (zs.drop p)).1, p + (shortOf (zs.drop p)).2.1, (shortOf (zs.drop p)).2.2)
theorem shortOf_le {zs : List Int} (hz : Byt zs) : (shortOf zs).2.1 ≤ zs.length ∧ (shortOf zs).2.2 ≤ 12 := by
  rcases shortOf_err zs with h | h | h
  · have := shortOf_ok hz (y := (shortOf zs).1) (n := (shortOf zs).2.1) (by rw [← h])
    omega
  · rw [h]; simp
  · rw [h]; simp
theorem only_set {w w' : World} {g : Nat} (h : w.grownBy w' (some g)) (o : Nat) (u : Value) : w.grownBy (w'.setCell ⟨g, o, none⟩ u) (some g) :=
  ⟨h.os, h.tape, h.output, by simpa [World.setCell] using h.size, fun i hi hne => (Below.heap_setCell w' _ u i (by rintro rfl; exact hne rfl)).trans (h.block i hi hne)⟩
theorem only_drewN {w w' : World} {r : Option Nat} (h : w.grownBy w' r) (k : Nat) : w.grownBy (w'.drewN k) r := ⟨h.os, h.tape, h.output, h.size, h.block⟩

theorem cast_add (a b : Nat) : ((a : Int) + (b : Int)) = ((a + b : Nat) : Int) := by omega
theorem shortOf_drop {zs : List Int} (hz : Byt zs) {p x m er : Nat} (hp : p ≤ zs.length) (hs : shortOf (zs.drop p) = (x, m, er)) : p + m ≤ zs.length ∧ er ≤ 12 ∧ x < 18446744073709551616 ∧ (er ≠ 0 → x = 0 ∧ m = 0) := by
  have h := shortOf_le (hz.drop p)
  rw [hs, List.length_drop] at h
  simp only at h
  refine ⟨by omega, h.2, ?_, ?_⟩
  · rcases shortOf_err (zs.drop p) with e | e | e
    · rw [hs] at e
      simp at e
      subst e
      exact (shortOf_ok (hz.drop p) hs).2.2
    · rw [hs] at e; simp at e; omega
    · rw [hs] at e; simp at e; omega
  · intro hne
    rcases shortOf_err (zs.drop p) with e | e | e
    · rw [hs] at e; exact absurd e hne
    · rw [hs] at e; simp at e; omega
    · rw [hs] at e; simp at e; omega

end Go.Proofs.Ytchpekidnbdpdaa


/- The contract of bytes.Clone. -/
namespace Go.Proofs.Ytchpekidnbdpdaa
open Go.RowKit

end Go.Proofs.Ytchpekidnbdpdaa


/- Contracts of wire's reader: Fixed, Piece. -/
namespace Go.Proofs.Ytchpekidnbdpdaa
open Go.RowKit

/-- The state behind a call of Fixed: the bytes, the place, the error. -/
def rdFix (zs : List Int) (p e n : Nat) : List Int × Nat × Nat := if e ≠ 0 then ([], p, e) else if zs.length - p < n then ([], p, 12) else ((zs.drop p).take n, p + n, 0)
end Go.Proofs.Ytchpekidnbdpdaa


/- Contracts of wire's reader: Piece. -/
namespace Go.Proofs.Ytchpekidnbdpdaa
open Go.RowKit

def rdPiece (zs : List Int) (p e : Nat) : List Int × Nat × Nat :=
  if e ≠ 0 then ([], p, e)
  else if (shortOf (zs.drop p)).2.2 ≠ 0 then ([], p, (shortOf (zs.drop p)).2.2)
  else if 1048576 < (shortOf (zs.drop p)).1 then ([], p, 3)
  else if zs.length - (p + (shortOf (zs.drop p)).2.1) < (shortOf (zs.drop p)).1 then ([], p, 12)
  else ((zs.drop (p + (shortOf (zs.drop p)).2.1)).take (shortOf (zs.drop p)).1, p + (shortOf (zs.drop p)).2.1 + (shortOf (zs.drop p)).1, 0)
end Go.Proofs.Ytchpekidnbdpdaa


/- Spans: what may be; and the readers' texts with it. -/


/- Spans: cmp.Compare, cmp.Or, slices.CompareFunc. -/
namespace Go.Proofs.Ytchpekidnbdpdaa
open Go.RowKit

theorem cmpU (x y : Int) (w : World) : Calls Try.prog 37 #[.int .u64 x, .int .u64 y] w fun e w' => e = .returned (.int .i64 (cmpI x y)) ∧ w' = w := by
  by_cases h1 : x < y
  · rw [show cmpI x y = -1 from by rw [cmpI, if_pos h1]]
    go_enter Try.func37, Try.ntmps37
    go_wp2
    go_ret
    exact ⟨rfl, rfl⟩
  · by_cases h2 : y < x
    · rw [show cmpI x y = 1 from by rw [cmpI, if_neg h1, if_pos h2]]
      go_enter Try.func37, Try.ntmps37
      go_wp2
      go_ret
      exact ⟨rfl, rfl⟩
    · rw [show cmpI x y = 0 from by rw [cmpI, if_neg h1, if_neg h2]]
      go_enter Try.func37, Try.ntmps37
      go_wp2
      go_ret
      exact ⟨rfl, rfl⟩
theorem cmpStr (s t : ByteArray) (w : World) : Calls Try.prog 60 #[.string s, .string t] w fun e w' => e = .returned (.int .i64 (cmpS s t)) ∧ w' = w := by
  have n1 : (s.toList == s.toList) = true := by simp
  have n2 : (t.toList == t.toList) = true := by simp
  cases h1 : strLt s t with
  | true =>
    rw [show cmpS s t = -1 from by rw [cmpS, if_pos h1]]
    unfold strLt at h1
    go_enter Try.func60, Try.ntmps60
    go_wp2
    go_ret
    exact ⟨rfl, rfl⟩
  | false =>
    by_cases h2 : s = t
    · subst h2
      rw [show cmpS s s = 0 from by rw [cmpS, h1]; simp]
      unfold strLt at h1
      go_enter Try.func60, Try.ntmps60
      go_wp2
      go_ret
      exact ⟨rfl, rfl⟩
    · rw [show cmpS s t = 1 from by rw [cmpS, h1, if_neg h2]; simp]
      have h3 : (s.toList == t.toList) = false := by rw [strEq_of']; simpa using h2
      unfold strLt at h1
      go_enter Try.func60, Try.ntmps60
      go_wp2
      go_ret
      exact ⟨rfl, rfl⟩
set_option maxHeartbeats 400000 in
theorem cmpOr {l : List Int} {n g : Nat} (w : World) (hn : l.length = n) (hnl : n ≤ 1000) (hb : Bk w g 3 (l.map (Value.int .i64)).toArray) :
    Calls Try.prog 36 #[.slice (some ⟨g, 0, none⟩) n n] w fun e w' => e = .returned (.int .i64 (orL l)) ∧ w' = w := by
  have HN := Lib.hid hn
  have hget : ∀ j x, l[j]? = some x → w.cell? ⟨g, j, none⟩ = some (.int .i64 x) := fun j x h => by
    rw [hb.cell j, List.getElem?_toArray, List.getElem?_map, h]
    rfl
  have HG := Lib.hid hget
  obtain ⟨q, hq⟩ : ∃ q, orL l = q := ⟨_, rfl⟩
  rw [hq]
  have HQ := Lib.hid hq
  clear hn hget hq
  go_enter Try.func36, Try.ntmps36
  go_wp2
  go_loop [8] (fun i => ∃ j : Nat, j ≤ n ∧ i = .int .i64 j ∧ orL (l.drop j) = q) (fun i => n - (intOf i).toNat)
  case atStart => exact ⟨0, by omega, rfl, HQ.out⟩
  case round =>
    obtain ⟨j, hj, rfl, hd⟩ := hrel
    have HD := Lib.hid hd
    clear hd
    by_cases hlt : j < n
    · have hlt' : (j : Int) < (n : Int) := by omega
      obtain ⟨x, hx⟩ : ∃ x, l[j]? = some x := ⟨_, List.getElem?_eq_getElem (by rw [HN.out]; exact hlt)⟩
      have hc := HG.out j x hx
      have hd := orL_drop hx
      rw [HD.out] at hd
      have HX := Lib.hid hd
      clear hx hd
      by_cases h0 : x = 0
      · subst h0
        have hd := HX.out
        rw [if_neg (by simp)] at hd
        have HX2 := Lib.hid hd
        clear hd
        go_wp2
        go_round
        case rel => exact ⟨j + 1, by omega, by go_num, HX2.out.symm⟩
        case measure => simp [intOf]; omega
      · have hxb : (x != 0) = true := by simp [h0]
        have hd := HX.out
        rw [if_pos h0] at hd
        have HX2 := Lib.hid hd
        clear hd
        go_wp2
        go_ret
        exact ⟨by rw [HX2.out]; rfl, rfl⟩
    · have hlt' : decide ((j : Int) < (n : Int)) = false := by simp; omega
      go_wp2
      go_ret
      have : q = 0 := by
        rw [← HD.out, List.drop_eq_nil_of_le (by rw [HN.out]; omega)]
        rfl
      exact ⟨by rw [this]; rfl, rfl⟩
end Go.Proofs.Ytchpekidnbdpdaa


/- cmp.Compare of int64, of int. -/
namespace Go.Proofs.Ytchpekidnbdpdaa
open Go.RowKit
theorem cmpJ (x y : Int) (w : World) : Calls Try.prog 59 #[.int .i64 x, .int .i64 y] w fun e w' => e = .returned (.int .i64 (cmpI x y)) ∧ w' = w := by
  by_cases h1 : x < y
  · rw [show cmpI x y = -1 from by rw [cmpI, if_pos h1]]
    go_enter Try.func59, Try.ntmps59
    go_wp2
    go_ret
    exact ⟨rfl, rfl⟩
  · by_cases h2 : y < x
    · rw [show cmpI x y = 1 from by rw [cmpI, if_neg h1, if_pos h2]]
      go_enter Try.func59, Try.ntmps59
      go_wp2
      go_ret
      exact ⟨rfl, rfl⟩
    · rw [show cmpI x y = 0 from by rw [cmpI, if_neg h1, if_neg h2]]
      go_enter Try.func59, Try.ntmps59
      go_wp2
      go_ret
      exact ⟨rfl, rfl⟩
theorem cmpN' (x y : Int) (w : World) : Calls Try.prog 61 #[.int .i64 x, .int .i64 y] w fun e w' => e = .returned (.int .i64 (cmpI x y)) ∧ w' = w := by
  by_cases h1 : x < y
  · rw [show cmpI x y = -1 from by rw [cmpI, if_pos h1]]
    go_enter Try.func61, Try.ntmps61
    go_wp2
    go_ret
    exact ⟨rfl, rfl⟩
  · by_cases h2 : y < x
    · rw [show cmpI x y = 1 from by rw [cmpI, if_neg h1, if_pos h2]]
      go_enter Try.func61, Try.ntmps61
      go_wp2
      go_ret
      exact ⟨rfl, rfl⟩
    · rw [show cmpI x y = 0 from by rw [cmpI, if_neg h1, if_neg h2]]
      go_enter Try.func61, Try.ntmps61
      go_wp2
      go_ret
      exact ⟨rfl, rfl⟩
end Go.Proofs.Ytchpekidnbdpdaa


/- Spans: compareTraces, compareTags, slices.CompareFunc of tags. -/
namespace Go.Proofs.Ytchpekidnbdpdaa
open Go.RowKit

set_option maxRecDepth 100000 in
set_option maxHeartbeats 2000000 in
theorem spCmpTraces (h1 l1 h2 l2 : Int) (w : World) :
    Calls Try.prog 58 #[.agg #[.int .u64 h1, .int .u64 l1], .agg #[.int .u64 h2, .int .u64 l2]] w fun e w' => e = .returned (.int .i64 (cmpTr h1 l1 h2 l2)) ∧ Below w.heap.size w w' := by
  have b1 := (Bk.new w 29 #[.int .u64 h1, .int .u64 l1]).alloc (.cells #[.int .u64 h2, .int .u64 l2] 29)
  have b2 := Bk.new (w.alloc (.cells #[.int .u64 h1, .int .u64 l1] 29)) 29 #[.int .u64 h2, .int .u64 l2]
  rw [World.size_alloc] at b2
  have hb0 : Below w.heap.size w ((w.alloc (.cells #[.int .u64 h1, .int .u64 l1] 29)).alloc (.cells #[.int .u64 h2, .int .u64 l2] 29)) := ((Below.refl _ w).alloc (Nat.le_refl _) _).alloc (by simp) _
  obtain ⟨W, hW⟩ : ∃ W, (w.alloc (.cells #[.int .u64 h1, .int .u64 l1] 29)).alloc (.cells #[.int .u64 h2, .int .u64 l2] 29) = W := ⟨_, rfl⟩
  rw [hW] at b1 b2 hb0
  have HW := Lib.hid hW
  obtain ⟨g, hg⟩ : ∃ g, w.heap.size = g := ⟨_, rfl⟩
  rw [hg] at b1 b2
  have HG := Lib.hid hg
  have k10 : W.cell? ⟨g, 0, none⟩ = some (.int .u64 h1) := b1.cell 0
  have k11 : W.cell? ⟨g, 1, none⟩ = some (.int .u64 l1) := b1.cell 1
  have k20 : W.cell? ⟨g + 1, 0, none⟩ = some (.int .u64 h2) := b2.cell 0
  have k21 : W.cell? ⟨g + 1, 1, none⟩ = some (.int .u64 l2) := b2.cell 1
  have hsz := hb0.size
  obtain ⟨c1, hc1⟩ : ∃ c, cmpI h1 h2 = c := ⟨_, rfl⟩
  obtain ⟨c2, hc2⟩ : ∃ c, cmpI l1 l2 = c := ⟨_, rfl⟩
  have u1 := fun w => cmpU h1 h2 w
  rw [hc1] at u1
  have u2 := fun w => cmpU l1 l2 w
  rw [hc2] at u2
  have hres : cmpTr h1 l1 h2 l2 = orL [c1, c2] := by rw [cmpTr, hc1, hc2]
  obtain ⟨q, hq⟩ : ∃ q, orL [c1, c2] = q := ⟨_, rfl⟩
  rw [hres, hq]
  have HQ := Lib.hid hq
  have HB := Lib.hid hb0
  have bo := (Bk.new W 3 #[.int .i64 c1, .int .i64 c2]).drew
  have hor := cmpOr (l := [c1, c2]) (n := 2) _ rfl (by decide) bo
  rw [hq] at hor
  have HOR := Lib.hid hor
  clear hor hW hg b1 b2 hc1 hc2 hres hq hb0
  go_enter Try.func58, Try.ntmps58
  go_upto_region 1 with fail
  rw [HW.out, HG.out]
  go_region_held3 (fun w' => w'.cell? ⟨g, 0, none⟩ = some (.int .u64 h1) ∧ w'.cell? ⟨g, 1, none⟩ = some (.int .u64 l1) ∧ w'.cell? ⟨g + 1, 0, none⟩ = some (.int .u64 h2) ∧ w'.cell? ⟨g + 1, 1, none⟩ = some (.int .u64 l2))
    (go_keep)
    (first
      | (go_at_call_of 37 (Value.int .u64 h1)
         refine (u1 _).mono ?_
         rintro e w' ⟨rfl, hw⟩
         rw [hw]
         clear hw w')
      | (go_at_call_of 37 (Value.int .u64 l1)
         refine (u2 _).mono ?_
         rintro e w' ⟨rfl, hw⟩
         rw [hw]
         clear hw w')
      | (go_at_call 36
         refine HOR.out.mono ?_
         rintro e w' ⟨rfl, hw⟩
         rw [hw]
         clear hw w')
      | fail)
  all_goals
    go_wp2
    go_ret
    exact ⟨rfl, (below_drewN (HB.out.alloc hsz (.cells #[.int .i64 c1, .int .i64 c2] 3)) 1)⟩
set_option maxRecDepth 100000 in
set_option maxHeartbeats 2000000 in
theorem spCmpTags (a b : Tg) (w : World) :
    Calls Try.prog 64 #[.agg #[.string a.key, .string a.val], .agg #[.string b.key, .string b.val]] w fun e w' => e = .returned (.int .i64 (cmpTg a b)) ∧ Below w.heap.size w w' := by
  obtain ⟨h1, l1⟩ := a
  obtain ⟨h2, l2⟩ := b
  simp only
  have b1 := (Bk.new w 80 #[.string h1, .string l1]).alloc (.cells #[.string h2, .string l2] 80)
  have b2 := Bk.new (w.alloc (.cells #[.string h1, .string l1] 80)) 80 #[.string h2, .string l2]
  rw [World.size_alloc] at b2
  have hb0 : Below w.heap.size w ((w.alloc (.cells #[.string h1, .string l1] 80)).alloc (.cells #[.string h2, .string l2] 80)) := ((Below.refl _ w).alloc (Nat.le_refl _) _).alloc (by simp) _
  obtain ⟨W, hW⟩ : ∃ W, (w.alloc (.cells #[.string h1, .string l1] 80)).alloc (.cells #[.string h2, .string l2] 80) = W := ⟨_, rfl⟩
  rw [hW] at b1 b2 hb0
  have HW := Lib.hid hW
  obtain ⟨g, hg⟩ : ∃ g, w.heap.size = g := ⟨_, rfl⟩
  rw [hg] at b1 b2
  have HG := Lib.hid hg
  have k10 : W.cell? ⟨g, 0, none⟩ = some (.string h1) := b1.cell 0
  have k11 : W.cell? ⟨g, 1, none⟩ = some (.string l1) := b1.cell 1
  have k20 : W.cell? ⟨g + 1, 0, none⟩ = some (.string h2) := b2.cell 0
  have k21 : W.cell? ⟨g + 1, 1, none⟩ = some (.string l2) := b2.cell 1
  have hsz := hb0.size
  obtain ⟨c1, hc1⟩ : ∃ c, cmpS h1 h2 = c := ⟨_, rfl⟩
  obtain ⟨c2, hc2⟩ : ∃ c, cmpS l1 l2 = c := ⟨_, rfl⟩
  have u1 := fun w => cmpStr h1 h2 w
  rw [hc1] at u1
  have u2 := fun w => cmpStr l1 l2 w
  rw [hc2] at u2
  have hres : cmpTg ⟨h1, l1⟩ ⟨h2, l2⟩ = orL [c1, c2] := by rw [cmpTg, hc1, hc2]
  obtain ⟨q, hq⟩ : ∃ q, orL [c1, c2] = q := ⟨_, rfl⟩
  rw [hres, hq]
  have HQ := Lib.hid hq
  have HB := Lib.hid hb0
  have bo := (Bk.new W 3 #[.int .i64 c1, .int .i64 c2]).drew
  have hor := cmpOr (l := [c1, c2]) (n := 2) _ rfl (by decide) bo
  rw [hq] at hor
  have HOR := Lib.hid hor
  clear hor hW hg b1 b2 hc1 hc2 hres hq hb0
  go_enter Try.func64, Try.ntmps64
  go_upto_region 1 with fail
  rw [HW.out, HG.out]
  go_region_held3 (fun w' => w'.cell? ⟨g, 0, none⟩ = some (.string h1) ∧ w'.cell? ⟨g, 1, none⟩ = some (.string l1) ∧ w'.cell? ⟨g + 1, 0, none⟩ = some (.string h2) ∧ w'.cell? ⟨g + 1, 1, none⟩ = some (.string l2))
    (go_keep)
    (first
      | (go_at_call_of 60 (Value.string h1)
         refine (u1 _).mono ?_
         rintro e w' ⟨rfl, hw⟩
         rw [hw]
         clear hw w')
      | (go_at_call_of 60 (Value.string l1)
         refine (u2 _).mono ?_
         rintro e w' ⟨rfl, hw⟩
         rw [hw]
         clear hw w')
      | (go_at_call 36
         refine HOR.out.mono ?_
         rintro e w' ⟨rfl, hw⟩
         rw [hw]
         clear hw w')
      | fail)
  all_goals
    go_wp2
    go_ret
    exact ⟨rfl, (below_drewN (HB.out.alloc hsz (.cells #[.int .i64 c1, .int .i64 c2] 3)) 1)⟩
end Go.Proofs.Ytchpekidnbdpdaa

