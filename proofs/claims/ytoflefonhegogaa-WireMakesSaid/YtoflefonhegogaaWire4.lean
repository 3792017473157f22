/- Contracts of ReadOrdered. -/
import Derived.Test.YtoflefonhegogaaWire3
namespace Go.Proofs.Ytoflefonhegogaa
open Go.RowKit

/-- A byte behind a number that was moved left. -/
theorem or_byte (v : Nat) (x : Int) (hv : v < 72057594037927936) (h0 : 0 ≤ x) (h1 : x ≤ 255) : bits .or .u64 ((v : Int) * 256) x = ((v * 256 + x.toNat : Nat) : Int) := by
  rw [u64_or _ _ (by omega) (by omega) h0 (by omega)]
  have e : ((v : Int) * 256).toNat = 2 ^ 8 * v := by omega
  rw [e, ← Nat.two_pow_add_eq_or_of_lt (show x.toNat < 2 ^ 8 from by omega) v]
  omega

/-- A slice too short. -/
theorem wireReadOrdered0 {A : Option Addr} {c n : Nat} (w : World) (h : n < 8) :
    Calls Try.prog 25 #[.slice A n c] w fun e w' => e = .returned (.tuple #[.int .u64 0, .int .i64 0, .int .i64 12]) ∧ w = w' := by
  go_enter Try.func25, Try.ntmps25
  go_wp2
  go_ret3
  exact ⟨rfl, rfl⟩
theorem refReadOrdered0 {A : Option Addr} {c n : Nat} (w : World) (h : n < 8) :
    Calls Try.prog 26 #[.slice A n c] w fun e w' => e = .returned (.tuple #[.int .u64 0, .int .i64 0, .int .i64 12]) ∧ w = w' := by
  go_enter Try.func26, Try.ntmps26
  go_wp2
  go_ret3
  exact ⟨rfl, rfl⟩

set_option maxHeartbeats 400000 in
theorem refReadOrdered1 {A : Option Addr} {c n B : Nat} {zs : List Int} (w : World) (ha : Rb w B A zs) (hz : Byt zs) (hl : zs.length ≤ maxLen) (h : 8 ≤ n) (hn : zs.length = n) :
    Calls Try.prog 26 #[.slice A n c] w fun e w' => e = .returned (.tuple #[.int .u64 (ordVal (zs.take 8)), .int .i64 8, .int .i64 0]) ∧ w = w' := by
  subst hn
  unfold maxLen at hl
  go_enter Try.func26, Try.ntmps26
  go_wp2
  go_loop [5, 6] (fun x i => ∃ (k : Nat) (v : Nat), k ≤ 8 ∧ i = .int .i64 k ∧ x = .int .u64 (v : Nat) ∧ v = ordVal (zs.take k)) (fun _ i => 8 - (intOf i).toNat)
  case atStart => exact ⟨0, 0, by omega, rfl, rfl, by simp [ordVal]⟩
  case round =>
    obtain ⟨k, v, hk, rfl, rfl, hv⟩ := hrel
    have hvb : v < 256 ^ k := by rw [hv]; exact ordVal_lt k _ (hz.take k) (by simp; omega)
    have HV := Lib.hid hv
    clear hv
    by_cases hlt : k < 8
    · obtain ⟨b, o, x, hx, rfl, hb, hcell⟩ := ha.get (k := k) (by omega)
      have hxb := hz.get hx
      have hvb' : v < 72057594037927936 := Nat.lt_of_lt_of_le hvb (show 256 ^ k ≤ 256 ^ 7 from Nat.pow_le_pow_right (by omega) (by omega))
      have HX := Lib.hid hx
      clear hx hvb
      go_wp2
      go_round
      case rel => exact ⟨k + 1, v * 256 + x.toNat, by omega, by go_num, congrArg (Value.int IntKind.u64) (by omega), by rw [take_snoc' HX.out, ordVal_snoc, ← HV.out]⟩
      case measure => simp [intOf]; omega
    · obtain rfl : k = 8 := by omega
      go_wp2
      go_ret3
      exact ⟨by rw [HV.out]; rfl, rfl⟩

set_option maxHeartbeats 400000 in
theorem wireReadOrdered1 {A : Option Addr} {c n B : Nat} {zs : List Int} (w : World) (ha : Rb w B A zs) (hz : Byt zs) (hl : zs.length ≤ maxLen) (h : 8 ≤ n) (hn : zs.length = n) (hc : n ≤ c) :
    Calls Try.prog 25 #[.slice A n c] w fun e w' => e = .returned (.tuple #[.int .u64 (ordVal (zs.take 8)), .int .i64 8, .int .i64 0]) ∧ w = w' := by
  subst hn
  unfold maxLen at hl
  obtain ⟨b, o, x0, hx0, rfl, hb0, hcell0⟩ := ha.get (k := 0) (by omega)
  clear hx0 hcell0
  go_enter Try.func25, Try.ntmps25
  go_wp2
  go_loop [2, 13] (fun x i => ∃ (k : Nat) (v : Nat), k ≤ 8 ∧ i = .int .i64 k ∧ x = .int .u64 (v : Nat) ∧ v = ordVal (zs.take k)) (fun _ i => 8 - (intOf i).toNat)
  case atStart => exact ⟨0, 0, by omega, rfl, rfl, by simp [ordVal]⟩
  case round =>
    obtain ⟨k, v, hk, rfl, rfl, hv⟩ := hrel
    have hvb : v < 256 ^ k := by rw [hv]; exact ordVal_lt k _ (hz.take k) (by simp; omega)
    have HV := Lib.hid hv
    clear hv
    by_cases hlt : k < 8
    · obtain ⟨b', o', x, hx, e1, hb, hcell⟩ := ha.get (k := k) (by omega)
      injection e1 with e1
      injection e1 with e1 e2
      subst e1 e2
      have hxb := hz.get hx
      have hvb' : v < 72057594037927936 := Nat.lt_of_lt_of_le hvb (show 256 ^ k ≤ 256 ^ 7 from Nat.pow_le_pow_right (by omega) (by omega))
      have HX := Lib.hid hx
      clear hx hvb
      go_wp2
      go_round
      case rel => exact ⟨k + 1, v * 256 + x.toNat, by omega, by go_num, congrArg (Value.int IntKind.u64) (or_byte v x hvb' hxb.1 hxb.2), by rw [take_snoc' HX.out, ordVal_snoc, ← HV.out]⟩
      case measure => simp [intOf]; omega
    · obtain rfl : k = 8 := by omega
      go_wp2
      go_ret3
      exact ⟨by rw [HV.out]; rfl, rfl⟩

/-- What a reader of texts in order returns. -/
def TxtRet (w : World) (r : (List Int × Nat) ⊕ Nat) (e : Ending) (w' : World) : Prop :=
  (match r with
   | .inl (out, i) => e = .returned (.tuple #[.string (strOfNums out), .int .i64 i, .int .i64 0])
   | .inr n => e = .returned (.tuple #[.string ByteArray.empty, .int .i64 0, .int .i64 n])) ∧ Below w.heap.size w w'
theorem TxtRet.ok {w w' : World} {r : (List Int × Nat) ⊕ Nat} {out : List Int} {i : Nat} {e : Ending} (h : r = .inl (out, i)) (he : e = .returned (.tuple #[.string (strOfNums out), .int .i64 i, .int .i64 0])) (hb : Below w.heap.size w w') : TxtRet w r e w' := by subst h; exact ⟨he, hb⟩
theorem TxtRet.no {w w' : World} {r : (List Int × Nat) ⊕ Nat} {n : Nat} {e : Ending} (h : r = .inr n) (he : e = .returned (.tuple #[.string ByteArray.empty, .int .i64 0, .int .i64 n])) (hb : Below w.heap.size w w') : TxtRet w r e w' := by subst h; exact ⟨he, hb⟩

set_option maxHeartbeats 1600000 in
theorem wireReadOrderedText {A : Option Addr} {c n B : Nat} {zs : List Int} (w : World) (ha : Rb w B A zs) (hB : B ≤ w.heap.size) (hz : Byt zs) (hl : zs.length ≤ 1099511627776) (hn : zs.length = n) :
    Calls Try.prog 27 #[.slice A n c] w (TxtRet w (txtOf zs)) := by
  subst hn
  go_enter Try.func27, Try.ntmps27
  go_wp2
  go_loopw [5, 6] (fun v i wr => ∃ (A' : Option Addr) (c' k : Nat) (ys : List Int), k ≤ zs.length ∧ v = .slice A' ys.length c' ∧ i = .int .i64 k ∧ App w.heap.size 5 1 w (.slice none 0 0) wr (.slice A' ys.length c') ys.length (bv ys) ∧ ys.length ≤ k ∧ txtR zs k ys = txtOf zs) (fun _ i _ => zs.length - (intOf i).toNat)
  case atStart => exact ⟨none, 0, 0, [], by omega, rfl, rfl, App.refl (World.ownsRow_nil _ _ _ _), by simp, rfl⟩
  case round =>
    obtain ⟨A', c', k, ys, hk, rfl, rfl, happ, hyk, hys⟩ := hrel
    have HY := Lib.hid hys
    clear hys
    have hbel := happ.below0
    by_cases hlt : k < zs.length
    · obtain ⟨b, o, x, hx, rfl, hb, hcell⟩ := ha.get hlt
      have hcell1 := (hbel.cell (p := ⟨b, o + k, none⟩) (by show b < _; omega)).trans hcell
      clear hcell
      have hxb := hz.get hx
      have HX := Lib.hid hx
      clear hx
      by_cases h0 : x = 0
      · subst h0
        by_cases hk1 : k + 1 = zs.length
        · have hk1b : (((k : Nat) : Int) + 1 == ((zs.length : Nat) : Int)) = true := by rw [beq_iff_eq]; omega
          have HK := Lib.hid hk1
          clear hk1
          go_wp2
          go_ret3
          exact .no (HY.out.symm.trans (txtR_more HX.out HK.out)) rfl hbel
        · have hk1b : (((k : Nat) : Int) + 1 == ((zs.length : Nat) : Int)) = false := by rw [beq_eq_false_iff_ne]; omega
          obtain ⟨b', o', y, hy, e1, _, hcell⟩ := ha.get (k := k + 1) (by omega)
          injection e1 with e1
          injection e1 with e1 e2
          subst e1 e2
          have hcell2 := (hbel.cell (p := ⟨b, o + (k + 1), none⟩) (by show b < _; omega)).trans hcell
          clear hcell
          have hyb := hz.get hy
          have hk1c : k + 1 < zs.length := by omega
          have HY1 := Lib.hid hy
          clear hy hk1
          have hconv := Rb.str (P := Try.prog) (Rd.of_own happ.own) Try.underlying22 Try.underlying5 Try.underlying9 c'
          by_cases hy1 : y = 1
          · subst hy1
            go_wp2
            go_ret3
            exact .ok (HY.out.symm.trans (txtR_end HX.out HY1.out)) rfl hbel
          · have hy1b : (y == 1) = false := by simp [hy1]
            by_cases hy2 : y = 255
            · subst hy2
              go_wp2_with (at_builtin; go_loud (refine wpList_appb _ rfl (.tmp 48) (.tmp 49) rfl w.heap.size _ _ ys rfl (happ.own.alloc _) _ _ 1 1 [0] rfl rfl (Rd.lit _ _ _) (by omega) (by have := happ.heap; simp; omega) ?_))
              intro A2 c2 w2 h2 hne2
              go_wp2
              go_roundw
              case rel =>
                have e : ys.length + 1 = (ys ++ [0]).length := by simp
                rw [e] at h2
                exact ⟨A2, c2, k + 2, ys ++ [0], by omega, by rw [← e], by go_num, (happ.alloc _).trans h2, by simp; omega, by rw [← HY.out]; exact (txtR_zero HX.out HY1.out).symm⟩
              case measure => simp [intOf]; omega
            · have hy2b : (y == 255) = false := by simp [hy2]
              have hy2c : (y != 255) = true := by simp [hy2]
              go_wp2
              go_ret3
              exact .no (HY.out.symm.trans (txtR_bad HX.out HY1.out hy1 hy2)) rfl hbel
      · have hne : (x != 0) = true := by simp [h0]
        go_wp2_with (at_builtin; go_loud (refine wpList_appb _ rfl (.tmp 18) (.tmp 23) rfl w.heap.size _ _ ys rfl (happ.own.alloc _) _ _ 1 1 [x] rfl rfl (Rd.lit _ _ _) (by omega) (by have := happ.heap; simp; omega) ?_))
        intro A2 c2 w2 h2 hne2
        go_wp2
        go_roundw
        case rel =>
          have e : ys.length + 1 = (ys ++ [x]).length := by simp
          rw [e] at h2
          exact ⟨A2, c2, k + 1, ys ++ [x], by omega, by rw [← e], by go_num, (happ.alloc _).trans h2, by simp; omega, by rw [← HY.out]; exact (txtR_x HX.out h0).symm⟩
        case measure => simp [intOf]; omega
    · go_wp2
      go_ret3
      exact .no (HY.out.symm.trans (txtR_over (by omega))) rfl hbel

set_option maxHeartbeats 1600000 in
theorem refReadOrderedText {A : Option Addr} {c n B : Nat} {zs : List Int} (w : World) (ha : Rb w B A zs) (hB : B ≤ w.heap.size) (hz : Byt zs) (hl : zs.length ≤ 1099511627776) (hn : zs.length = n) :
    Calls Try.prog 28 #[.slice A n c] w (TxtRet w (txtOf zs)) := by
  subst hn
  go_enter Try.func28, Try.ntmps28
  go_wp2
  go_loopw [5, 6] (fun v i wr => ∃ (A' : Option Addr) (c' k : Nat) (ys : List Int), k ≤ zs.length ∧ v = .slice A' ys.length c' ∧ i = .int .i64 k ∧ App w.heap.size 5 1 w (.slice none 0 0) wr (.slice A' ys.length c') ys.length (bv ys) ∧ ys.length ≤ k ∧ txtR zs k ys = txtOf zs) (fun _ i _ => zs.length - (intOf i).toNat)
  case atStart => exact ⟨none, 0, 0, [], by omega, rfl, rfl, App.refl (World.ownsRow_nil _ _ _ _), by simp, rfl⟩
  case round =>
    obtain ⟨A', c', k, ys, hk, rfl, rfl, happ, hyk, hys⟩ := hrel
    have HY := Lib.hid hys
    clear hys
    have hbel := happ.below0
    by_cases hlt : k < zs.length
    · obtain ⟨b, o, x, hx, rfl, hb, hcell⟩ := ha.get hlt
      have hcell1 := (hbel.cell (p := ⟨b, o + k, none⟩) (by show b < _; omega)).trans hcell
      clear hcell
      have hxb := hz.get hx
      have HX := Lib.hid hx
      clear hx
      by_cases h0 : x = 0
      · subst h0
        by_cases hk1 : k + 1 = zs.length
        · have hk1b : (((k : Nat) : Int) + 1 == ((zs.length : Nat) : Int)) = true := by rw [beq_iff_eq]; omega
          have HK := Lib.hid hk1
          clear hk1
          go_wp2
          go_ret3
          exact .no (HY.out.symm.trans (txtR_more HX.out HK.out)) rfl hbel
        · have hk1b : (((k : Nat) : Int) + 1 == ((zs.length : Nat) : Int)) = false := by rw [beq_eq_false_iff_ne]; omega
          obtain ⟨b', o', y, hy, e1, _, hcell⟩ := ha.get (k := k + 1) (by omega)
          injection e1 with e1
          injection e1 with e1 e2
          subst e1 e2
          have hcell2 := (hbel.cell (p := ⟨b, o + (k + 1), none⟩) (by show b < _; omega)).trans hcell
          clear hcell
          have hyb := hz.get hy
          have hk1c : k + 1 < zs.length := by omega
          have HY1 := Lib.hid hy
          clear hy hk1
          have hconv := Rb.str (P := Try.prog) (Rd.of_own happ.own) Try.underlying22 Try.underlying5 Try.underlying9 c'
          by_cases hy1 : y = 1
          · subst hy1
            go_wp2
            go_ret3
            exact .ok (HY.out.symm.trans (txtR_end HX.out HY1.out)) rfl hbel
          · have hy1b : (y == 1) = false := by simp [hy1]
            by_cases hy2 : y = 255
            · subst hy2
              go_wp2_with (at_builtin; go_loud (refine wpList_appb _ rfl (.tmp 43) (.tmp 44) rfl w.heap.size _ _ ys rfl (happ.own.alloc _) _ _ 1 1 [0] rfl rfl (Rd.lit _ _ _) (by omega) (by have := happ.heap; simp; omega) ?_))
              intro A2 c2 w2 h2 hne2
              go_wp2
              go_roundw
              case rel =>
                have e : ys.length + 1 = (ys ++ [0]).length := by simp
                rw [e] at h2
                exact ⟨A2, c2, k + 2, ys ++ [0], by omega, by rw [← e], by go_num, (happ.alloc _).trans h2, by simp; omega, by rw [← HY.out]; exact (txtR_zero HX.out HY1.out).symm⟩
              case measure => simp [intOf]; omega
            · have hy2b : (y == 255) = false := by simp [hy2]
              have hy2c : (y != 255) = true := by simp [hy2]
              go_wp2
              go_ret3
              exact .no (HY.out.symm.trans (txtR_bad HX.out HY1.out hy1 hy2)) rfl hbel
      · have hne : (x != 0) = true := by simp [h0]
        go_wp2_with (at_builtin; go_loud (refine wpList_appb _ rfl (.tmp 18) (.tmp 23) rfl w.heap.size _ _ ys rfl (happ.own.alloc _) _ _ 1 1 [x] rfl rfl (Rd.lit _ _ _) (by omega) (by have := happ.heap; simp; omega) ?_))
        intro A2 c2 w2 h2 hne2
        go_wp2
        go_roundw
        case rel =>
          have e : ys.length + 1 = (ys ++ [x]).length := by simp
          rw [e] at h2
          exact ⟨A2, c2, k + 1, ys ++ [x], by omega, by rw [← e], by go_num, (happ.alloc _).trans h2, by simp; omega, by rw [← HY.out]; exact (txtR_x HX.out h0).symm⟩
        case measure => simp [intOf]; omega
    · go_wp2
      go_ret3
      exact .no (HY.out.symm.trans (txtR_over (by omega))) rfl hbel
end Go.Proofs.Ytoflefonhegogaa
