/- deps: the examples that each statement of layer 24 asks first: 'lives' answers true. -/
import Derived.Laws.ResultCell
import Derived.Test.YthaiplhjekkooaaDeO
import Derived.Test.YthaiplhjekkooaaDeP
import Derived.Test.YthaiplhjekkooaaDeQ
namespace Go.Proofs.Ythaiplhjekkooaa
open Go.RowKit

set_option maxRecDepth 100000 in
theorem lawEdge (e : Ed) (w : World) : Calls Try.prog 23 #[.int .u64 e.b, .string e.f, .string e.t, .int .u64 e.n] w fun en w' => en = .returned (edV e) ∧ Below w.heap.size w w' := by
  go_enter Try.func23, Try.ntmps23
  go_wp2
  refine bodyPost_ret (results_cell_row rfl _ _ w.heap.size 47 (edA e) (0, 0) _ rfl ?_ Try.underlying47 rfl ?_) rfl ?_
  · show (w.alloc _).heap[w.heap.size]? = _
    rw [heap_alloc_new]
  · rfl
  · exact ⟨rfl, (Below.refl _ w).alloc (Nat.le_refl _) _⟩
/-- The law's span. -/
def lawA (id up : Nat) (service : ByteArray) (start : Int) : Ad := ⟨⟨0, 1, id, up, service, ⟨#[120]⟩, 0, start, 0, false, []⟩, up, 0, 0⟩
set_option maxRecDepth 100000 in
theorem lawSp (id up : Nat) (service : ByteArray) (start : Int) (w : World) : Calls Try.prog 43 #[.int .u64 id, .int .u64 up, .string service, .int .i64 start] w fun en w' => en = .returned (adV (lawA id up service start) none 0 0) ∧ Below w.heap.size w w' := by
  go_enter Try.func43, Try.ntmps43
  go_wp2
  refine bodyPost_ret (results_cell_row rfl _ _ w.heap.size 45 (adC (lawA id up service start) none 0 0) (0, 0) _ rfl ?_ Try.underlying45 rfl ?_) rfl ?_
  · show (w.alloc _).heap[w.heap.size]? = _
    rw [heap_alloc_new]
    rfl
  · rfl
  · exact ⟨rfl, (Below.refl _ w).alloc (Nat.le_refl _) _⟩
def exE (id up : Nat) (service : ByteArray) (start : Int) : AE := ⟨lawA id up service start, none, 0, 0⟩
def exL : List AE := [exE 1 0 ⟨#[97]⟩ 0, exE 2 1 ⟨#[98]⟩ 5, exE 3 1 ⟨#[98]⟩ 12, exE 4 2 ⟨#[98]⟩ 6]
set_option maxRecDepth 100000 in
theorem lawExample (w : World) : Calls Try.prog 22 #[] w fun en w' => ∃ b c, en = .returned (.slice (some ⟨b, 0, none⟩) 4 c) ∧ RbA w' w'.heap.size (some ⟨b, 0, none⟩) exL ∧ Below w.heap.size w w' := by
  go_enter Try.func22, Try.ntmps22
  go_wp2_with fail
  refine (lawSp 1 0 ⟨#[97]⟩ 0 w).mono ?_
  rintro e w1 ⟨rfl, hb1⟩
  go_wp2_with fail
  refine (lawSp 2 1 ⟨#[98]⟩ 5 w1).mono ?_
  rintro e w2 ⟨rfl, hb2⟩
  go_wp2_with fail
  refine (lawSp 3 1 ⟨#[98]⟩ 12 w2).mono ?_
  rintro e w3 ⟨rfl, hb3⟩
  go_wp2_with fail
  refine (lawSp 4 2 ⟨#[98]⟩ 6 w3).mono ?_
  rintro e w4 ⟨rfl, hb4⟩
  have hb02 := hb1.trans (hb2.mono hb1.size)
  have hb03 := hb02.trans (hb3.mono hb02.size)
  have hb04 := hb03.trans (hb4.mono hb03.size)
  have hr : RbA (w4.alloc (.cells (adC (lawA 1 0 ⟨#[97]⟩ 0) none 0 0 ++ adC (lawA 2 1 ⟨#[98]⟩ 5) none 0 0 ++ adC (lawA 3 1 ⟨#[98]⟩ 12) none 0 0 ++ adC (lawA 4 2 ⟨#[98]⟩ 6) none 0 0) 45)) (w4.heap.size + 1) (some ⟨w4.heap.size, 0, none⟩) exL := by
    refine ⟨?_, fun e he => ?_⟩
    · have h := Rd.lit w4 (adC (lawA 1 0 ⟨#[97]⟩ 0) none 0 0 ++ adC (lawA 2 1 ⟨#[98]⟩ 5) none 0 0 ++ adC (lawA 3 1 ⟨#[98]⟩ 12) none 0 0 ++ adC (lawA 4 2 ⟨#[98]⟩ 6) none 0 0) 45
      exact h
    · simp only [exL, List.mem_cons, List.not_mem_nil, or_false] at he
      rcases he with rfl | rfl | rfl | rfl <;> exact ⟨Rd.nil, rfl, by show (0 : Nat) ≤ _; omega, by unfold Ad.Ok Sp.U64 exE lawA; simp⟩
  have hal := hb04.alloc hb04.size (.cells (adC (lawA 1 0 ⟨#[97]⟩ 0) none 0 0 ++ adC (lawA 2 1 ⟨#[98]⟩ 5) none 0 0 ++ adC (lawA 3 1 ⟨#[98]⟩ 12) none 0 0 ++ adC (lawA 4 2 ⟨#[98]⟩ 6) none 0 0) 45)
  have HR := Lib.hid hr
  have HA := Lib.hid hal
  clear hr hal hb1 hb2 hb3 hb4 hb02 hb03 hb04
  go_wp2_with fail
  go_ret
  exact ⟨_, _, rfl, by rw [World.size_alloc]; exact HR.out, HA.out⟩
def exO : List Ed := [⟨0, ⟨#[97]⟩, ⟨#[98]⟩, 1⟩, ⟨1, ⟨#[97]⟩, ⟨#[98]⟩, 1⟩]
theorem exOut : edOut (ads exL) 10 = (exO, 0) := by decide +kernel
theorem zeroChk : edChk [⟨0, ⟨#[]⟩, ⟨#[]⟩, 0⟩] = 2 := by decide +kernel
theorem edLaw {A : Option Addr} {n c B : Nat} (l : List AE) (size : Int) (w : World) (h : RbA w B A l) (hn : l.length = n) (hB : B ≤ w.heap.size) (hnl : n ≤ 200) (hs0 : -9223372036854775808 ≤ size) (hs1 : size ≤ 9223372036854775807)
    (hst : ∀ e ∈ l, e.a.s.start ≤ 9223372036854775807 ∧ -9223372036854775808 ≤ e.a.s.start) :
    Calls Try.prog 10 #[.slice A n c, .int .i64 size] w (EdsPost w (edOut (ads l) size)) :=
  (deEdges l size w h hn hB hnl hs0 hs1 hst).mono fun e w' h => edgC_out (by omega) h
set_option maxRecDepth 100000 in
theorem deLives (w : World) : Calls Try.prog 8 #[] w fun en w' => en = .returned (.bool true) ∧ Below w.heap.size w w' := by
  go_enter Try.func8, Try.ntmps8
  go_wp2_with fail
  refine (lawExample w).mono ?_
  rintro e w1 ⟨b, c, rfl, hr1, hb1⟩
  have ce := edLaw (c := c) exL 10 w1 hr1 (n := 4) rfl (Nat.le_refl _) (by omega) (by omega) (by omega) (fun e he => by
    simp only [exL, List.mem_cons, List.not_mem_nil, or_false] at he
    rcases he with rfl | rfl | rfl | rfl <;> simp [exE, lawA])
  rw [exOut] at ce
  go_wp2_with fail
  refine ce.mono ?_
  rintro e w2 ⟨A2, c2, rfl, hown2, hb2⟩
  have hb02 := hb1.trans (hb2.mono hb1.size)
  have hr2 : RbD w2 w2.heap.size A2 exO := Rd.of_own hown2
  clear ce hr1
  go_wp2_with fail
  refine (lawEdge ⟨0, ⟨#[97]⟩, ⟨#[98]⟩, 1⟩ w2).mono ?_
  rintro e w3 ⟨rfl, hb3⟩
  go_wp2_with fail
  refine (lawEdge ⟨1, ⟨#[97]⟩, ⟨#[98]⟩, 1⟩ w3).mono ?_
  rintro e w4 ⟨rfl, hb4⟩
  have hb04 := (hb02.trans (hb3.mono hb02.size)).trans (hb4.mono (hb02.trans (hb3.mono hb02.size)).size)
  have hb24 := hb3.trans (hb4.mono hb3.size)
  have hr5 : RbD (w4.alloc (.cells (edA ⟨0, ⟨#[97]⟩, ⟨#[98]⟩, 1⟩ ++ edA ⟨1, ⟨#[97]⟩, ⟨#[98]⟩, 1⟩) 47)) (w4.heap.size + 1) (some ⟨w4.heap.size, 0, none⟩) exO := Rd.lit w4 (edA ⟨0, ⟨#[97]⟩, ⟨#[98]⟩, 1⟩ ++ edA ⟨1, ⟨#[97]⟩, ⟨#[98]⟩, 1⟩) 47
  have hb5 := hb04.alloc hb04.size (.cells (edA ⟨0, ⟨#[97]⟩, ⟨#[98]⟩, 1⟩ ++ edA ⟨1, ⟨#[97]⟩, ⟨#[98]⟩, 1⟩) 47)
  have hr25 := Rd.belowS hr2 (hb24.alloc hb24.size (.cells (edA ⟨0, ⟨#[97]⟩, ⟨#[98]⟩, 1⟩ ++ edA ⟨1, ⟨#[97]⟩, ⟨#[98]⟩, 1⟩) 47))
  have cs := kitSameEds (c := c2) (c' := 2) exO exO _ hr25 hr5 (n := 2) (n' := 2) rfl rfl (by omega)
  rw [show decide (exO = exO) = true from decide_eq_true rfl] at cs
  have CS := Lib.hid cs
  have HB5 := Lib.hid hb5
  clear hr25 hr5 hb5 hb24 hb04 hb3 hb4 hr2 hown2 hb02 hb2 hb1 cs
  go_wp2_with fail
  refine CS.out.mono ?_
  rintro e w6 ⟨rfl, d6, rfl⟩
  have hb6 := below_drewN HB5.out d6
  obtain ⟨w6, hw6⟩ : ∃ w6, (w4.alloc (.cells (edA ⟨0, ⟨#[97]⟩, ⟨#[98]⟩, 1⟩ ++ edA ⟨1, ⟨#[97]⟩, ⟨#[98]⟩, 1⟩) 47)).drewN d6 = w6 := ⟨_, rfl⟩
  rw [hw6] at hb6
  have hrz : RbD (w6.alloc (.cells (edA ⟨0, ⟨#[]⟩, ⟨#[]⟩, 0⟩) 47)) (w6.heap.size + 1) (some ⟨w6.heap.size, 0, none⟩) [⟨0, ⟨#[]⟩, ⟨#[]⟩, 0⟩] := by
    have h := Rd.lit w6 (edA ⟨0, ⟨#[]⟩, ⟨#[]⟩, 0⟩) 47
    exact h
  have hb7 := hb6.alloc hb6.size (.cells (edA ⟨0, ⟨#[]⟩, ⟨#[]⟩, 0⟩) 47)
  have cz := deCheck (c := 1) _ _ hrz (n := 1) rfl (by simp) (by omega)
  rw [zeroChk] at cz
  have CZ := Lib.hid cz
  have HB7 := Lib.hid hb7
  have HW6 := Lib.hid hw6
  clear cz hb7 hrz hb6 hw6 CS HB5
  try rw [HW6.out]
  go_wp2_with fail
  try rw [HW6.out]
  refine CZ.out.mono ?_
  rintro e w8 ⟨rfl, hb8⟩
  go_wp2_with fail
  go_ret
  exact ⟨rfl, HB7.out.trans (hb8.mono HB7.out.size)⟩
end Go.Proofs.Ythaiplhjekkooaa
