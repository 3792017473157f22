/- Texts of the proof of AdjustNamesSaid, joined: AdjustNames AdjustNamesP. -/
import Derived.Test.YtchpekidnbdpdaaJAdjustNames19
import Derived.Test.YtchpekidnbdpdaaJAdjustNames12
/- The statement AdjustNames: the examples of the chapter. The walk. -/
namespace Go.Proofs.Ytchpekidnbdpdaa
open Go.RowKit
def lwA : List El := [lwE 3 2 ⟨#[98]⟩ 1 1, lwE 1 0 ⟨#[97]⟩ 10 10, lwE 2 1 ⟨#[98]⟩ 0 4]
def lwB : List El := [lwE 1 0 ⟨#[97]⟩ 10 2, lwE 2 1 ⟨#[98]⟩ 5 8, lwE 3 1 ⟨#[98]⟩ 11 8]
def lwD : List El := [lwE 5 9 ⟨#[97]⟩ 1 1, lwE 6 7 ⟨#[97]⟩ 1 1, lwE 7 6 ⟨#[97]⟩ 1 1]
abbrev uOk (l : List El) : Bool := l.all (fun e => decide (e.s.hi < 18446744073709551616) && decide (e.s.lo < 18446744073709551616) && decide (e.s.id < 18446744073709551616) && decide (e.s.parent < 18446744073709551616) && decide (e.s.tags = []) && decide (e.n = 0))
theorem lwA_ok : (adjS (sps lwA)).2 = 0 ∧ (adjS (sps lwA)).1.length = 3 ∧ fndA (adjS (sps lwA)).1 3 = some ⟨lwS 3 2 ⟨#[98]⟩ 14 1, 2, 13, 0⟩ ∧ (adjS (sps lwA)).1.all (fun a => decide (a.s.tags.length ≤ 1000000)) = true ∧ uOk lwA = true := by decide +kernel
theorem lwB_ok : (adjS (sps lwB)).2 = 0 ∧ (adjS (sps lwB)).1.length = 3 ∧ fndA (adjS (sps lwB)).1 2 = some ⟨lwS 2 1 ⟨#[98]⟩ 10 8, 1, 5, 0⟩ ∧ fndA (adjS (sps lwB)).1 3 = some ⟨lwS 3 1 ⟨#[98]⟩ 11 8, 1, 0, 0⟩ ∧ (adjS (sps lwB)).1.all (fun a => decide (a.s.tags.length ≤ 1000000)) = true ∧ uOk lwB = true := by decide +kernel
theorem lwD_ok : (adjS (sps lwD)).2 = 0 ∧ (adjS (sps lwD)).1.length = 3 ∧ fndA (adjS (sps lwD)).1 5 = some ⟨lwS 5 9 ⟨#[97]⟩ 1 1, 0, 0, 1⟩ ∧ fndA (adjS (sps lwD)).1 6 = some ⟨lwS 6 7 ⟨#[97]⟩ 1 1, 0, 0, 2⟩ ∧ fndA (adjS (sps lwD)).1 7 = some ⟨lwS 7 6 ⟨#[97]⟩ 1 1, 6, 0, 0⟩ ∧ (adjS (sps lwD)).1.all (fun a => decide (a.s.tags.length ≤ 1000000)) = true ∧ uOk lwD = true := by decide +kernel
set_option maxRecDepth 100000 in
set_option maxHeartbeats 2000000 in
/-- Three spans written out, and Adjust of them. -/
theorem lwThree {w0 w : World} {e1 e2 e3 : El} {n : Nat} (hb0 : Below w0.heap.size w0 w) (h2 : (adjS (sps [e1, e2, e3])).2 = 0) (hn : (adjS (sps [e1, e2, e3])).1.length = n) (hd : (adjS (sps [e1, e2, e3])).1.all (fun a => decide (a.s.tags.length ≤ 1000000)) = true) (hu : uOk [e1, e2, e3] = true) :
    Calls Try.prog 8 #[.slice (some ⟨w.heap.size, 0, none⟩) 3 3] (w.alloc (.cells (spC e1.s e1.A e1.n e1.c ++ spC e2.s e2.A e2.n e2.c ++ spC e3.s e3.A e3.n e3.c) 32)) fun e w' => ∃ A' c' l', e = .returned (.tuple #[.slice A' n c', .int .i64 0]) ∧ l'.map (·.a) = (adjS (sps [e1, e2, e3])).1 ∧ RbA w' w'.heap.size A' l' ∧ (∀ e ∈ l', e.n ≤ 1000000) ∧ Below w0.heap.size w0 w' := by
  have hr : Rd (w.alloc (.cells (spC e1.s e1.A e1.n e1.c ++ spC e2.s e2.A e2.n e2.c ++ spC e3.s e3.A e3.n e3.c) 32)) (w.heap.size + 1) (some ⟨w.heap.size, 0, none⟩) (els [e1, e2, e3]) := by
    have h := Rd.lit w (spC e1.s e1.A e1.n e1.c ++ spC e2.s e2.A e2.n e2.c ++ spC e3.s e3.A e3.n e3.c) 32
    have e : (spC e1.s e1.A e1.n e1.c ++ spC e2.s e2.A e2.n e2.c ++ spC e3.s e3.A e3.n e3.c).toList = els [e1, e2, e3] := by
      rw [Array.toList_append, Array.toList_append, List.append_assoc]
      simp only [els, List.flatMap_cons, List.flatMap_nil, List.append_nil, elC]
    rw [e] at h
    exact h
  have hal := hb0.alloc hb0.size (.cells (spC e1.s e1.A e1.n e1.c ++ spC e2.s e2.A e2.n e2.c ++ spC e3.s e3.A e3.n e3.c) 32)
  have hc := lwAdjust (c := 3) _ hr (n := 3) rfl (by simp) (by omega) hu hd
  rw [h2, hn] at hc
  exact hc.mono fun e w' hp => by
    obtain ⟨A', c', l', p1, p2, p3, p4, p5⟩ := hp
    exact ⟨A', c', l', p1, p2, p3, p4, hal.trans (p5.mono hal.size)⟩
theorem lw_len {l' : List AE} {r : List Ad} {n : Nat} (h : l'.map (·.a) = r) (hn : r.length = n) : l'.length = n := by rw [← hn, ← h, List.length_map]
set_option maxRecDepth 100000 in
set_option maxHeartbeats 8000000 in
theorem adjustNames_walk (w : World) : Calls Try.prog 3 #[] w fun en w' => en = .returned (.bool true) ∧ Below w.heap.size w w' := by
  go_enter Try.func3, Try.ntmps3
  go_wp2_with fail
  refine (ajLives w).mono ?_
  rintro e w1 ⟨rfl, hb1⟩
  have HB1 := Lib.hid hb1
  clear hb1
  go_wp2_with fail
  refine (lawSp21 3 2 ⟨#[98]⟩ 1 1 w1).mono ?_
  rintro e w2 ⟨rfl, hb2⟩
  have HB2 : Hid (Below w.heap.size w w2) := HB1.out.trans (hb2.mono HB1.out.size)
  clear hb2
  go_wp2_with fail
  refine (lawSp21 1 0 ⟨#[97]⟩ 10 10 w2).mono ?_
  rintro e w3 ⟨rfl, hb3⟩
  have HB3 : Hid (Below w.heap.size w w3) := HB2.out.trans (hb3.mono HB2.out.size)
  clear hb3
  go_wp2_with fail
  refine (lawSp21 2 1 ⟨#[98]⟩ 0 4 w3).mono ?_
  rintro e w4 ⟨rfl, hb4⟩
  have HB4 : Hid (Below w.heap.size w w4) := HB3.out.trans (hb4.mono HB3.out.size)
  clear hb4
  have HC := Lib.hid (lwThree HB4.out lwA_ok.1 lwA_ok.2.1 lwA_ok.2.2.2.1 lwA_ok.2.2.2.2)
  go_wp2_with fail
  refine HC.out.mono ?_
  rintro e w5 ⟨A5, c5, l5, rfl, hl5, hr5, hs5, hb5⟩
  have HL5 := Lib.hid hl5
  have HR5 := Lib.hid hr5
  have HS5 := Lib.hid hs5
  have HB5 := Lib.hid hb5
  clear hl5 hr5 hs5 hb5 HC HB1 HB2 HB3 HB4
  go_wp2_with fail
  refine (lawSp21 1 0 ⟨#[97]⟩ 10 2 w5).mono ?_
  rintro e w6 ⟨rfl, hb6⟩
  go_wp2_with fail
  refine (lawSp21 2 1 ⟨#[98]⟩ 5 8 w6).mono ?_
  rintro e w7 ⟨rfl, hb7⟩
  go_wp2_with fail
  refine (lawSp21 3 1 ⟨#[98]⟩ 11 8 w7).mono ?_
  rintro e w8 ⟨rfl, hb8⟩
  have HB8 : Hid (Below w5.heap.size w5 w8) := (hb6.trans (hb7.mono hb6.size)).trans (hb8.mono (hb6.trans (hb7.mono hb6.size)).size)
  clear hb6 hb7 hb8
  have HC := Lib.hid (lwThree HB8.out lwB_ok.1 lwB_ok.2.1 lwB_ok.2.2.2.2.1 lwB_ok.2.2.2.2.2)
  go_wp2_with fail
  refine HC.out.mono ?_
  rintro e w9 ⟨A9, c9, l9, rfl, hl9, hr9, hs9, hb9⟩
  have HL9 := Lib.hid hl9
  have HR9 := Lib.hid hr9
  have HS9 := Lib.hid hs9
  have HB9 := Lib.hid hb9
  clear hl9 hr9 hs9 hb9 HC HB8
  go_wp2_with fail
  refine (lawSp21 5 9 ⟨#[97]⟩ 1 1 w9).mono ?_
  rintro e w10 ⟨rfl, hb10⟩
  go_wp2_with fail
  refine (lawSp21 6 7 ⟨#[97]⟩ 1 1 w10).mono ?_
  rintro e w11 ⟨rfl, hb11⟩
  go_wp2_with fail
  refine (lawSp21 7 6 ⟨#[97]⟩ 1 1 w11).mono ?_
  rintro e w12 ⟨rfl, hb12⟩
  have HB12 : Hid (Below w9.heap.size w9 w12) := (hb10.trans (hb11.mono hb10.size)).trans (hb12.mono (hb10.trans (hb11.mono hb10.size)).size)
  clear hb10 hb11 hb12
  have HC := Lib.hid (lwThree HB12.out lwD_ok.1 lwD_ok.2.1 lwD_ok.2.2.2.2.2.1 lwD_ok.2.2.2.2.2.2)
  go_wp2_with fail
  refine HC.out.mono ?_
  rintro e w13 ⟨A13, c13, l13, rfl, hl13, hr13, hs13, hb13⟩
  have HL13 := Lib.hid hl13
  have HR13 := Lib.hid hr13
  have HS13 := Lib.hid hs13
  have HB13 := Lib.hid hb13
  have HR9 : Hid (RbA w13 w13.heap.size A9 l9) := Lib.hid (HR9.out.bS HB13.out)
  have HB5b : Hid (Below w5.heap.size w5 w13) := Lib.hid (HB9.out.trans (HB13.out.mono HB9.out.size))
  have HR5 : Hid (RbA w13 w13.heap.size A5 l5) := Lib.hid (HR5.out.bS HB5b.out)
  have HB : Hid (Below w.heap.size w w13) := Lib.hid (HB5.out.trans (HB5b.out.mono HB5.out.size))
  clear hl13 hr13 hs13 hb13 HC HB12 HB9 HB13 HB5 HB5b
  have I1 := Lib.hid (fun (W : World) (hW : Below w13.heap.size w13 W) => lawIs (c := c5) 3 W (HR5.out.below hW) (lw_len HL5.out lwA_ok.2.1) hW.size (by omega) HS5.out (a := ⟨lwS 3 2 ⟨#[98]⟩ 14 1, 2, 13, 0⟩) (by rw [HL5.out]; exact lwA_ok.2.2.1))
  have I2 := Lib.hid (fun (W : World) (hW : Below w13.heap.size w13 W) => lawIs (c := c9) 2 W (HR9.out.below hW) (lw_len HL9.out lwB_ok.2.1) hW.size (by omega) HS9.out (a := ⟨lwS 2 1 ⟨#[98]⟩ 10 8, 1, 5, 0⟩) (by rw [HL9.out]; exact lwB_ok.2.2.1))
  have I3 := Lib.hid (fun (W : World) (hW : Below w13.heap.size w13 W) => lawIs (c := c9) 3 W (HR9.out.below hW) (lw_len HL9.out lwB_ok.2.1) hW.size (by omega) HS9.out (a := ⟨lwS 3 1 ⟨#[98]⟩ 11 8, 1, 0, 0⟩) (by rw [HL9.out]; exact lwB_ok.2.2.2.1))
  have I4 := Lib.hid (fun (W : World) (hW : Below w13.heap.size w13 W) => lawIs (c := c13) 5 W (HR13.out.below hW) (lw_len HL13.out lwD_ok.2.1) hW.size (by omega) HS13.out (a := ⟨lwS 5 9 ⟨#[97]⟩ 1 1, 0, 0, 1⟩) (by rw [HL13.out]; exact lwD_ok.2.2.1))
  have I5 := Lib.hid (fun (W : World) (hW : Below w13.heap.size w13 W) => lawIs (c := c13) 6 W (HR13.out.below hW) (lw_len HL13.out lwD_ok.2.1) hW.size (by omega) HS13.out (a := ⟨lwS 6 7 ⟨#[97]⟩ 1 1, 0, 0, 2⟩) (by rw [HL13.out]; exact lwD_ok.2.2.2.1))
  have I6 := Lib.hid (fun (W : World) (hW : Below w13.heap.size w13 W) => lawIs (c := c13) 7 W (HR13.out.below hW) (lw_len HL13.out lwD_ok.2.1) hW.size (by omega) HS13.out (a := ⟨lwS 7 6 ⟨#[97]⟩ 1 1, 6, 0, 0⟩) (by rw [HL13.out]; exact lwD_ok.2.2.2.2.1))
  go_wp2_with fail
  refine (I1.out _ (Below.refl _ _)).mono ?_
  rintro e v1 ⟨rfl, hv1⟩
  go_wp2_with fail
  refine (I2.out _ hv1).mono ?_
  rintro e v2 ⟨rfl, hv2⟩
  have hv2 := hv1.trans (hv2.mono hv1.size)
  clear hv1
  go_wp2_with fail
  refine (I3.out _ hv2).mono ?_
  rintro e v3 ⟨rfl, hv3⟩
  have hv3 := hv2.trans (hv3.mono hv2.size)
  clear hv2
  go_wp2_with fail
  refine (I4.out _ hv3).mono ?_
  rintro e v4 ⟨rfl, hv4⟩
  have hv4 := hv3.trans (hv4.mono hv3.size)
  clear hv3
  go_wp2_with fail
  refine (I5.out _ hv4).mono ?_
  rintro e v5 ⟨rfl, hv5⟩
  have hv5 := hv4.trans (hv5.mono hv4.size)
  clear hv4
  go_wp2_with fail
  refine (I6.out _ hv5).mono ?_
  rintro e v6 ⟨rfl, hv6⟩
  have hv6 := hv5.trans (hv6.mono hv5.size)
  clear hv5
  have HF : Hid (Below w.heap.size w v6) := HB.out.trans (hv6.mono HB.out.size)
  clear hv6
  go_wp2
  go_ret
  exact ⟨rfl, HF.out⟩
end Go.Proofs.Ytchpekidnbdpdaa

/- The statement AdjustNames, out of its walk. -/
namespace Go.Proofs.Ytchpekidnbdpdaa
open Go.ChangeShapes Go.WideShapes Go.ChangeAt Go.RowKit
open Go.ChangeMaps (open_string shut_string)

set_option maxRecDepth 100000 in
theorem adjustNames_lifted (os : Os) (started : os.Started) (H : Type) (enc : TypeId × Value → H) :
    ReturnsInHanded {} Try.checked os 3 .any (Rows.adjustNamesSpec.pre6 enc Try.prog Try.f3 Rows.adjustNamesRow.domain false) (Rows.adjustNamesSpec.post enc Try.prog Try.f3 false true false false) := by
  refine returnsInHanded_of_change (C := Try.checked) ownKnob_none started (by kernel_rfl) Try.func3
    (ChangeSpec.witness6 (enc := enc) (C := Try.checked) false ⟨#[], #[], []⟩ 8 (by kernel_rfl) (by kernel_rfl) (by kernel_rfl) (by kernel_rfl)) ?_
  intro W base args ds gs before hval0 hW _ _
  have hval : ∀ (j : Nat) t v, Try.f3.params[j]? = some t → args[j]? = some v → Value.okWide Try.prog W .any base t v := hval0
  have hW' := hW
  obtain ⟨p, q, hA0, hV, rfl, hfz, hnd⟩ := hW
  have hA : DataW.TrodAll enc Try.prog W 0 (fun _ => true) true Try.f3.params.toList args.toList ds p := hA0
  rw [Try.params3] at hA hval
  obtain ⟨hargs, rfl, rfl⟩ := trodAll_nil hA
  obtain rfl : args = #[] := by cases args; simp_all
  obtain ⟨rfl, rfl⟩ := trodVars_none hV
  clear hA0 hval0
  refine (adjustNames_walk  W ).mono fun e W' ⟨he, bel⟩ => ?_
  subst he
  exact ⟨_, rfl, _, _, _, [], _, [], hW', trodAll_mk1 (shut_bool Try.underlying4 _), trodAll_mk0, rfl, bel.frame _, fun h => by cases h⟩

/-- AdjustNames: for every input the law returns true, and what came in reads as it did. -/
theorem adjustNames_holds : Rows.AdjustNamesSaid :=
  OpenClaim.holds_of_wide 3 Try.f3 rfl rfl rfl rfl rfl rfl rfl ⟨rfl, rfl, rfl, rfl, rfl⟩ rfl rfl rfl rfl rfl (by kernel_rfl) Try.func3 (by kernel_rfl)
    (of_decide_eq_true (by kernel_rfl)) (by unfold Func.isWrapper; first | (rw [if_pos (by decide +kernel)]; kernel_rfl) | (rw [if_neg (by decide +kernel)]; exact ⟨rfl, rfl⟩))
    (fun os started H enc _ => adjustNames_lifted os started H enc)
#print axioms adjustNames_holds
end Go.Proofs.Ytchpekidnbdpdaa
