/- Keys that came in. -/
import Derived.Deep.Slices
import Derived.Lib.SmallJoins
import Derived.Test.YtlamebbolioljaaScF
import Derived.Test.YtlamebbolioljaaOpen
namespace Go.Proofs.Ytlamebbolioljaa
open Go.ChangeShapes Go.WideShapes Go.ChangeAt Go.RowKit

/-- A key that came in. -/
structure InKy (k : Ky) : Prop where
  u64 : k.U64
  service : k.service.size ≤ maxLen
  name : k.name.size ≤ maxLen
  value : k.value.size ≤ maxLen
theorem u64_ofK {s : Int} (h : (Lit.int .u64 s).wf = true) : 0 ≤ s ∧ s < 18446744073709551616 := by
  simp [Lit.wf, IntKind.min, IntKind.max, IntKind.signed, IntKind.bits] at h
  omega
theorem array9 {cs : Array Value} (h : cs.size = 9) : ∃ a b c d e f g i j, cs = #[a, b, c, d, e, f, g, i, j] := by
  obtain ⟨l⟩ := cs
  match l, h with
  | [a, b, c, d, e, f, g, i, j], _ => exact ⟨a, b, c, d, e, f, g, i, j, rfl⟩
set_option maxRecDepth 100000 in
theorem open_kyCells {H : Type} {enc : TypeId × Value → H} {W : World} {base : Nat} {held : Bool} {c0 c1 c2 c3 c4 c5 c6 c7 c8 : Value} {fuel : Nat} {x : DataW H × List MemPlace}
    (h : DataW.trod enc Try.prog W base (fun _ => true) held fuel 26 [c0, c1, c2, c3, c4, c5, c6, c7, c8] = some x) :
    ∃ (k : Ky), [c0, c1, c2, c3, c4, c5, c6, c7, c8] = (kyC k).toList ∧ InKy k := by
  obtain ⟨xs, n, _, _, hlen, hyl, hf⟩ := DataW.trod_struct Try.underlying26 h
  match xs, hyl with
  | [y0, y1, y2, y3, y4, y5, y6, y7], _ =>
    have cT : Try.prog.cellsOf 24 = 2 := by kernel_rfl
    have cU : Try.prog.cellsOf 22 = 1 := by kernel_rfl
    have cS : Try.prog.cellsOf 9 = 1 := by kernel_rfl
    have cI : Try.prog.cellsOf 3 = 1 := by kernel_rfl
    have cJ : Try.prog.cellsOf 2 = 1 := by kernel_rfl
    obtain ⟨cs, hcs⟩ : ∃ cs, [c0, c1, c2, c3, c4, c5, c6, c7, c8] = cs := ⟨_, rfl⟩
    rw [hcs] at hf
    have h0 : DataW.trod enc Try.prog W base (fun _ => true) held n 3 ((cs.drop 0).take (Try.prog.cellsOf 3)) = some y0 := hf 0 _ rfl
    have h1 : DataW.trod enc Try.prog W base (fun _ => true) held n 24 ((cs.drop 1).take (Try.prog.cellsOf 24)) = some y1 := hf 1 _ rfl
    have h2 : DataW.trod enc Try.prog W base (fun _ => true) held n 22 ((cs.drop 3).take (Try.prog.cellsOf 22)) = some y2 := hf 2 _ rfl
    have h3 : DataW.trod enc Try.prog W base (fun _ => true) held n 9 ((cs.drop 4).take (Try.prog.cellsOf 9)) = some y3 := hf 3 _ rfl
    have h4 : DataW.trod enc Try.prog W base (fun _ => true) held n 9 ((cs.drop 5).take (Try.prog.cellsOf 9)) = some y4 := hf 4 _ rfl
    have h5 : DataW.trod enc Try.prog W base (fun _ => true) held n 9 ((cs.drop 6).take (Try.prog.cellsOf 9)) = some y5 := hf 5 _ rfl
    have h6 : DataW.trod enc Try.prog W base (fun _ => true) held n 22 ((cs.drop 7).take (Try.prog.cellsOf 22)) = some y6 := hf 6 _ rfl
    have h7 : DataW.trod enc Try.prog W base (fun _ => true) held n 2 ((cs.drop 8).take (Try.prog.cellsOf 2)) = some y7 := hf 7 _ rfl
    subst hcs
    rw [cT] at h1
    rw [cU] at h2 h6
    rw [cS] at h3 h4 h5
    rw [cI] at h0
    rw [cJ] at h7
    simp only [List.drop_zero, List.drop_succ_cons, List.take_succ_cons, List.take_zero] at h0 h1 h2 h3 h4 h5 h6 h7
    obtain ⟨zs, m, _, _, _, hzl, hg⟩ := DataW.trod_struct Try.underlying24 h1
    match zs, hzl with
    | [z0, z1], _ =>
      have g0 : DataW.trod enc Try.prog W base (fun _ => true) held m 22 (([c1, c2].drop 0).take (Try.prog.cellsOf 22)) = some z0 := hg 0 _ rfl
      have g1 : DataW.trod enc Try.prog W base (fun _ => true) held m 22 (([c1, c2].drop 1).take (Try.prog.cellsOf 22)) = some z1 := hg 1 _ rfl
      rw [cU] at g0 g1
      simp only [List.drop_zero, List.drop_succ_cons, List.take_succ_cons, List.take_zero] at g0 g1
      obtain ⟨q0, e0, -, -⟩ := DataW.trod_int (k := .i64) (by kernel_rfl) h0
      obtain ⟨q1, e1, -, w1⟩ := DataW.trod_int Try.underlying22 g0
      obtain ⟨q2, e2, -, w2⟩ := DataW.trod_int Try.underlying22 g1
      obtain ⟨q3, e3, -, w3⟩ := DataW.trod_int Try.underlying22 h2
      obtain ⟨q4, e4, -, w4⟩ := DataW.trod_string Try.underlying9 h3
      obtain ⟨q5, e5, -, w5⟩ := DataW.trod_string Try.underlying9 h4
      obtain ⟨q6, e6, -, w6⟩ := DataW.trod_string Try.underlying9 h5
      obtain ⟨q7, e7, -, w7⟩ := DataW.trod_int Try.underlying22 h6
      obtain ⟨q8, e8, -, -⟩ := DataW.trod_int Try.underlying2 h7
      simp at e0 e1 e2 e3 e4 e5 e6 e7 e8
      subst e0 e1 e2 e3 e4 e5 e6 e7 e8
      have r1 := u64_ofK w1
      have r2 := u64_ofK w2
      have r3 := u64_ofK w3
      have r7 := u64_ofK w7
      have u1 : q1.toNat < 18446744073709551616 := by omega
      have u2 : q2.toNat < 18446744073709551616 := by omega
      have u3 : q3.toNat < 18446744073709551616 := by omega
      have u7 : q7.toNat < 18446744073709551616 := by omega
      refine ⟨⟨q0, q1.toNat, q2.toNat, q3.toNat, q4, q5, q6, q7.toNat, q8⟩, ?_, ⟨u1, u2, u3, u7⟩, w4, w5, w6⟩
      simp only [kyC, Int.toNat_of_nonneg r1.1, Int.toNat_of_nonneg r2.1, Int.toNat_of_nonneg r3.1, Int.toNat_of_nonneg r7.1]
set_option maxRecDepth 100000 in
theorem open_inKy {H : Type} {enc : TypeId × Value → H} {W : World} {base b0 : Nat} {r : Reach} {held : Bool} {v : Value} {d : DataW H} {p : List MemPlace} (hv : Value.okWide Try.prog W r b0 26 v)
    (h : DataW.Trod enc Try.prog W base (fun _ => true) held 26 v d p) : ∃ (k : Ky), v = kyV k ∧ InKy k := by
  obtain ⟨cs, rfl, hsz⟩ := okWide_struct Try.underlying26 hv
  have hC : Try.prog.cellsOf 26 = 9 := by kernel_rfl
  obtain ⟨c0, c1, c2, c3, c4, c5, c6, c7, c8, rfl⟩ := array9 (hsz.trans hC)
  obtain ⟨fuel, hf⟩ := h
  obtain ⟨k, e, hi⟩ := open_kyCells hf
  refine ⟨k, ?_, hi⟩
  rw [kyV]
  congr 1
  exact Array.toList_inj.1 e
end Go.Proofs.Ytlamebbolioljaa
