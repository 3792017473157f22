/- Adjusted spans that came in. -/
import Derived.Test.YthaiplhjekkooaaSpO
import Derived.Test.YthaiplhjekkooaaAdP
namespace Go.Proofs.Ythaiplhjekkooaa
open Go.ChangeShapes Go.WideShapes Go.ChangeAt Go.RowKit

structure InAd (w : World) (a : Ad) (A : Option Addr) (n c : Nat) : Prop where
  sp : InSp w a.s A n c
  ok : a.Ok
theorem i64_ofK {s : Int} (h : (Lit.int .i64 s).wf = true) : -9223372036854775808 ≤ s ∧ s ≤ 9223372036854775807 := by
  simp [Lit.wf, IntKind.min, IntKind.max, IntKind.signed, IntKind.bits] at h
  omega
theorem array14 {cs : Array Value} (h : cs.size = 14) : ∃ a b c d e f g i j k l m n o, cs = #[a, b, c, d, e, f, g, i, j, k, l, m, n, o] := by
  obtain ⟨l⟩ := cs
  match l, h with
  | [a, b, c, d, e, f, g, i, j, k, l, m, n, o], _ => exact ⟨a, b, c, d, e, f, g, i, j, k, l, m, n, o, rfl⟩
set_option maxRecDepth 100000 in
theorem open_adCells {H : Type} {enc : TypeId × Value → H} {W : World} {base : Nat} {held : Bool} {c0 c1 c2 c3 c4 c5 c6 c7 c8 c9 c10 c11 c12 c13 : Value} {fuel : Nat} {x : DataW H × List MemPlace}
    (h : DataW.trod enc Try.prog W base (fun _ => true) held fuel 45 [c0, c1, c2, c3, c4, c5, c6, c7, c8, c9, c10, c11, c12, c13] = some x) :
    ∃ (a : Ad) (A : Option Addr) (n c : Nat), [c0, c1, c2, c3, c4, c5, c6, c7, c8, c9, c10, c11, c12, c13] = (adC a A n c).toList ∧ InAd W a A n c := by
  obtain ⟨xs, n, _, _, hlen, hyl, hf⟩ := DataW.trod_struct Try.underlying45 h
  match xs, hyl with
  | [y0, y1, y2, y3], _ =>
    have cP : Try.prog.cellsOf 43 = 11 := by kernel_rfl
    have cU : Try.prog.cellsOf 29 = 1 := by kernel_rfl
    have cI : Try.prog.cellsOf 3 = 1 := by kernel_rfl
    have cJ : Try.prog.cellsOf 2 = 1 := by kernel_rfl
    obtain ⟨cs, hcs⟩ : ∃ cs, [c0, c1, c2, c3, c4, c5, c6, c7, c8, c9, c10, c11, c12, c13] = cs := ⟨_, rfl⟩
    rw [hcs] at hf
    have h0 : DataW.trod enc Try.prog W base (fun _ => true) held n 43 ((cs.drop 0).take (Try.prog.cellsOf 43)) = some y0 := hf 0 _ rfl
    have h1 : DataW.trod enc Try.prog W base (fun _ => true) held n 29 ((cs.drop 11).take (Try.prog.cellsOf 29)) = some y1 := hf 1 _ rfl
    have h2 : DataW.trod enc Try.prog W base (fun _ => true) held n 2 ((cs.drop 12).take (Try.prog.cellsOf 2)) = some y2 := hf 2 _ rfl
    have h3 : DataW.trod enc Try.prog W base (fun _ => true) held n 3 ((cs.drop 13).take (Try.prog.cellsOf 3)) = some y3 := hf 3 _ rfl
    subst hcs
    rw [cP] at h0
    rw [cU] at h1
    rw [cJ] at h2
    rw [cI] at h3
    simp only [List.drop_zero, List.drop_succ_cons, List.take_succ_cons, List.take_zero] at h0 h1 h2 h3
    obtain ⟨s, A, nt, ct, e, hs⟩ := open_spCells h0
    obtain ⟨q1, e1, -, w1⟩ := DataW.trod_int Try.underlying29 h1
    obtain ⟨q2, e2, -, w2⟩ := DataW.trod_int Try.underlying2 h2
    obtain ⟨q3, e3, -, -⟩ := DataW.trod_int (k := .i64) (by kernel_rfl) h3
    simp at e1 e2 e3
    subst e1 e2 e3
    have r1 := u64_of w1
    have u1 : q1.toNat < 18446744073709551616 := by omega
    have r2 := i64_ofK w2
    refine ⟨⟨s, q1.toNat, q2, q3⟩, A, nt, ct, ?_, hs, hs.u64, u1, r2.1, r2.2⟩
    simp only [adC, Int.toNat_of_nonneg r1.1]
    have e' : [c0, c1, c2, c3, c4, c5, c6, c7, c8, c9, c10, .int .u64 q1, .int .i64 q2, .int .i64 q3] = (spC s A nt ct).toList ++ [.int .u64 q1, .int .i64 q2, .int .i64 q3] := by rw [← e]; rfl
    exact e'
set_option maxRecDepth 100000 in
theorem open_inAd {H : Type} {enc : TypeId × Value → H} {W : World} {base b0 : Nat} {r : Reach} {held : Bool} {v : Value} {d : DataW H} {p : List MemPlace} (hv : Value.okWide Try.prog W r b0 45 v)
    (h : DataW.Trod enc Try.prog W base (fun _ => true) held 45 v d p) : ∃ (a : Ad) (A : Option Addr) (n c : Nat), v = adV a A n c ∧ InAd W a A n c := by
  obtain ⟨cs, rfl, hsz⟩ := okWide_struct Try.underlying45 hv
  have hC : Try.prog.cellsOf 45 = 14 := by kernel_rfl
  obtain ⟨c0, c1, c2, c3, c4, c5, c6, c7, c8, c9, c10, c11, c12, c13, rfl⟩ := array14 (hsz.trans hC)
  obtain ⟨fuel, hf⟩ := h
  obtain ⟨a, A, n, c, e, hi⟩ := open_adCells hf
  refine ⟨a, A, n, c, ?_, hi⟩
  rw [adV]
  congr 1
  exact Array.toList_inj.1 e
end Go.Proofs.Ythaiplhjekkooaa
