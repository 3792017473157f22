/- Spans that came in. -/
import Derived.Deep.Slices
import Derived.Lib.SmallJoins
import Derived.Test.YthaiplhjekkooaaSpP0
import Derived.Test.YthaiplhjekkooaaOpen0
namespace Go.Proofs.Ythaiplhjekkooaa
open Go.ChangeShapes Go.WideShapes Go.ChangeAt Go.RowKit

theorem list_of {α : Type} (P : Nat → α → Prop) : ∀ (n : Nat), (∀ i, i < n → ∃ x, P i x) → ∃ l : List α, l.length = n ∧ ∀ i x, l[i]? = some x → P i x
  | 0, _ => ⟨[], rfl, fun i x h => by simp at h⟩
  | n + 1, h => by
    obtain ⟨l, hl, hp⟩ := list_of P n fun i hi => h i (by omega)
    obtain ⟨x, hx⟩ := h n (by omega)
    refine ⟨l ++ [x], by simp [hl], fun i y hy => ?_⟩
    by_cases hi : i < l.length
    · rw [List.getElem?_append_left hi] at hy
      exact hp i y hy
    · have hin : i = n := by
        have := (List.getElem?_eq_some_iff.1 hy).1
        simp at this
        omega
      subst hin
      rw [List.getElem?_append_right (by omega), hl, Nat.sub_self] at hy
      simp at hy
      subst hy
      exact hx
/-- Tags that came in. -/
structure InT (w : World) (A : Option Addr) (n c : Nat) (l : List Tg) : Prop where
  rd : RbT w w.heap.size A l
  len : l.length = n
  cap : n ≤ c
  max : c ≤ maxLen
set_option maxRecDepth 100000 in
theorem open_tag {H : Type} {enc : TypeId × Value → H} {W : World} {base : Nat} {held : Bool} {cs : List Value} {fuel : Nat} {y : DataW H × List MemPlace} {a : Addr} {b0 : Nat}
    (hc : W.cells? b0 a 2 = some cs) (h : DataW.trod enc Try.prog W base (fun _ => true) held fuel 90 cs = some y) : ∃ x : Tg, W.cell? a = some (.string x.key) ∧ W.cell? (a.add 1) = some (.string x.val) := by
  obtain ⟨xs, n, _, _, hlen, hyl, hf⟩ := DataW.trod_struct Try.underlying90 h
  obtain ⟨_, hcl, hat⟩ := World.cells?_some hc
  match cs, hcl with
  | [v0, v1], _ =>
    match xs, hyl with
    | [y0, y1], _ =>
      have cS : Try.prog.cellsOf 9 = 1 := by kernel_rfl
      have h0 : DataW.trod enc Try.prog W base (fun _ => true) held n 9 (([v0, v1].drop 0).take (Try.prog.cellsOf 9)) = some y0 := hf 0 _ rfl
      have h1 : DataW.trod enc Try.prog W base (fun _ => true) held n 9 (([v0, v1].drop 1).take (Try.prog.cellsOf 9)) = some y1 := hf 1 _ rfl
      rw [cS] at h0 h1
      simp only [List.drop_zero, List.drop_succ_cons, List.take_succ_cons, List.take_zero] at h0 h1
      obtain ⟨k, hk, -, -⟩ := DataW.trod_string Try.underlying9 h0
      obtain ⟨v, hv, -, -⟩ := DataW.trod_string Try.underlying9 h1
      simp at hk hv
      subst hk hv
      refine ⟨⟨k, v⟩, ?_, hat 1 (by omega)⟩
      have := hat 0 (by omega)
      simpa [Addr.add] using this
set_option maxRecDepth 100000 in
theorem open_fT {H : Type} {enc : TypeId × Value → H} {W : World} {base : Nat} {held : Bool} {v : Value} {fuel : Nat} {x : DataW H × List MemPlace}
    (h : DataW.trod enc Try.prog W base (fun _ => true) held fuel 41 [v] = some x) : ∃ A n c l, v = .slice A n c ∧ InT W A n c l := by
  rcases Deep.open_slice Try.underlying41 h with ⟨hcs, _⟩ | ⟨a, len, cap, m, n, D, Pl, hcs, hb, hl, hm, hmm, hx, hi⟩
  · simp at hcs
    subst hcs
    exact ⟨none, 0, 0, [], rfl, ⟨Rd.nil, rfl, Nat.le_refl _, by simp [maxLen]⟩⟩
  · simp at hcs
    subst hcs
    rw [if_pos rfl] at hmm
    subst hmm
    have hC : Try.prog.cellsOf 90 = 2 := by kernel_rfl
    rw [hC] at hi
    obtain ⟨l, hwl, hw⟩ := list_of (fun i (x : Tg) => W.cell? (a.add (i * 2)) = some (.string x.key) ∧ W.cell? ((a.add (i * 2)).add 1) = some (.string x.val)) len fun i hil => by
      obtain ⟨cs', hc, ht⟩ := hi i (by omega)
      exact open_tag hc ht
    refine ⟨some a, len, m, l, rfl, ⟨?_, hwl, hl, hm⟩⟩
    intro hne
    have hpos : 0 < len := by
      rcases Nat.eq_zero_or_pos len with h0 | h0
      · rw [← hwl] at h0
        rw [List.eq_nil_of_length_eq_zero h0] at hne
        exact absurd rfl hne
      · exact h0
    obtain ⟨x0, hx0⟩ : ∃ x0, l[0]? = some x0 := ⟨_, List.getElem?_eq_getElem (by omega)⟩
    obtain ⟨b, off, spot⟩ := a
    have h0 := (hw 0 x0 hx0).1
    simp only [Nat.zero_mul, Addr.add] at h0
    have hspot : spot = none := by simpa using World.cell?_spot h0
    subst hspot
    refine ⟨b, off, rfl, World.block_lt_of_cell? W ⟨b, off, none⟩ (by simpa using h0), fun j u hu => ?_⟩
    have hj : j < l.length * 2 := by
      have := (List.getElem?_eq_some_iff.1 hu).1
      rwa [tgs_length] at this
    obtain ⟨x1, hx1⟩ : ∃ x1, l[j / 2]? = some x1 := ⟨_, List.getElem?_eq_getElem (by omega)⟩
    obtain ⟨g1, g2⟩ := hw (j / 2) x1 hx1
    obtain ⟨t1, t2⟩ := tgs_get hx1
    rcases Nat.mod_two_eq_zero_or_one j with hr | hr
    · have e : j / 2 * 2 = j := by omega
      rw [e] at t1 g1
      rw [hu] at t1
      rw [Option.some.inj t1]
      rw [Addr.add_lit] at g1
      exact g1
    · have e : j / 2 * 2 + 1 = j := by omega
      rw [e] at t2
      rw [hu] at t2
      rw [Option.some.inj t2]
      rw [Addr.add_lit, Addr.add_lit] at g2
      rw [← e, ← Nat.add_assoc]
      exact g2
def Sp.I64 (s : Sp) : Prop := (-9223372036854775808 ≤ s.kind ∧ s.kind ≤ 9223372036854775807) ∧ (-9223372036854775808 ≤ s.start ∧ s.start ≤ 9223372036854775807) ∧ -9223372036854775808 ≤ s.length ∧ s.length ≤ 9223372036854775807
theorem i64_ofS {s : Int} (h : (Lit.int .i64 s).wf = true) : -9223372036854775808 ≤ s ∧ s ≤ 9223372036854775807 := by
  simp [Lit.wf, IntKind.min, IntKind.max, IntKind.signed, IntKind.bits] at h
  omega
/-- A span that came in. -/
structure InSp (w : World) (s : Sp) (A : Option Addr) (n c : Nat) : Prop where
  tags : InT w A n c s.tags
  u64 : s.U64
  service : s.service.size ≤ maxLen
  name : s.name.size ≤ maxLen
  i64 : s.I64
theorem u64_of {s : Int} (h : (Lit.int .u64 s).wf = true) : 0 ≤ s ∧ s < 18446744073709551616 := by
  simp [Lit.wf, IntKind.min, IntKind.max, IntKind.signed, IntKind.bits] at h
  omega
theorem array11 {cs : Array Value} (h : cs.size = 11) : ∃ a b c d e f g i j k l, cs = #[a, b, c, d, e, f, g, i, j, k, l] := by
  obtain ⟨l⟩ := cs
  match l, h with
  | [a, b, c, d, e, f, g, i, j, k, l], _ => exact ⟨a, b, c, d, e, f, g, i, j, k, l, rfl⟩
set_option maxRecDepth 100000 in
theorem open_spCells {H : Type} {enc : TypeId × Value → H} {W : World} {base : Nat} {held : Bool} {c0 c1 c2 c3 c4 c5 c6 c7 c8 c9 c10 : Value} {fuel : Nat} {x : DataW H × List MemPlace}
    (h : DataW.trod enc Try.prog W base (fun _ => true) held fuel 43 [c0, c1, c2, c3, c4, c5, c6, c7, c8, c9, c10] = some x) :
    ∃ (s : Sp) (A : Option Addr) (n c : Nat), [c0, c1, c2, c3, c4, c5, c6, c7, c8, c9, c10] = (spC s A n c).toList ∧ InSp W s A n c := by
  obtain ⟨xs, n, _, _, hlen, hyl, hf⟩ := DataW.trod_struct Try.underlying43 h
  match xs, hyl with
  | [y0, y1, y2, y3, y4, y5, y6, y7, y8, y9], _ =>
    have cT : Try.prog.cellsOf 40 = 2 := by kernel_rfl
    have cU : Try.prog.cellsOf 29 = 1 := by kernel_rfl
    have cS : Try.prog.cellsOf 9 = 1 := by kernel_rfl
    have cI : Try.prog.cellsOf 3 = 1 := by kernel_rfl
    have cJ : Try.prog.cellsOf 2 = 1 := by kernel_rfl
    have cB : Try.prog.cellsOf 4 = 1 := by kernel_rfl
    have cL : Try.prog.cellsOf 41 = 1 := by kernel_rfl
    obtain ⟨cs, hcs⟩ : ∃ cs, [c0, c1, c2, c3, c4, c5, c6, c7, c8, c9, c10] = cs := ⟨_, rfl⟩
    rw [hcs] at hf
    have h0 : DataW.trod enc Try.prog W base (fun _ => true) held n 40 ((cs.drop 0).take (Try.prog.cellsOf 40)) = some y0 := hf 0 _ rfl
    have h1 : DataW.trod enc Try.prog W base (fun _ => true) held n 29 ((cs.drop 2).take (Try.prog.cellsOf 29)) = some y1 := hf 1 _ rfl
    have h2 : DataW.trod enc Try.prog W base (fun _ => true) held n 29 ((cs.drop 3).take (Try.prog.cellsOf 29)) = some y2 := hf 2 _ rfl
    have h3 : DataW.trod enc Try.prog W base (fun _ => true) held n 9 ((cs.drop 4).take (Try.prog.cellsOf 9)) = some y3 := hf 3 _ rfl
    have h4 : DataW.trod enc Try.prog W base (fun _ => true) held n 9 ((cs.drop 5).take (Try.prog.cellsOf 9)) = some y4 := hf 4 _ rfl
    have h5 : DataW.trod enc Try.prog W base (fun _ => true) held n 3 ((cs.drop 6).take (Try.prog.cellsOf 3)) = some y5 := hf 5 _ rfl
    have h6 : DataW.trod enc Try.prog W base (fun _ => true) held n 2 ((cs.drop 7).take (Try.prog.cellsOf 2)) = some y6 := hf 6 _ rfl
    have h7 : DataW.trod enc Try.prog W base (fun _ => true) held n 2 ((cs.drop 8).take (Try.prog.cellsOf 2)) = some y7 := hf 7 _ rfl
    have h8 : DataW.trod enc Try.prog W base (fun _ => true) held n 4 ((cs.drop 9).take (Try.prog.cellsOf 4)) = some y8 := hf 8 _ rfl
    have h9 : DataW.trod enc Try.prog W base (fun _ => true) held n 41 ((cs.drop 10).take (Try.prog.cellsOf 41)) = some y9 := hf 9 _ rfl
    subst hcs
    rw [cT] at h0
    rw [cU] at h1 h2
    rw [cS] at h3 h4
    rw [cI] at h5
    rw [cJ] at h6 h7
    rw [cB] at h8
    rw [cL] at h9
    simp only [List.drop_zero, List.drop_succ_cons, List.take_succ_cons, List.take_zero] at h0 h1 h2 h3 h4 h5 h6 h7 h8 h9
    obtain ⟨zs, m, _, _, _, hzl, hg⟩ := DataW.trod_struct Try.underlying40 h0
    match zs, hzl with
    | [z0, z1], _ =>
      have g0 : DataW.trod enc Try.prog W base (fun _ => true) held m 29 (([c0, c1].drop 0).take (Try.prog.cellsOf 29)) = some z0 := hg 0 _ rfl
      have g1 : DataW.trod enc Try.prog W base (fun _ => true) held m 29 (([c0, c1].drop 1).take (Try.prog.cellsOf 29)) = some z1 := hg 1 _ rfl
      rw [cU] at g0 g1
      simp only [List.drop_zero, List.drop_succ_cons, List.take_succ_cons, List.take_zero] at g0 g1
      obtain ⟨q0, e0, -, w0⟩ := DataW.trod_int Try.underlying29 g0
      obtain ⟨q1, e1, -, w1⟩ := DataW.trod_int Try.underlying29 g1
      obtain ⟨q2, e2, -, w2⟩ := DataW.trod_int Try.underlying29 h1
      obtain ⟨q3, e3, -, w3⟩ := DataW.trod_int Try.underlying29 h2
      obtain ⟨q4, e4, -, w4⟩ := DataW.trod_string Try.underlying9 h3
      obtain ⟨q5, e5, -, w5⟩ := DataW.trod_string Try.underlying9 h4
      obtain ⟨q6, e6, -, w6⟩ := DataW.trod_int (k := .i64) (by kernel_rfl) h5
      obtain ⟨q7, e7, -, w7⟩ := DataW.trod_int Try.underlying2 h6
      obtain ⟨q8, e8, -, w8⟩ := DataW.trod_int Try.underlying2 h7
      obtain ⟨q9, e9, -⟩ := DataW.trod_bool Try.underlying4 h8
      obtain ⟨A, nt, ct, l, e10, hT⟩ := open_fT h9
      simp at e0 e1 e2 e3 e4 e5 e6 e7 e8 e9
      subst e0 e1 e2 e3 e4 e5 e6 e7 e8 e9 e10
      have r0 := u64_of w0
      have r1 := u64_of w1
      have r2 := u64_of w2
      have r3 := u64_of w3
      have u0 : q0.toNat < 18446744073709551616 := by omega
      have u1 : q1.toNat < 18446744073709551616 := by omega
      have u2 : q2.toNat < 18446744073709551616 := by omega
      have u3 : q3.toNat < 18446744073709551616 := by omega
      refine ⟨⟨q0.toNat, q1.toNat, q2.toNat, q3.toNat, q4, q5, q6, q7, q8, q9, l⟩, A, nt, ct, ?_, hT, ⟨u0, u1, u2, u3⟩, w4, w5, i64_ofS w6, i64_ofS w7, i64_ofS w8⟩
      simp only [spC, Int.toNat_of_nonneg r0.1, Int.toNat_of_nonneg r1.1, Int.toNat_of_nonneg r2.1, Int.toNat_of_nonneg r3.1]
set_option maxRecDepth 100000 in
theorem open_inSp {H : Type} {enc : TypeId × Value → H} {W : World} {base b0 : Nat} {r : Reach} {held : Bool} {v : Value} {d : DataW H} {p : List MemPlace} (hv : Value.okWide Try.prog W r b0 43 v)
    (h : DataW.Trod enc Try.prog W base (fun _ => true) held 43 v d p) : ∃ (s : Sp) (A : Option Addr) (n c : Nat), v = spV s A n c ∧ InSp W s A n c := by
  obtain ⟨cs, rfl, hsz⟩ := okWide_struct Try.underlying43 hv
  have hC : Try.prog.cellsOf 43 = 11 := by kernel_rfl
  obtain ⟨c0, c1, c2, c3, c4, c5, c6, c7, c8, c9, c10, rfl⟩ := array11 (hsz.trans hC)
  obtain ⟨fuel, hf⟩ := h
  obtain ⟨s, A, n, c, e, hi⟩ := open_spCells hf
  refine ⟨s, A, n, c, ?_, hi⟩
  rw [spV]
  congr 1
  exact Array.toList_inj.1 e
end Go.Proofs.Ythaiplhjekkooaa
