/- Texts of the proof of DepsTraceSaid, joined: Open0 SpO SsO InO DepsTrace DepsTraceP. -/
import Derived.Test.YthaiplhjekkooaaJDepsTrace1
import Derived.Test.YthaiplhjekkooaaRows
import Derived.ProofKit
import Derived.OpenShut
import Derived.ShutString
import Derived.ChangeOld
import Derived.Deep.Slices
import Derived.Lib.SmallJoins
import Derived.Test.YthaiplhjekkooaaJDepsTrace2
import Derived.Test.YthaiplhjekkooaaJDepsTrace7
import Derived.Deep.Cut
import Derived.Deep.CutRange
import Derived.Deep.RegionWith
import Derived.BigQuiet
import Derived.Test.YthaiplhjekkooaaJDepsTrace6
import Derived.Test.YthaiplhjekkooaaJDepsTrace8
/- What comes in: what each statement's row asks. -/
namespace Go.Proofs.Ythaiplhjekkooaa
open Go.ChangeShapes Go.WideShapes Go.ChangeAt Go.RowKit

theorem ownKnob_none : ownKnob Try.prog.godebug = none := by kernel_rfl
theorem laidOut : laidOutB Try.prog = true := by kernel_rfl

end Go.Proofs.Ythaiplhjekkooaa

/- Spans that came in. -/
namespace Go.Proofs.Ythaiplhjekkooaa
open Go.ChangeShapes Go.WideShapes Go.ChangeAt Go.RowKit

theorem list_of {α : Type} (P : Nat → α → Prop) : ∀ (n : Nat), (∀ i, i < n → ∃ x, P i x) → ∃ l : List α, l.length = n ∧ ∀ i x, l[i]? = some x → P i x
  | 0, _ => ⟨[], rfl, fun i x h => by simp at h⟩
  | n + 1, h => by
    obtain ⟨l, hl, hp⟩ := list_of P n fun i hi => h i (by omega)
    obtain ⟨x, hx⟩ := h n (by omega)
    refine ⟨l ++ [x], by simp [hl], fun i y hy => ?_⟩
    by_cases hi : i < l.length
    · rw [List.getElem?_append_left hi] at hy
      exact hp i y hy
    · have hin : i = n := by
        have := (List.getElem?_eq_some_iff.1 hy).1
        simp at this
        omega
      subst hin
      rw [List.getElem?_append_right (by omega), hl, Nat.sub_self] at hy
      simp at hy
      subst hy
      exact hx
/-- Tags that came in. -/
structure InT (w : World) (A : Option Addr) (n c : Nat) (l : List Tg) : Prop where
  rd : RbT w w.heap.size A l
  len : l.length = n
  cap : n ≤ c
  max : c ≤ maxLen
set_option maxRecDepth 100000 in
theorem open_tag {H : Type} {enc : TypeId × Value → H} {W : World} {base : Nat} {held : Bool} {cs : List Value} {fuel : Nat} {y : DataW H × List MemPlace} {a : Addr} {b0 : Nat}
    (hc : W.cells? b0 a 2 = some cs) (h : DataW.trod enc Try.prog W base (fun _ => true) held fuel 90 cs = some y) : ∃ x : Tg, W.cell? a = some (.string x.key) ∧ W.cell? (a.add 1) = some (.string x.val) := by
  obtain ⟨xs, n, _, _, hlen, hyl, hf⟩ := DataW.trod_struct Try.underlying90 h
  obtain ⟨_, hcl, hat⟩ := World.cells?_some hc
  match cs, hcl with
  | [v0, v1], _ =>
    match xs, hyl with
    | [y0, y1], _ =>
      have cS : Try.prog.cellsOf 9 = 1 := by kernel_rfl
      have h0 : DataW.trod enc Try.prog W base (fun _ => true) held n 9 (([v0, v1].drop 0).take (Try.prog.cellsOf 9)) = some y0 := hf 0 _ rfl
      have h1 : DataW.trod enc Try.prog W base (fun _ => true) held n 9 (([v0, v1].drop 1).take (Try.prog.cellsOf 9)) = some y1 := hf 1 _ rfl
      rw [cS] at h0 h1
      simp only [List.drop_zero, List.drop_succ_cons, List.take_succ_cons, List.take_zero] at h0 h1
      obtain ⟨k, hk, -, -⟩ := DataW.trod_string Try.underlying9 h0
      obtain ⟨v, hv, -, -⟩ := DataW.trod_string Try.underlying9 h1
      simp at hk hv
      subst hk hv
      refine ⟨⟨k, v⟩, ?_, hat 1 (by omega)⟩
      have := hat 0 (by omega)
      simpa [Addr.add] using this
set_option maxRecDepth 100000 in
theorem open_fT {H : Type} {enc : TypeId × Value → H} {W : World} {base : Nat} {held : Bool} {v : Value} {fuel : Nat} {x : DataW H × List MemPlace}
    (h : DataW.trod enc Try.prog W base (fun _ => true) held fuel 41 [v] = some x) : ∃ A n c l, v = .slice A n c ∧ InT W A n c l := by
  rcases Deep.open_slice Try.underlying41 h with ⟨hcs, _⟩ | ⟨a, len, cap, m, n, D, Pl, hcs, hb, hl, hm, hmm, hx, hi⟩
  · simp at hcs
    subst hcs
    exact ⟨none, 0, 0, [], rfl, ⟨Rd.nil, rfl, Nat.le_refl _, by simp [maxLen]⟩⟩
  · simp at hcs
    subst hcs
    rw [if_pos rfl] at hmm
    subst hmm
    have hC : Try.prog.cellsOf 90 = 2 := by kernel_rfl
    rw [hC] at hi
    obtain ⟨l, hwl, hw⟩ := list_of (fun i (x : Tg) => W.cell? (a.add (i * 2)) = some (.string x.key) ∧ W.cell? ((a.add (i * 2)).add 1) = some (.string x.val)) len fun i hil => by
      obtain ⟨cs', hc, ht⟩ := hi i (by omega)
      exact open_tag hc ht
    refine ⟨some a, len, m, l, rfl, ⟨?_, hwl, hl, hm⟩⟩
    intro hne
    have hpos : 0 < len := by
      rcases Nat.eq_zero_or_pos len with h0 | h0
      · rw [← hwl] at h0
        rw [List.eq_nil_of_length_eq_zero h0] at hne
        exact absurd rfl hne
      · exact h0
    obtain ⟨x0, hx0⟩ : ∃ x0, l[0]? = some x0 := ⟨_, List.getElem?_eq_getElem (by omega)⟩
    obtain ⟨b, off, spot⟩ := a
    have h0 := (hw 0 x0 hx0).1
    simp only [Nat.zero_mul, Addr.add] at h0
    have hspot : spot = none := by simpa using World.cell?_spot h0
    subst hspot
    refine ⟨b, off, rfl, World.block_lt_of_cell? W ⟨b, off, none⟩ (by simpa using h0), fun j u hu => ?_⟩
    have hj : j < l.length * 2 := by
      have := (List.getElem?_eq_some_iff.1 hu).1
      rwa [tgs_length] at this
    obtain ⟨x1, hx1⟩ : ∃ x1, l[j / 2]? = some x1 := ⟨_, List.getElem?_eq_getElem (by omega)⟩
    obtain ⟨g1, g2⟩ := hw (j / 2) x1 hx1
    obtain ⟨t1, t2⟩ := tgs_get hx1
    rcases Nat.mod_two_eq_zero_or_one j with hr | hr
    · have e : j / 2 * 2 = j := by omega
      rw [e] at t1 g1
      rw [hu] at t1
      rw [Option.some.inj t1]
      rw [Addr.add_lit] at g1
      exact g1
    · have e : j / 2 * 2 + 1 = j := by omega
      rw [e] at t2
      rw [hu] at t2
      rw [Option.some.inj t2]
      rw [Addr.add_lit, Addr.add_lit] at g2
      rw [← e, ← Nat.add_assoc]
      exact g2
def Sp.I64 (s : Sp) : Prop := (-9223372036854775808 ≤ s.kind ∧ s.kind ≤ 9223372036854775807) ∧ (-9223372036854775808 ≤ s.start ∧ s.start ≤ 9223372036854775807) ∧ -9223372036854775808 ≤ s.length ∧ s.length ≤ 9223372036854775807
theorem i64_ofS {s : Int} (h : (Lit.int .i64 s).wf = true) : -9223372036854775808 ≤ s ∧ s ≤ 9223372036854775807 := by
  simp [Lit.wf, IntKind.min, IntKind.max, IntKind.signed, IntKind.bits] at h
  omega
/-- A span that came in. -/
structure InSp (w : World) (s : Sp) (A : Option Addr) (n c : Nat) : Prop where
  tags : InT w A n c s.tags
  u64 : s.U64
  service : s.service.size ≤ maxLen
  name : s.name.size ≤ maxLen
  i64 : s.I64
theorem u64_of {s : Int} (h : (Lit.int .u64 s).wf = true) : 0 ≤ s ∧ s < 18446744073709551616 := by
  simp [Lit.wf, IntKind.min, IntKind.max, IntKind.signed, IntKind.bits] at h
  omega
theorem array11 {cs : Array Value} (h : cs.size = 11) : ∃ a b c d e f g i j k l, cs = #[a, b, c, d, e, f, g, i, j, k, l] := by
  obtain ⟨l⟩ := cs
  match l, h with
  | [a, b, c, d, e, f, g, i, j, k, l], _ => exact ⟨a, b, c, d, e, f, g, i, j, k, l, rfl⟩
set_option maxRecDepth 100000 in
theorem open_spCells {H : Type} {enc : TypeId × Value → H} {W : World} {base : Nat} {held : Bool} {c0 c1 c2 c3 c4 c5 c6 c7 c8 c9 c10 : Value} {fuel : Nat} {x : DataW H × List MemPlace}
    (h : DataW.trod enc Try.prog W base (fun _ => true) held fuel 43 [c0, c1, c2, c3, c4, c5, c6, c7, c8, c9, c10] = some x) :
    ∃ (s : Sp) (A : Option Addr) (n c : Nat), [c0, c1, c2, c3, c4, c5, c6, c7, c8, c9, c10] = (spC s A n c).toList ∧ InSp W s A n c := by
  obtain ⟨xs, n, _, _, hlen, hyl, hf⟩ := DataW.trod_struct Try.underlying43 h
  match xs, hyl with
  | [y0, y1, y2, y3, y4, y5, y6, y7, y8, y9], _ =>
    have cT : Try.prog.cellsOf 40 = 2 := by kernel_rfl
    have cU : Try.prog.cellsOf 29 = 1 := by kernel_rfl
    have cS : Try.prog.cellsOf 9 = 1 := by kernel_rfl
    have cI : Try.prog.cellsOf 3 = 1 := by kernel_rfl
    have cJ : Try.prog.cellsOf 2 = 1 := by kernel_rfl
    have cB : Try.prog.cellsOf 4 = 1 := by kernel_rfl
    have cL : Try.prog.cellsOf 41 = 1 := by kernel_rfl
    obtain ⟨cs, hcs⟩ : ∃ cs, [c0, c1, c2, c3, c4, c5, c6, c7, c8, c9, c10] = cs := ⟨_, rfl⟩
    rw [hcs] at hf
    have h0 : DataW.trod enc Try.prog W base (fun _ => true) held n 40 ((cs.drop 0).take (Try.prog.cellsOf 40)) = some y0 := hf 0 _ rfl
    have h1 : DataW.trod enc Try.prog W base (fun _ => true) held n 29 ((cs.drop 2).take (Try.prog.cellsOf 29)) = some y1 := hf 1 _ rfl
    have h2 : DataW.trod enc Try.prog W base (fun _ => true) held n 29 ((cs.drop 3).take (Try.prog.cellsOf 29)) = some y2 := hf 2 _ rfl
    have h3 : DataW.trod enc Try.prog W base (fun _ => true) held n 9 ((cs.drop 4).take (Try.prog.cellsOf 9)) = some y3 := hf 3 _ rfl
    have h4 : DataW.trod enc Try.prog W base (fun _ => true) held n 9 ((cs.drop 5).take (Try.prog.cellsOf 9)) = some y4 := hf 4 _ rfl
    have h5 : DataW.trod enc Try.prog W base (fun _ => true) held n 3 ((cs.drop 6).take (Try.prog.cellsOf 3)) = some y5 := hf 5 _ rfl
    have h6 : DataW.trod enc Try.prog W base (fun _ => true) held n 2 ((cs.drop 7).take (Try.prog.cellsOf 2)) = some y6 := hf 6 _ rfl
    have h7 : DataW.trod enc Try.prog W base (fun _ => true) held n 2 ((cs.drop 8).take (Try.prog.cellsOf 2)) = some y7 := hf 7 _ rfl
    have h8 : DataW.trod enc Try.prog W base (fun _ => true) held n 4 ((cs.drop 9).take (Try.prog.cellsOf 4)) = some y8 := hf 8 _ rfl
    have h9 : DataW.trod enc Try.prog W base (fun _ => true) held n 41 ((cs.drop 10).take (Try.prog.cellsOf 41)) = some y9 := hf 9 _ rfl
    subst hcs
    rw [cT] at h0
    rw [cU] at h1 h2
    rw [cS] at h3 h4
    rw [cI] at h5
    rw [cJ] at h6 h7
    rw [cB] at h8
    rw [cL] at h9
    simp only [List.drop_zero, List.drop_succ_cons, List.take_succ_cons, List.take_zero] at h0 h1 h2 h3 h4 h5 h6 h7 h8 h9
    obtain ⟨zs, m, _, _, _, hzl, hg⟩ := DataW.trod_struct Try.underlying40 h0
    match zs, hzl with
    | [z0, z1], _ =>
      have g0 : DataW.trod enc Try.prog W base (fun _ => true) held m 29 (([c0, c1].drop 0).take (Try.prog.cellsOf 29)) = some z0 := hg 0 _ rfl
      have g1 : DataW.trod enc Try.prog W base (fun _ => true) held m 29 (([c0, c1].drop 1).take (Try.prog.cellsOf 29)) = some z1 := hg 1 _ rfl
      rw [cU] at g0 g1
      simp only [List.drop_zero, List.drop_succ_cons, List.take_succ_cons, List.take_zero] at g0 g1
      obtain ⟨q0, e0, -, w0⟩ := DataW.trod_int Try.underlying29 g0
      obtain ⟨q1, e1, -, w1⟩ := DataW.trod_int Try.underlying29 g1
      obtain ⟨q2, e2, -, w2⟩ := DataW.trod_int Try.underlying29 h1
      obtain ⟨q3, e3, -, w3⟩ := DataW.trod_int Try.underlying29 h2
      obtain ⟨q4, e4, -, w4⟩ := DataW.trod_string Try.underlying9 h3
      obtain ⟨q5, e5, -, w5⟩ := DataW.trod_string Try.underlying9 h4
      obtain ⟨q6, e6, -, w6⟩ := DataW.trod_int (k := .i64) (by kernel_rfl) h5
      obtain ⟨q7, e7, -, w7⟩ := DataW.trod_int Try.underlying2 h6
      obtain ⟨q8, e8, -, w8⟩ := DataW.trod_int Try.underlying2 h7
      obtain ⟨q9, e9, -⟩ := DataW.trod_bool Try.underlying4 h8
      obtain ⟨A, nt, ct, l, e10, hT⟩ := open_fT h9
      simp at e0 e1 e2 e3 e4 e5 e6 e7 e8 e9
      subst e0 e1 e2 e3 e4 e5 e6 e7 e8 e9 e10
      have r0 := u64_of w0
      have r1 := u64_of w1
      have r2 := u64_of w2
      have r3 := u64_of w3
      have u0 : q0.toNat < 18446744073709551616 := by omega
      have u1 : q1.toNat < 18446744073709551616 := by omega
      have u2 : q2.toNat < 18446744073709551616 := by omega
      have u3 : q3.toNat < 18446744073709551616 := by omega
      refine ⟨⟨q0.toNat, q1.toNat, q2.toNat, q3.toNat, q4, q5, q6, q7, q8, q9, l⟩, A, nt, ct, ?_, hT, ⟨u0, u1, u2, u3⟩, w4, w5, i64_ofS w6, i64_ofS w7, i64_ofS w8⟩
      simp only [spC, Int.toNat_of_nonneg r0.1, Int.toNat_of_nonneg r1.1, Int.toNat_of_nonneg r2.1, Int.toNat_of_nonneg r3.1]
set_option maxRecDepth 100000 in
theorem open_inSp {H : Type} {enc : TypeId × Value → H} {W : World} {base b0 : Nat} {r : Reach} {held : Bool} {v : Value} {d : DataW H} {p : List MemPlace} (hv : Value.okWide Try.prog W r b0 43 v)
    (h : DataW.Trod enc Try.prog W base (fun _ => true) held 43 v d p) : ∃ (s : Sp) (A : Option Addr) (n c : Nat), v = spV s A n c ∧ InSp W s A n c := by
  obtain ⟨cs, rfl, hsz⟩ := okWide_struct Try.underlying43 hv
  have hC : Try.prog.cellsOf 43 = 11 := by kernel_rfl
  obtain ⟨c0, c1, c2, c3, c4, c5, c6, c7, c8, c9, c10, rfl⟩ := array11 (hsz.trans hC)
  obtain ⟨fuel, hf⟩ := h
  obtain ⟨s, A, n, c, e, hi⟩ := open_spCells hf
  refine ⟨s, A, n, c, ?_, hi⟩
  rw [spV]
  congr 1
  exact Array.toList_inj.1 e
end Go.Proofs.Ythaiplhjekkooaa

/- What comes in: a list of spans. -/
namespace Go.Proofs.Ythaiplhjekkooaa
open Go.ChangeShapes Go.WideShapes Go.ChangeAt Go.RowKit

theorem InSp.el {w : World} {s : Sp} {A : Option Addr} {n c : Nat} (h : InSp w s A n c) : ElOk w w.heap.size ⟨s, A, n, c⟩ :=
  ⟨h.tags.rd, h.tags.len, by have h1 := h.tags.cap; have h2 := h.tags.max; simp only [maxLen] at h2; show n ≤ _; omega⟩
/-- Spans that came in. -/
structure InSs (w : World) (A : Option Addr) (n c : Nat) (l : List El) : Prop where
  rd : RbS w w.heap.size A l
  len : l.length = n
  cap : n ≤ c
  max : c ≤ maxLen
  u64 : ∀ e ∈ l, e.s.U64
  i64 : ∀ e ∈ l, e.s.I64
set_option maxRecDepth 100000 in
theorem open_inSs {H : Type} {enc : TypeId × Value → H} {W : World} {base b0 : Nat} {r : Reach} {held : Bool} {v : Value} {d : DataW H} {p : List MemPlace} (_hv : Value.okWide Try.prog W r b0 34 v)
    (h : DataW.Trod enc Try.prog W base (fun _ => true) held 34 v d p) : ∃ (A : Option Addr) (n c : Nat) (l : List El), v = .slice A n c ∧ InSs W A n c l := by
  obtain ⟨aa, len, cap, rfl⟩ := okWide_slice Try.underlying34 _hv
  obtain ⟨fuel, hf⟩ := h
  rcases Deep.open_slice Try.underlying34 hf with ⟨hcs, _⟩ | ⟨a, len, cap, m, n, D, Pl, hcs, hb, hl, hm, hmm, hx, hi⟩
  · simp [Value.cells] at hcs
    obtain ⟨rfl, rfl, rfl⟩ := hcs
    exact ⟨none, 0, 0, [], rfl, ⟨RbS.nil, rfl, Nat.le_refl _, by simp [maxLen], (fun e he => by cases he), fun e he => by cases he⟩⟩
  · simp [Value.cells] at hcs
    obtain ⟨rfl, rfl, rfl⟩ := hcs
    rw [if_pos rfl] at hmm
    subst hmm
    have hC : Try.prog.cellsOf 43 = 11 := by kernel_rfl
    rw [hC] at hi
    obtain ⟨l, hll, hw⟩ := list_of (fun i (e : El) => (∀ j, j < 11 → W.cell? ((a.add (i * 11)).add j) = (elC e)[j]?) ∧ ElOk W W.heap.size e ∧ e.s.U64 ∧ e.s.I64) len fun i hil => by
      obtain ⟨cs', hc, ht⟩ := hi i (by omega)
      obtain ⟨_, hcl, hat⟩ := World.cells?_some hc
      match cs', hcl with
      | [c0, c1, c2, c3, c4, c5, c6, c7, c8, c9, c10], _ =>
        obtain ⟨s, A, n, c, he, hin⟩ := open_spCells ht
        refine ⟨⟨s, A, n, c⟩, fun j hj => ?_, hin.el, hin.u64, hin.i64⟩
        have h1 := hat j hj
        rw [he] at h1
        exact h1
    refine ⟨some a, _, _, l, rfl, ⟨⟨?_, ?_⟩, hll, hl, hm, ?_, ?_⟩⟩
    · intro hne
      have hpos : 0 < l.length := by
        rcases Nat.eq_zero_or_pos l.length with h0 | h0
        · rw [List.eq_nil_of_length_eq_zero h0] at hne
          exact absurd rfl hne
        · exact h0
      obtain ⟨x0, hx0⟩ : ∃ x0, l[0]? = some x0 := ⟨_, List.getElem?_eq_getElem hpos⟩
      obtain ⟨b, off, spot⟩ := a
      have h0 := (hw 0 x0 hx0).1 0 (by omega)
      simp only [Nat.zero_mul, Addr.add] at h0
      have h1 : (elC x0)[0]? = some (.int .u64 x0.s.hi) := rfl
      rw [h1] at h0
      have hspot : spot = none := by simpa using World.cell?_spot h0
      subst hspot
      refine ⟨b, off, rfl, World.block_lt_of_cell? W ⟨b, off, none⟩ (by simpa using h0), fun j u hu => ?_⟩
      have hj : j < l.length * 11 := by
        have := (List.getElem?_eq_some_iff.1 hu).1
        rwa [els_length] at this
      obtain ⟨x1, hx1⟩ : ∃ x1, l[j / 11]? = some x1 := ⟨_, List.getElem?_eq_getElem (by omega)⟩
      have h2 := (hw (j / 11) x1 hx1).1 (j % 11) (Nat.mod_lt _ (by omega))
      have h3 := els_get hx1 (j % 11) (Nat.mod_lt _ (by omega))
      rw [Addr.add_lit, Addr.add_lit, Nat.add_assoc, show j / 11 * 11 + j % 11 = j from by omega] at h2
      rw [show j / 11 * 11 + j % 11 = j from by omega] at h3
      rw [h2, ← h3, hu]
    · intro e he
      obtain ⟨i, hi, hxi⟩ := List.getElem_of_mem he
      exact (hw i e (by rw [List.getElem?_eq_getElem hi, hxi])).2.1
    · intro e he
      obtain ⟨i, hi, hxi⟩ := List.getElem_of_mem he
      exact (hw i e (by rw [List.getElem?_eq_getElem hi, hxi])).2.2.1
    · intro e he
      obtain ⟨i, hi, hxi⟩ := List.getElem_of_mem he
      exact (hw i e (by rw [List.getElem?_eq_getElem hi, hxi])).2.2.2
end Go.Proofs.Ythaiplhjekkooaa

/- What comes in: a list of ints. -/
namespace Go.Proofs.Ythaiplhjekkooaa
open Go.ChangeShapes Go.WideShapes Go.ChangeAt Go.RowKit

theorem rd_of_cells {w : World} {k : IntKind} {A : Option Addr} {zs : List Int} {L : Nat} (hn : A = none → zs.length = 0) (hc : ∀ a, A = some a → ∀ c, c < zs.length → w.cell? (a.add c) = some (.int k (zs.getD c 0))) : Rd w w.heap.size A ((zs.take L).map (Value.int k)) := by
  intro hne
  have hpos : 0 < zs.length := by
    rcases Nat.eq_zero_or_pos zs.length with h0 | h0
    · rw [List.eq_nil_of_length_eq_zero h0] at hne; simp at hne
    · exact h0
  cases A with
  | none => have := hn rfl; omega
  | some a =>
    obtain ⟨b, off, spot⟩ := a
    have h0 := hc _ rfl 0 hpos
    have hspot : spot = none := by simpa [Addr.add] using World.cell?_spot h0
    subst hspot
    refine ⟨b, off, rfl, World.block_lt_of_cell? w ⟨b, off, none⟩ (by simpa [Addr.add] using h0), fun j u hu => ?_⟩
    rw [List.map_take, List.getElem?_take] at hu
    split at hu
    · have hj : j < zs.length := by
        have := (List.getElem?_eq_some_iff.1 hu).1
        simpa using this
      have h2 := hc _ rfl j hj
      rw [Addr.add_lit] at h2
      rw [h2, ← hu]
      simp [List.getD, hj]
    · cases hu

/-- A slice of ints that came in. -/
structure InI (w : World) (A : Option Addr) (n c : Nat) (zs : List Int) : Prop where
  rd : Ri w w.heap.size A zs
  len : zs.length = n
  cap : n ≤ c
  max : c ≤ maxLen
  wf : ∀ x ∈ zs, (Lit.int .i64 x).wf = true
theorem open_inI {H : Type} {enc : TypeId × Value → H} {W : World} {base : Nat} {held : Bool} {d : DataW H} {p : List MemPlace} {a : Option Addr} {len cap : Nat}
    (h : DataW.Trod enc Try.prog W base (fun _ => true) held 35 (.slice a len cap) d p) : ∃ zs, InI W a len cap zs := by
  obtain ⟨fuel, hf⟩ := h
  rcases open_ints Try.underlying35 Try.underlying3 (by kernel_rfl) hf with ⟨hcs, _⟩ | ⟨x, l, c, zs, hcs, _, hl, hm, hz, _, hcell, hwz⟩
  · simp [Value.cells] at hcs
    obtain ⟨rfl, rfl, rfl⟩ := hcs
    exact ⟨[], Rd.nil, rfl, Nat.le_refl _, by simp [maxLen], fun x hx => by simp at hx⟩
  · simp [Value.cells] at hcs
    obtain ⟨rfl, rfl, rfl⟩ := hcs
    have hz : zs.length = cap := by simpa using hz
    exact ⟨zs.take len, rd_of_cells (fun e => by cases e) (fun a e c hc => by cases e; exact hcell c hc), by simp; omega, hl, hm, fun y hy => hwz y (List.mem_of_mem_take hy)⟩

set_option maxRecDepth 100000 in
theorem open_inIs {H : Type} {enc : TypeId × Value → H} {W : World} {base b0 : Nat} {r : Reach} {held : Bool} {v : Value} {d : DataW H} {p : List MemPlace} (hv : Value.okWide Try.prog W r b0 35 v)
    (h : DataW.Trod enc Try.prog W base (fun _ => true) held 35 v d p) : ∃ (A : Option Addr) (n c : Nat) (zs : List Int), v = .slice A n c ∧ InI W A n c zs := by
  obtain ⟨a, len, cap, rfl⟩ := okWide_slice Try.underlying35 hv
  obtain ⟨zs, h⟩ := open_inI h
  exact ⟨a, len, cap, zs, rfl, h⟩
end Go.Proofs.Ythaiplhjekkooaa

/- The statement DepsTrace: a trace's edges are its calls from service to service, each once. The walk. -/
namespace Go.Proofs.Ythaiplhjekkooaa
open Go.RowKit
theorem loadAd_shutT2 (a : Addr) : loadVar 45 a = loadK 45 a := rfl
attribute [local go_sem ↓] loadAd_shutT2
attribute [local go_sem ↓] storeKA_shut

theorem trOk_of {ls : List Sp} {o : List Ad} {l : List AE} (hf : AdjFine ls o) (hl : l.map (·.a) = o) (hn : ls.length ≤ 40) : TrOk l := by
  subst hl
  have hlen : l.length ≤ ls.length := by have := hf.len; rwa [List.length_map] at this
  refine ⟨by omega, fun e he => ?_, ?_⟩
  · have := hf.chk e.a (List.mem_map.2 ⟨e, he, rfl⟩)
    unfold adChk at this
    by_cases h : spChk e.a.s = 0
    · exact h
    · rw [if_pos h] at this
      exact this
  · have hcons : ∀ i (hi : i + 1 < l.length), (l[i]'(by omega)).a.s.id < l[i + 1].a.s.id := fun i hi =>
      hf.ris i _ _ (by rw [List.getElem?_map, List.getElem?_eq_getElem (by omega)]; rfl) (by rw [List.getElem?_map, List.getElem?_eq_getElem hi]; rfl)
    have hall : ∀ d i (hi : i + d + 1 < l.length), (l[i]'(by omega)).a.s.id < l[i + d + 1].a.s.id := by
      intro d
      induction d with
      | zero => exact fun i hi => hcons i hi
      | succ d ih => exact fun i hi => Nat.lt_trans (ih i (by omega)) (hcons (i + d + 1) hi)
    rw [List.nodup_iff_pairwise_ne, List.pairwise_map, List.pairwise_iff_getElem]
    intro i j hi hj hij
    obtain ⟨d, rfl⟩ : ∃ d, j = i + d + 1 := ⟨j - i - 1, by omega⟩
    exact Nat.ne_of_lt (hall d i hj)
/-- Is an edge the one of this call? -/
def edIs (f t : ByteArray) (b : Nat) (e : Ed) : Bool := decide (e.f = f) && decide (e.t = t) && decide (e.b = b)
theorem any_take_snoc {xs : List Ed} {p : Ed → Bool} {m : Nat} {e : Ed} (h : xs[m]? = some e) : (xs.take (m + 1)).any p = ((xs.take m).any p || p e) := by
  rw [take_snoc h, List.any_append]
  simp
set_option maxRecDepth 100000 in
set_option maxHeartbeats 16000000 in
theorem depsTrace_walk (A : Option Addr) (n c : Nat) (la : List El) (size : Int) (A' : Option Addr) (n' c' : Nat) (ps : List Int) (w : World) (h : InSs w A n c la) (hz : (Lit.int .i64 size).wf = true) (hp : InI w A' n' c' ps) :
    Calls Try.prog 4 #[.slice A n c, .int .i64 size, .slice A' n' c'] w fun e w' => e = .returned (.bool true) ∧ Below w.heap.size w w' := by
  have zb := i64_ofS hz
  have HP := Lib.hid hp
  have hn' : n' ≤ 9223372036854775807 := by have h1 := hp.cap; have h2 := hp.max; simp only [maxLen] at h2; omega
  have HLN := Lib.hid h.len
  obtain ⟨rx, hrx⟩ : ∃ rx, adjS (sps la) = rx := ⟨_, rfl⟩
  have C1 : Hid (∀ W, Below w.heap.size w W → Calls Try.prog 15 #[.slice A n c] W (AdjPost W rx)) := Lib.hid fun W hW => by rw [← hrx]; exact raAdjust la W (h.rd.below hW) h.len hW.size h.u64
  have hfx : rx.2 = 0 → AdjFine (sps la) rx.1 := fun e => by rw [← hrx] at e ⊢; exact adjS_fine e
  obtain ⟨ex, hex⟩ : ∃ ex, rx.2 = ex := ⟨_, rfl⟩
  rw [hex] at hfx
  have HFX := Lib.hid hfx
  unfold AdjPost at C1
  rw [hex] at C1
  clear hrx hfx h hex hz hp
  go_enter Try.func4, Try.ntmps4
  go_upto_region 3 with (go_at_call 8; refine (deLives _).mono ?_; rintro e w1 ⟨rfl, hb1⟩)
  by_cases h40 : (40 : Int) < (n : Int)
  · go_wp2_with fail
    go_ret
    exact ⟨rfl, hb1⟩
  have h40' : decide ((40 : Int) < (n : Int)) = false := by simp; omega
  by_cases hs1 : size < 1
  · go_wp2_with fail
    go_ret
    exact ⟨rfl, hb1⟩
  have hs1' : decide (size < 1) = false := by simp; omega
  go_wp2_with fail
  refine (C1.out _ hb1).mono ?_
  rintro e w2 ⟨A2, c2, l, rfl, hl, hra, hb2, hc2⟩
  have hb02 := hb1.trans (hb2.mono hb1.size)
  by_cases he : ex = 0
  · subst he
    have hf := HFX.out rfl
    have htr : TrOk l := trOk_of hf hl (by rw [sps_length, HLN.out]; omega)
    have hlr : l.length = rx.1.length := by rw [← hl, List.length_map]
    obtain ⟨q, hq⟩ : ∃ q, rx.1.length = q := ⟨_, rfl⟩
    rw [hq] at hlr hc2 ⊢
    have HLQ := Lib.hid hlr
    have hq1 : 1 ≤ q := by rw [← hq]; exact List.length_pos_iff.2 hf.ne
    have hq64 : q ≤ 64 := by rw [← hlr]; exact htr.len
    obtain ⟨x, e1, e2, e3, e4, e5, e6⟩ := htr.edges (size := size) (by omega)
    have HPR := Lib.hid (show prTo l q = tot x by rw [← HLQ.out, htr.pairs size, e3])
    have HPL := Lib.hid (fun k => show prTo l k ≤ 64 * 64 from prTo_le l htr k)
    have HTR := Lib.hid htr
    have HE4 := Lib.hid e4
    have HE6 := Lib.hid e6
    have ce := edLaw (c := c2) l size w2 hra hlr (Nat.le_refl _) (by omega) zb.1 zb.2 (fun e he => by have := spChk_head (htr.chk e he); omega)
    rw [e1] at ce
    have hx64 : x.length ≤ 64 := e5
    have htx : tot x ≤ 64 := by rw [e3]; exact (htr.calls size).2.2
    clear hf htr hq hlr e1 e3 e4 e5 e6 hl HFX C1
    go_wp2_with fail
    refine ce.mono ?_
    rintro e w3 ⟨A3, c3, rfl, own3, hb3⟩
    have hb03 := hb02.trans (hb3.mono hb02.size)
    have rx3 : RbD w3 w3.heap.size A3 x := Rd.of_own own3
    have ra3 := hra.bS hb3
    have ck := deCheck (c := c3) x w3 rx3 rfl (Nat.le_refl _) (by omega)
    rw [e2] at ck
    have CK := Lib.hid ck
    clear ce own3 hb3 hb2 hra ck e2 hb1 hb02
    go_wp2_with fail
    refine CK.out.mono ?_
    rintro e w4 ⟨rfl, hb4⟩
    have hb04 := hb03.trans (hb4.mono hb03.size)
    have HX := Lib.hid (Rd.belowS rx3 hb4)
    have HA := Lib.hid (ra3.bS hb4)
    have HB := Lib.hid hb04
    clear CK hb03 hb4 hb04 rx3 ra3
    obtain ⟨xl, hxl⟩ : ∃ xl, x.length = xl := ⟨_, rfl⟩
    rw [hxl] at hx64 ⊢
    have HXL := Lib.hid hxl
    clear hxl
    go_wp2_with fail
    go_loopw [11, 12] (fun n_ i_ wr => ∃ i : Nat, i ≤ q ∧ i_ = .int .i64 i ∧ n_ = .int .u64 (prTo l i) ∧ Hid (Below w4.heap.size w4 wr)) (fun _ i_ _ => q - (intOf i_).toNat)
    case atStart => exact ⟨0, by omega, rfl, rfl, Lib.hid (Below.refl _ _)⟩
    case round =>
      obtain ⟨i, hi, rfl, rfl, HBO⟩ := hrel
      by_cases hlt : i < q
      · have hlt' : (i : Int) < (q : Int) := by omega
        obtain ⟨xi, hxi⟩ : ∃ xi, l[i]? = some xi := ⟨_, List.getElem?_eq_getElem (by rw [HLQ.out]; exact hlt)⟩
        obtain ⟨b, o, eA, -, -, -⟩ := HA.out.get hxi
        subst eA
        have HXI := Lib.hid hxi
        have HPS := Lib.hid (prTo_succ hxi)
        obtain ⟨P0, hP0⟩ : ∃ P0, prTo l i = P0 := ⟨_, rfl⟩
        have hP0l := HPL.out i
        rw [hP0] at HPS hP0l ⊢
        have HC : Hid (∀ W, Below w4.heap.size w4 W → ∀ (k : Nat) (y : AE), l[k]? = some y → W.cell? ⟨b, o + k * 14 + 2, none⟩ = some (.int .u64 y.a.s.id) ∧ W.cell? ⟨b, o + k * 14 + 4, none⟩ = some (.string y.a.s.service) ∧ W.cell? ⟨b, o + k * 14 + 7, none⟩ = some (.int .i64 y.a.s.start) ∧ W.cell? ⟨b, o + k * 14 + 11, none⟩ = some (.int .u64 y.a.up)) := Lib.hid fun W hW k y hy => by
          obtain ⟨b', o', e', -, hc', -⟩ := (HA.out.below hW).get hy
          cases e'
          rw [Nat.add_assoc, Nat.add_assoc, Nat.add_assoc, Nat.add_assoc]
          exact ⟨hc' 2 (by omega), hc' 4 (by omega), hc' 7 (by omega), hc' 11 (by omega)⟩
        clear hxi hP0
        go_wp2_with fail
        go_loopw [11, 13] (fun n_ k_ wr2 => ∃ k : Nat, k ≤ q ∧ k_ = .int .i64 k ∧ n_ = .int .u64 (P0 + abTo l xi k : Nat) ∧ Hid (Below w4.heap.size w4 wr2)) (fun _ k_ _ => q - (intOf k_).toNat)
        case atStart => exact ⟨0, by omega, rfl, rfl, HBO⟩
        case round =>
          obtain ⟨k, hk, rfl, rfl, HBK⟩ := hrel
          by_cases hkq : k < q
          · have hkq' : (k : Int) < (q : Int) := by omega
            obtain ⟨y, hy⟩ : ∃ y, l[k]? = some y := ⟨_, List.getElem?_eq_getElem (by rw [HLQ.out]; exact hkq)⟩
            obtain ⟨i1, i2, i3, i4⟩ := HC.out wr HBK.out i xi HXI.out
            obtain ⟨y1, y2, -, -⟩ := HC.out wr HBK.out k y hy
            have HAS := Lib.hid (abTo_succ (x := xi) hy)
            have HY := Lib.hid hy
            have hab : abTo l xi k ≤ 64 := Nat.le_trans (List.countP_le_length ..) (by rw [List.length_take, HLQ.out]; omega)
            obtain ⟨K0, hK0⟩ : ∃ K0, abTo l xi k = K0 := ⟨_, rfl⟩
            rw [hK0] at HAS hab ⊢
            clear hy hK0
            by_cases h1 : xi.a.up = y.a.s.id
            · by_cases h2 : xi.a.s.service = y.a.s.service
              · have hav : above xi y = false := by simp [above, h2]
                have hK1 : abTo l xi (k + 1) = K0 := by rw [HAS.out, hav]; rfl
                have hu' : ((xi.a.up : Int) == (y.a.s.id : Int)) = true := by rw [h1]; simp
                have hsv : (xi.a.s.service.toList == y.a.s.service.toList) = true := by rw [strEq_of', decide_eq_true h2]
                have hsv' : (xi.a.s.service.toList != y.a.s.service.toList) = false := by rw [bne, hsv]; rfl
                go_wp2_with fail
                go_quiet (fail)
                go_wp2_with fail
                exact ⟨⟨k + 1, by omega, by go_num, by rw [hK1], Lib.hid (below_drewN HBK.out _)⟩, by simp only [intOf]; omega⟩
              · have hav : above xi y = true := by simp [above, h1, h2]
                have hK1 : abTo l xi (k + 1) = K0 + 1 := by rw [HAS.out, hav]; rfl
                have hu' : ((xi.a.up : Int) == (y.a.s.id : Int)) = true := by rw [h1]; simp
                have hsv : (xi.a.s.service.toList == y.a.s.service.toList) = false := by rw [strEq_of', decide_eq_false h2]
                have hsv' : (xi.a.s.service.toList != y.a.s.service.toList) = true := by rw [bne, hsv]; rfl
                have hxm := List.mem_of_getElem? HXI.out
                have hym := List.mem_of_getElem? HY.out
                obtain ⟨m0, e0, g1, g2, g3, g4⟩ := HTR.out.found HE4.out hxm hym hav
                have hst := spChk_head (HTR.out.chk xi hxm)
                obtain ⟨bn1, bn2⟩ := bkt_num (start := xi.a.s.start) (size := size) hst.2.1 (by omega) (by omega)
                have hbk : (bktOf xi.a.s.start size).1 = (xi.a.s.start / size).toNat := by rw [bktOf, if_neg (by omega)]
                rw [hbk] at g4
                obtain ⟨bq, hbq⟩ : ∃ bq, (xi.a.s.start / size).toNat = bq := ⟨_, rfl⟩
                rw [hbq] at g4 bn1 bn2
                have hz : size ≠ 0 := by omega
                have hwq : IntKind.i64.wrap (bq : Int) = (bq : Int) := IntWalk.i64_in _ ⟨by omega, by omega⟩
                have huq : IntKind.u64.wrap (bq : Int) = (bq : Int) := IntWalk.u64_in _ ⟨by omega, by omega⟩
                have HFND := Lib.hid (show (x.take xl).any (edIs y.a.s.service xi.a.s.service bq) = true by
                  rw [List.take_of_length_le (by rw [HXL.out]; exact Nat.le_refl _), List.any_eq_true]
                  exact ⟨e0, List.mem_of_getElem? g1, by simp [edIs, g2, g3, g4]⟩)
                obtain ⟨Q0, hQ0⟩ : ∃ Q0, P0 + K0 = Q0 := ⟨_, rfl⟩
                rw [hQ0]
                have hQ1 : P0 + abTo l xi (k + 1) = Q0 + 1 := by rw [hK1]; omega
                have hw1 : IntKind.u64.wrap ((Q0 : Int) + 1) = ((Q0 + 1 : Nat) : Int) := by
                  rw [show (Q0 : Int) + 1 = ((Q0 + 1 : Nat) : Int) from by omega]
                  exact IntWalk.u64_in _ ⟨by omega, by omega⟩
                have HQ1 := Lib.hid hQ1
                clear g1 g2 g3 g4 hbq hbk hst hxm hym hQ0 hQ1 hK1
                go_wp2_with fail
                go_quiet (fail)
                have HB2 := Lib.hid (below_drewN HBK.out nq)
                obtain ⟨W0, hW0⟩ : ∃ W0, wr.drewN nq = W0 := ⟨_, rfl⟩
                rw [hW0] at HB2 ⊢
                clear hW0 i1 i2 i3 i4 y1 y2 hu' hsv hsv'
                go_wp2_with fail
                go_loopw [14, 15] (fun f_ m_ wr3 => ∃ m : Nat, m ≤ xl ∧ m_ = .int .i64 m ∧ f_ = .bool ((x.take m).any (edIs y.a.s.service xi.a.s.service bq)) ∧ Hid (Below w4.heap.size w4 wr3)) (fun _ m_ _ => xl - (intOf m_).toNat)
                case atStart => exact ⟨0, by omega, rfl, by simp, HB2⟩
                case round =>
                  obtain ⟨m, hm, rfl, rfl, HBM⟩ := hrel
                  by_cases hmx : m < xl
                  · have hmx' : (m : Int) < (xl : Int) := by omega
                    obtain ⟨e, he⟩ : ∃ e, x[m]? = some e := ⟨_, List.getElem?_eq_getElem (by rw [HXL.out]; exact hmx)⟩
                    obtain ⟨b3, o3, eA, c0, c1, c2', c3'⟩ := RbD.cells (Rd.below HX.out HBM.out) he
                    subst eA
                    obtain ⟨i1, i2, i3, i4⟩ := HC.out wr HBM.out i xi HXI.out
                    obtain ⟨y1, y2, -, -⟩ := HC.out wr HBM.out k y HY.out
                    have hsn := any_take_snoc (p := edIs y.a.s.service xi.a.s.service bq) he
                    have HSN := Lib.hid hsn
                    obtain ⟨fd, hfd⟩ : ∃ fd, (x.take m).any (edIs y.a.s.service xi.a.s.service bq) = fd := ⟨_, rfl⟩
                    rw [hfd] at HSN ⊢
                    clear he hsn hfd c3'
                    cases fd with
                    | true =>
                      go_wp2_with fail
                      go_quiet (fail)
                      go_wp2_with fail
                      exact ⟨⟨m + 1, by omega, by go_num, by rw [HSN.out]; rfl, Lib.hid (below_drewN HBM.out _)⟩, by simp only [intOf]; omega⟩
                    | false =>
                      by_cases q1 : e.f = y.a.s.service
                      · have q1' : (e.f.toList == y.a.s.service.toList) = true := by rw [strEq_of', decide_eq_true q1]
                        by_cases q2 : e.t = xi.a.s.service
                        · have q2' : (e.t.toList == xi.a.s.service.toList) = true := by rw [strEq_of', decide_eq_true q2]
                          by_cases q3 : e.b = bq
                          · have q3' : ((e.b : Int) == (bq : Int)) = true := by rw [q3]; simp
                            go_wp2_with fail
                            go_quiet (fail)
                            go_wp2_with fail
                            exact ⟨⟨m + 1, by omega, by go_num, by rw [HSN.out]; simp [edIs, q1, q2, q3], Lib.hid (below_drewN HBM.out _)⟩, by simp only [intOf]; omega⟩
                          · have q3' : ((e.b : Int) == (bq : Int)) = false := by rw [beq_eq_false_iff_ne]; omega
                            go_wp2_with fail
                            go_quiet (fail)
                            go_wp2_with fail
                            exact ⟨⟨m + 1, by omega, by go_num, by rw [HSN.out]; simp [edIs, q3], Lib.hid (below_drewN HBM.out _)⟩, by simp only [intOf]; omega⟩
                        · have q2' : (e.t.toList == xi.a.s.service.toList) = false := by rw [strEq_of', decide_eq_false q2]
                          go_wp2_with fail
                          go_quiet (fail)
                          go_wp2_with fail
                          exact ⟨⟨m + 1, by omega, by go_num, by rw [HSN.out]; simp [edIs, q2], Lib.hid (below_drewN HBM.out _)⟩, by simp only [intOf]; omega⟩
                      · have q1' : (e.f.toList == y.a.s.service.toList) = false := by rw [strEq_of', decide_eq_false q1]
                        go_wp2_with fail
                        go_quiet (fail)
                        go_wp2_with fail
                        exact ⟨⟨m + 1, by omega, by go_num, by rw [HSN.out]; simp [edIs, q1], Lib.hid (below_drewN HBM.out _)⟩, by simp only [intOf]; omega⟩
                  · have hmx' : decide ((m : Int) < (xl : Int)) = false := by simp; omega
                    obtain rfl : m = xl := by omega
                    rw [HFND.out]
                    go_wp2_with fail
                    exact ⟨⟨k + 1, by omega, by go_num, by rw [HQ1.out]; rfl, HBM⟩, by simp only [intOf]; omega⟩
            · have hav : above xi y = false := by simp [above, h1]
              have hK1 : abTo l xi (k + 1) = K0 := by rw [HAS.out, hav]; rfl
              have hu' : ((xi.a.up : Int) == (y.a.s.id : Int)) = false := by rw [beq_eq_false_iff_ne]; omega
              go_wp2_with fail
              go_quiet (fail)
              go_wp2_with fail
              exact ⟨⟨k + 1, by omega, by go_num, by rw [hK1], Lib.hid (below_drewN HBK.out _)⟩, by simp only [intOf]; omega⟩
          · have hkq' : decide ((k : Int) < (q : Int)) = false := by simp; omega
            obtain rfl : k = q := by omega
            have hPS := HPS.out
            rw [HLQ.out] at hPS
            go_wp2_with fail
            exact ⟨⟨i + 1, by omega, by go_num, by rw [hPS], HBK⟩, by simp only [intOf]; omega⟩
      · have hlt' : decide ((i : Int) < (q : Int)) = false := by simp; omega
        obtain rfl : i = q := by omega
        rw [HPR.out]
        have hrl := Rd.alloc (HA.out.below HBO.out).rd HBO.out.size (.cells #[] 45)
        have HOKS := Lib.hid (fun e he => ((HA.out.below HBO.out).ok e he).more HBO.out.size)
        obtain ⟨wB, hwB⟩ : ∃ wB, wB = wr := ⟨_, rfl⟩
        subst hwB
        go_wp2_with (at_builtin; go_loud (refine wpList_appAd _ rfl (.tmp 146) (.tmp 147) rfl wB.heap.size _ 0 [] rfl (World.ownsRow_lit wB #[] 0 (Nat.le_refl _) (by simp [maxLen]) rfl) w4.heap.size A2 i c2 l rfl HLQ.out hrl (by omega) (by simp) ?_))
        intro A5 c5 w5 hap _
        have hap1 := hap.fresh1
        have hrow : RowA w5 wB.heap.size (.slice A5 i c5) i l := by
          have h := (RowA.nil wB wB.heap.size).app (es := l) (v' := .slice A5 i c5) (w' := w5) (by rw [Nat.zero_add, HLQ.out, List.nil_append]; exact hap1) HOKS.out (fun e he ht a ha e1 => by cases e1)
          rw [Nat.zero_add, HLQ.out, List.nil_append] at h
          exact h
        have hb5 := hap1.below0
        obtain ⟨g, rfl⟩ : ∃ g, A5 = some ⟨g, 0, none⟩ := by
          rcases hap1.own.2 with ⟨h1, _⟩ | ⟨g, _, _, h1, _⟩
          · injection h1 with e1 e2
            omega
          · injection h1 with e1
            exact ⟨g, e1⟩
        have HBB := Lib.hid (HB.out.trans (HBO.out.mono HB.out.size))
        have HXB := Lib.hid (Rd.below HX.out HBO.out)
        have hwB4 := HBO.out.size
        have HW4 := Lib.hid hwB4
        clear hap hap1 hrl HOKS hwB4
        go_wp2_with fail
        go_loopw [17] (fun iv_ wr => ∃ (j : Nat) (l' : List AE), j ≤ n' ∧ iv_ = .int .i64 j ∧ Hid (l'.Perm l) ∧ RowA wr wB.heap.size (.slice (some ⟨g, 0, none⟩) i c5) i l' ∧ Below wB.heap.size wB wr) (fun iv_ _ => n' - (intOf iv_).toNat)
        case atStart => exact ⟨0, l, by omega, rfl, Lib.hid (List.Perm.refl _), hrow, hb5⟩
        case round =>
          obtain ⟨j, l', hj, rfl, HPM, hrow, hb⟩ := hrel
          by_cases hgo : j < n' ∧ 1 < i
          · obtain ⟨hlt, h1n⟩ := hgo
            have hlt' : (j : Int) < (n' : Int) := by omega
            have h1n' : (1 : Int) < (i : Int) := by omega
            obtain ⟨b, o, z, -, hAP, -, hcz⟩ := Ri.get (k := j) (Rd.below HP.out.rd (HBB.out.trans (hb.mono HBB.out.size))) (by rw [HP.out.len]; exact hlt)
            subst hAP
            have hz0 : ¬ (i : Int) = 0 := by omega
            have hzb : ((i : Int) == 0) = false := by rw [beq_eq_false_iff_ne]; omega
            have hz1 := Int.emod_nonneg z hz0
            have hz2 := Int.emod_lt_of_pos z (show (0 : Int) < (i : Int) by omega)
            obtain ⟨p, hp'⟩ : ∃ p : Nat, z % (i : Int) = (p : Int) := ⟨(z % (i : Int)).toNat, by omega⟩
            have hpk := fun W => kitPick z i W (by omega) (by omega)
            rw [hp'] at hpk hz1 hz2
            have hpn : p < i := by omega
            have hpn' : (p : Int) < (i : Int) := by omega
            obtain ⟨s, hq'⟩ : ∃ s : Nat, j % i = s := ⟨_, rfl⟩
            have hqn : s < i := by rw [← hq']; exact Nat.mod_lt _ (by omega)
            have hqn' : (s : Int) < (i : Int) := by omega
            have hrem : (j : Int).tmod (i : Int) = (s : Int) := by rw [← hq']; rfl
            have HPK := Lib.hid hpk
            clear hpk hp' hz1 hz2 hq'
            go_wp2_with fail
            go_quiet ((go_at_call 17; exact Calls.quiet_of_same (HPK.out _)))
            have hb1 : Below wB.heap.size wB (wr.drewN nq) := below_drewN hb nq
            have hrow1' := hrow.bS (below_drewN (Below.refl _ _) nq)
            obtain ⟨WX, hWX⟩ : ∃ WX, wr.drewN nq = WX := ⟨_, rfl⟩
            rw [hWX] at hb1 hrow1' ⊢
            clear hWX
            have hbd : Below wB.heap.size wB WX.drew := below_drewN hb1 1
            have hrowd : RowA WX.drew wB.heap.size (.slice (some ⟨g, 0, none⟩) i c5) i l' := hrow1'.bS (below_drewN (Below.refl _ _) 1)
            have hlen := hrowd.len
            obtain ⟨xx, hx⟩ : ∃ x, l'[p]? = some x := ⟨_, List.getElem?_eq_getElem (by rw [hlen]; exact hpn)⟩
            obtain ⟨yy, hy⟩ : ∃ y, l'[s]? = some y := ⟨_, List.getElem?_eq_getElem (by rw [hlen]; exact hqn)⟩
            have hxm := List.mem_of_getElem? hx
            have hym := List.mem_of_getElem? hy
            have hlp : (loadK 45 ⟨g, p * 14, none⟩).run Try.prog WX.drew = .ok (adV xx.a xx.A xx.n xx.c) WX.drew := by
              obtain ⟨b', o', e', -, hc', -⟩ := hrowd.rba.get hx
              cases e'
              have h := loadK_ae hc'
              rwa [Nat.zero_add] at h
            have hlq : (loadK 45 ⟨g, s * 14, none⟩).run Try.prog WX.drew = .ok (adV yy.a yy.A yy.n yy.c) WX.drew := by
              obtain ⟨b', o', e', -, hc', -⟩ := hrowd.rba.get hy
              cases e'
              have h := loadK_ae hc'
              rwa [Nat.zero_add] at h
            obtain ⟨W1, hs1, hrs1, hgr1⟩ := hrowd.store hpn yy (hrowd.okf hym)
            obtain ⟨W2, hs2, hrs2, hgr2⟩ := hrs1.store hqn xx ((hrowd.okf hxm).grown hgr1)
            have hgw := (hrowd.own_lt g rfl).2
            have hbl : ∀ {U V : World}, U.grownBy V (some g) → wB.heap.size ≤ U.heap.size → Below wB.heap.size U V := fun h hs => ⟨h.os, h.tape, h.output, h.size, fun i hi => h.block i (by omega) (fun e => by have := Option.some.inj e; omega)⟩
            have hb2 : Below wB.heap.size wB W2 := (hbd.trans (hbl hgr1 hbd.size)).trans (hbl hgr2 (Nat.le_trans hbd.size hgr1.size))
            have hpm2 : ((l'.set p yy).set s xx).Perm l := by
              refine List.Perm.trans ?_ HPM.out
              obtain ⟨h1, h2⟩ := List.getElem?_eq_some_iff.1 hx
              obtain ⟨h3, h4⟩ := List.getElem?_eq_some_iff.1 hy
              rw [← h2, ← h4]
              exact List.set_set_perm h1 h3
            have HR : Hid (∃ l2 : List AE, l2.Perm l ∧ RowA W2 wB.heap.size (.slice (some ⟨g, 0, none⟩) i c5) i l2 ∧ Below wB.heap.size wB W2) := Lib.hid ⟨_, hpm2, hrs2, hb2⟩
            clear hpm2 hrs1 hrs2 hb2 hgr1 hgr2 hxm hym hx hy hlen hrowd hbd hbl hrow1' hb1 hrow hb
            go_wp2_with fail
            go_region_with (fail)
            all_goals
              clear hlp hlq hs1 hs2
              go_wp2_with fail
              obtain ⟨l2, hr1, hr2, hr3⟩ := HR.out
              exact ⟨⟨j + 1, l2, by omega, by go_num, Lib.hid hr1, hr2, hr3⟩, by simp only [intOf]; omega⟩
          · have hcase : (¬ j < n' ∧ decide ((j : Int) < (n' : Int)) = false) ∨ ((j : Int) < (n' : Int) ∧ ¬ 1 < i ∧ decide ((1 : Int) < (i : Int)) = false) := by
              by_cases h1 : j < n'
              · exact .inr ⟨by omega, by omega, by simp; omega⟩
              · exact .inl ⟨h1, by simp; omega⟩
            have hpt := HTR.out.perm HPM.out
            have ce := edLaw (c := c5) l' size wr hrow.rba hrow.len (Nat.le_refl _) (by omega) zb.1 zb.2 (fun e he => by have := spChk_head (hpt.chk e he); omega)
            rw [HE6.out l' HPM.out] at ce
            have HXR := Lib.hid (Rd.below HXB.out (hb.mono HW4.out))
            have HBR := Lib.hid (HBB.out.trans (hb.mono HBB.out.size))
            have hw4r := Nat.le_trans HW4.out hb.size
            have hself : ((tot x : Int) == (tot x : Int)) = true := by simp
            have CE := Lib.hid ce
            clear ce hrow hb hpt
            rcases hcase with ⟨hd0, hd1⟩ | ⟨hd1, hd0, hd2⟩
            all_goals
              go_wp2_with fail
              refine CE.out.mono ?_
              rintro e w6 ⟨A6, c6, rfl, own6, hb6⟩
              have hb06 := HBR.out.trans (hb6.mono HBR.out.size)
              have rx6 := Rd.below HXR.out (hb6.mono hw4r)
              have ry6 : RbD w6 w6.heap.size A6 x := Rd.of_own own6
              have k1 := lawCalls (c := c3) x w6 rx6 HXL.out (by omega) (by omega)
              have cs := kitSameEds (c := c3) (c' := c6) x x w6 rx6 ry6 HXL.out rfl (by omega)
              rw [decide_eq_true rfl] at cs
              have K1 := Lib.hid k1
              have CS := Lib.hid cs
              clear k1 cs rx6 ry6 own6 hb6
              go_wp2_with fail
              refine K1.out.mono ?_
              rintro e w' ⟨rfl, hw'⟩
              rw [hw']
              clear hw'
              go_wp2_with fail
              refine CS.out.mono ?_
              rintro e w7 ⟨rfl, d, rfl⟩
              go_wp2_with fail
              go_ret
              exact ⟨rfl, below_drewN hb06 d⟩
  · have he' : ((ex : Int) != 0) = true := by simp; omega
    go_wp2_with fail
    go_ret
    exact ⟨rfl, hb02⟩
end Go.Proofs.Ythaiplhjekkooaa

/- The statement DepsTrace, out of its walk. -/
namespace Go.Proofs.Ythaiplhjekkooaa
open Go.ChangeShapes Go.WideShapes Go.ChangeAt Go.RowKit
open Go.ChangeMaps (open_string shut_string)

set_option maxRecDepth 100000 in
theorem depsTrace_lifted (os : Os) (started : os.Started) (H : Type) (enc : TypeId × Value → H) :
    ReturnsInHanded {} Try.checked os 4 .any (Rows.depsTraceSpec.pre6 enc Try.prog Try.f4 Rows.depsTraceRow.domain false) (Rows.depsTraceSpec.post enc Try.prog Try.f4 false true false false) := by
  refine returnsInHanded_of_change (C := Try.checked) ownKnob_none started (by kernel_rfl) Try.func4
    (ChangeSpec.witness6 (enc := enc) (C := Try.checked) false ⟨#[], #[.slice none 0 0, .int .i64 0, .slice none 0 0], []⟩ 8 (by kernel_rfl) (by kernel_rfl) (by kernel_rfl) (by kernel_rfl)) ?_
  intro W base args ds gs before hval0 hW _ _
  have hval : ∀ (j : Nat) t v, Try.f4.params[j]? = some t → args[j]? = some v → Value.okWide Try.prog W .any base t v := hval0
  have hW' := hW
  obtain ⟨p, q, hA0, hV, rfl, hfz, hnd⟩ := hW
  have hA : DataW.TrodAll enc Try.prog W 0 (fun _ => true) true Try.f4.params.toList args.toList ds p := hA0
  rw [Try.params4] at hA hval
  obtain ⟨v0, vs0, d0, ds0, p0, q0, hargs, rfl, rfl, h0, r0⟩ := trodAll_cons hA
  obtain ⟨v1, vs1, d1, ds1, p1, q1, rfl, rfl, rfl, h1, r1⟩ := trodAll_cons r0
  obtain ⟨v2, vs2, d2, ds2, p2, q2, rfl, rfl, rfl, h2, r2⟩ := trodAll_cons r1
  obtain ⟨rfl, rfl, rfl⟩ := trodAll_nil r2
  obtain rfl : args = #[v0, v1, v2] := by cases args; simp_all
  obtain ⟨rfl, rfl⟩ := trodVars_none hV
  obtain ⟨u0_0, u0_1, u0_2, u0_3, he0, w0⟩ := open_inSs (hval 0 34 v0 rfl rfl) h0
  subst he0
  have k0 := h0
  have lt0 : ∀ x ∈ p0, x.block < W.heap.size := by obtain ⟨m, hm⟩ := k0; exact DataW.trod_lt m _ _ _ hm
  obtain ⟨x1, rfl, rfl, rfl, w1⟩ := open_int Try.underlying2 (hval 1 2 v1 rfl rfl) h1
  obtain ⟨u2_0, u2_1, u2_2, u2_3, he2, w2⟩ := open_inIs (hval 2 35 v2 rfl rfl) h2
  subst he2
  have k2 := h2
  have lt2 : ∀ x ∈ p2, x.block < W.heap.size := by obtain ⟨m, hm⟩ := k2; exact DataW.trod_lt m _ _ _ hm
  clear hA0 hval0
  refine (depsTrace_walk u0_0 u0_1 u0_2 u0_3 x1 u2_0 u2_1 u2_2 u2_3 W w0 w1 w2).mono fun e W' ⟨he, bel⟩ => ?_
  subst he
  exact ⟨_, rfl, _, _, _, [], _, [], hW', trodAll_mk1 (shut_bool Try.underlying4 _), (trodAll_cons_mk (Below.trod laidOut (by kernel_rfl) (of_decide_eq_true (by kernel_rfl)) k0 bel lt0) (trodAll_cons_mk (shut_int Try.underlying2 w1) (trodAll_cons_mk (Below.trod laidOut (by kernel_rfl) (of_decide_eq_true (by kernel_rfl)) k2 bel lt2) trodAll_mk0))), rfl, bel.frame _, fun h => by cases h⟩

/-- DepsTrace: for every input the law returns true, and what came in reads as it did. -/
theorem depsTrace_holds : Rows.DepsTraceSaid :=
  OpenClaim.holds_of_wide 4 Try.f4 rfl rfl rfl rfl rfl rfl rfl ⟨rfl, rfl, rfl, rfl, rfl⟩ rfl rfl rfl rfl rfl (by kernel_rfl) Try.func4 (by kernel_rfl)
    (of_decide_eq_true (by kernel_rfl)) (by unfold Func.isWrapper; first | (rw [if_pos (by decide +kernel)]; kernel_rfl) | (rw [if_neg (by decide +kernel)]; exact ⟨rfl, rfl⟩))
    (fun os started H enc _ => depsTrace_lifted os started H enc)
#print axioms depsTrace_holds
end Go.Proofs.Ythaiplhjekkooaa
