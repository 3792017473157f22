/- Texts of the proof of SchemaNamesSaid, joined: RfG Open SpO AdO AdI SchemaWrites SchemaNames SchemaNamesP. -/
import Derived.BigRegion
import Derived.Test.YtlamebbolioljaaJSchemaNames9
import Derived.Test.YtlamebbolioljaaJSchemaNames1
import Derived.Test.YtlamebbolioljaaRows
import Derived.ProofKit
import Derived.OpenShut
import Derived.ShutString
import Derived.ChangeOld
import Derived.Deep.Slices
import Derived.Lib.SmallJoins
import Derived.Test.YtlamebbolioljaaJSchemaNames5
import Derived.Test.YtlamebbolioljaaJSchemaNames6
import Derived.Deep.Cut
import Derived.Deep.CutRange
import Derived.Test.YtlamebbolioljaaJSchemaNames4
import Derived.Test.YtlamebbolioljaaJSchemaNames8
/- bootprintkit.SmallAdjusted, SameWrites. -/
namespace Go.Proofs.Ytlamebbolioljaa
open Go.RowKit
theorem loadSp_shutG (a : Addr) : loadVar 43 a = loadK 43 a := rfl
attribute [local go_sem ↓] loadSp_shutG

/-- If it says yes, they are few and each is small. -/
def SmalladPost (w : World) (l : List AE) (N : Int) (e : Ending) (w' : World) : Prop :=
  ∃ q, e = .returned (.bool q) ∧ Below w.heap.size w w' ∧ (q = true → (l.length : Int) ≤ N)
set_option maxRecDepth 100000 in
set_option maxHeartbeats 2000000 in
theorem kitSmallAds {A : Option Addr} {c n B : Nat} {l : List AE} (N most : Int) (w : World) (hf : RbA w B A l) (hn : l.length = n) (hB : B ≤ w.heap.size) (hnl : n ≤ 9223372036854775807) (hN : 0 ≤ N) :
    Calls Try.prog 19 #[.slice A n c, .int .i64 N, .int .i64 most] w (SmalladPost w l N) := by
  have HN := Lib.hid hn
  clear hn
  go_enter Try.func19, Try.ntmps19
  go_wp2
  go_loopw [7] (fun iv_ wr => ∃ j : Nat, j ≤ n ∧ iv_ = .int .i64 j ∧ Below w.heap.size w wr) (fun i _ => n - (intOf i).toNat)
  case atStart => exact ⟨0, by omega, rfl, Below.refl _ _⟩
  case round =>
    obtain ⟨j, hj, rfl, hb⟩ := hrel
    by_cases hlt : j < n
    · have hlt' : (j : Int) < (n : Int) := by omega
      by_cases hjN : (j : Int) ≤ N
      · obtain ⟨x, hx⟩ : ∃ x, l[j]? = some x := ⟨_, List.getElem?_eq_getElem (by rw [HN.out]; exact hlt)⟩
        obtain ⟨b, o, rfl, hbb, hc, hok⟩ := (hf.below (hb.mono hB)).get hx
        have hld := loadK_aeSp hc
        have hsm := kitSmall (c := x.c) x.a.s most wr hok.rd hok.len (Nat.le_trans hB hb.size) hok.max
        obtain ⟨q, hq⟩ : ∃ q, smallB x.a.s most = q := ⟨_, rfl⟩
        rw [hq] at hsm
        have HS := Lib.hid hsm
        clear hc hq hsm hx hok
        cases q with
        | false =>
          go_wp2_with (go_at_call 23; refine HS.out.mono ?_; rintro e w' ⟨rfl, hb'⟩)
          go_ret
          exact ⟨false, rfl, hb.trans (hb'.mono hb.size), fun h => by cases h⟩
        | true =>
          go_wp2_with (go_at_call 23; refine HS.out.mono ?_; rintro e w' ⟨rfl, hb'⟩)
          go_roundw
          case rel => exact ⟨j + 1, by omega, by go_num, hb.trans (hb'.mono hb.size)⟩
          case measure => simp [intOf]; omega
      · have hjN' : decide ((j : Int) ≤ N) = false := by simp; omega
        have hnN : decide ((n : Int) ≤ N) = false := by simp; omega
        go_wp2
        go_ret
        exact ⟨false, rfl, hb, fun h => by cases h⟩
    · have hlt' : decide ((j : Int) < (n : Int)) = false := by simp; omega
      obtain rfl : j = n := by omega
      by_cases hnN : (j : Int) ≤ N
      · go_wp2
        go_ret
        exact ⟨true, rfl, hb, fun _ => by rw [HN.out]; exact hnN⟩
      · have hnN' : decide ((j : Int) ≤ N) = false := by simp; omega
        go_wp2
        go_ret
        exact ⟨false, rfl, hb, fun h => by cases h⟩

set_option maxRecDepth 100000 in
set_option maxHeartbeats 4000000 in
theorem kitSameWr {A1 A2 : Option Addr} {c1 c2 B n : Nat} {ws : List Wr} (w : World) (ha : RbW w B A1 ws) (hb : RbW w B A2 ws) (hn : ws.length = n) (hB : B ≤ w.heap.size) (hnl : n ≤ 9223372036854775807) :
    Calls Try.prog 21 #[.slice A1 n c1, .slice A2 n c2] w fun e w' => e = .returned (.bool true) ∧ Below w.heap.size w w' := by
  have HN := Lib.hid hn
  have HA := Lib.hid ha
  have HB := Lib.hid hb
  have hnself : ((n : Int) != (n : Int)) = false := by simp
  clear hn ha hb
  go_enter Try.func21, Try.ntmps21
  go_wp2_with fail
  go_loopw [5] (fun iv_ wr => ∃ (j d : Nat), j ≤ n ∧ iv_ = .int .i64 j ∧ wr = w.drewN d) (fun i _ => n - (intOf i).toNat)
  case atStart => exact ⟨0, 0, by omega, rfl, rfl⟩
  case round =>
    obtain ⟨j, d, hj, rfl, rfl⟩ := hrel
    by_cases hlt : j < n
    · have hlt' : (j : Int) < (n : Int) := by omega
      obtain ⟨x, hx⟩ : ∃ x, ws[j]? = some x := ⟨_, List.getElem?_eq_getElem (by rw [HN.out]; exact hlt)⟩
      obtain ⟨b, o, D1, d1, D2, d2, rfl, hbb, e1, e2, e3, -, hr1, -, hr2, -⟩ := HA.out.get hx
      obtain ⟨b', o', F1, f1, F2, f2, rfl, hbb', g1, g2, g3, -, hq1, -, hq2, -⟩ := HB.out.get hx
      have e1' : (w.drewN d).cell? ⟨b, o + j * 3, none⟩ = some (.int .i64 x.kind) := e1
      have e2' : (w.drewN d).cell? ⟨b, o + j * 3 + 1, none⟩ = some (.slice D1 x.key.length d1) := e2
      have e3' : (w.drewN d).cell? ⟨b, o + j * 3 + 2, none⟩ = some (.slice D2 x.val.length d2) := e3
      have g1' : (w.drewN d).cell? ⟨b', o' + j * 3, none⟩ = some (.int .i64 x.kind) := g1
      have g2' : (w.drewN d).cell? ⟨b', o' + j * 3 + 1, none⟩ = some (.slice F1 x.key.length f1) := g2
      have g3' : (w.drewN d).cell? ⟨b', o' + j * 3 + 2, none⟩ = some (.slice F2 x.val.length f2) := g3
      have s1 := fun dd => Rb.str (P := Try.prog) (Rd.drewN hr1 dd) Try.underlying27 Try.underlying5 Try.underlying9 d1
      have s2 := fun dd => Rb.str (P := Try.prog) (Rd.drewN hq1 dd) Try.underlying27 Try.underlying5 Try.underlying9 f1
      have s3 := fun dd => Rb.str (P := Try.prog) (Rd.drewN hr2 dd) Try.underlying27 Try.underlying5 Try.underlying9 d2
      have s4 := fun dd => Rb.str (P := Try.prog) (Rd.drewN hq2 dd) Try.underlying27 Try.underlying5 Try.underlying9 f2
      have hkk : (x.kind != x.kind) = false := by simp
      have t1 : ((strOfNums x.key).toList == (strOfNums x.key).toList) = true := by simp
      have t2 : ((strOfNums x.val).toList == (strOfNums x.val).toList) = true := by simp
      clear hx hr1 hr2 hq1 hq2
      go_wp2_with fail
      go_region
      all_goals go_wp2_with fail
      all_goals exact ⟨⟨j + 1, d + 1, by omega, by simp, rfl⟩, by simp only [intOf]; omega⟩
    · have hlt' : decide ((j : Int) < (n : Int)) = false := by simp; omega
      go_wp2
      go_ret
      exact ⟨rfl, below_drewN (Below.refl _ _) d⟩
end Go.Proofs.Ytlamebbolioljaa

/- What comes in, read as the walks want it. -/
namespace Go.Proofs.Ytlamebbolioljaa
open Go.ChangeShapes Go.WideShapes Go.ChangeAt Go.RowKit

theorem ownKnob_none : ownKnob Try.prog.godebug = none := by kernel_rfl
theorem laidOut : laidOutB Try.prog = true := by kernel_rfl

/-- What a walk is told of a slice of bytes that came in. -/
structure InB (w : World) (A : Option Addr) (n c : Nat) (zs : List Int) : Prop where
  rd : Rb w w.heap.size A zs
  len : zs.length = n
  cap : n ≤ c
  max : c ≤ maxLen
  byt : Byt zs
  nil : A = none → c = 0

theorem byte_wf {x : Int} (h : (Lit.int .u8 x).wf = true) : 0 ≤ x ∧ x ≤ 255 := by
  simp [Lit.wf, IntKind.min, IntKind.max, IntKind.signed, IntKind.bits] at h
  omega

theorem open_inB {H : Type} {enc : TypeId × Value → H} {W : World} {base : Nat} {held : Bool} {d : DataW H} {p : List MemPlace} {a : Option Addr} {len cap : Nat}
    (h : DataW.Trod enc Try.prog W base (fun _ => true) held 27 (.slice a len cap) d p) : ∃ zs, InB W a len cap zs := by
  obtain ⟨fuel, hf⟩ := h
  rcases open_ints Try.underlying27 Try.underlying5 (by kernel_rfl) hf with ⟨hcs, _⟩ | ⟨x, l, c, zs, hcs, _, hl, hm, hz, _, hcell, hwz⟩
  · simp [Value.cells] at hcs
    obtain ⟨rfl, rfl, rfl⟩ := hcs
    exact ⟨[], Rd.nil, rfl, Nat.le_refl _, by simp [maxLen], fun x hx => by simp at hx, fun _ => rfl⟩
  · simp [Value.cells] at hcs
    obtain ⟨rfl, rfl, rfl⟩ := hcs
    have hz : zs.length = cap := by simpa using hz
    refine ⟨zs.take len, ?_, by simp; omega, hl, hm, fun y hy => byte_wf (hwz y (List.mem_of_mem_take hy)), fun h => by cases h⟩
    intro hn
    have hpos : 0 < zs.length := by
      rcases Nat.eq_zero_or_pos zs.length with h0 | h0
      · rw [List.eq_nil_of_length_eq_zero h0] at hn; simp [bv] at hn
      · exact h0
    obtain ⟨b, off, spot⟩ := x
    have hc := hcell 0 hpos
    have hspot : spot = none := by simpa [Addr.add] using World.cell?_spot hc
    subst hspot
    refine ⟨b, off, rfl, World.block_lt_of_cell? W ⟨b, off, none⟩ (by simpa [Addr.add] using hc), fun j u hu => ?_⟩
    rw [← bv_take, List.getElem?_take] at hu
    split at hu
    · have hj : j < zs.length := by
        have := (List.getElem?_eq_some_iff.1 hu).1
        simpa [bv] using this
      have h2 := hcell j hj
      rw [Addr.add_lit] at h2
      rw [h2, ← hu]
      simp [bv, List.getD, hj]
    · cases hu
end Go.Proofs.Ytlamebbolioljaa

/- Spans that came in. -/
namespace Go.Proofs.Ytlamebbolioljaa
open Go.ChangeShapes Go.WideShapes Go.ChangeAt Go.RowKit

theorem list_of {α : Type} (P : Nat → α → Prop) : ∀ (n : Nat), (∀ i, i < n → ∃ x, P i x) → ∃ l : List α, l.length = n ∧ ∀ i x, l[i]? = some x → P i x
  | 0, _ => ⟨[], rfl, fun i x h => by simp at h⟩
  | n + 1, h => by
    obtain ⟨l, hl, hp⟩ := list_of P n fun i hi => h i (by omega)
    obtain ⟨x, hx⟩ := h n (by omega)
    refine ⟨l ++ [x], by simp [hl], fun i y hy => ?_⟩
    by_cases hi : i < l.length
    · rw [List.getElem?_append_left hi] at hy
      exact hp i y hy
    · have hin : i = n := by
        have := (List.getElem?_eq_some_iff.1 hy).1
        simp at this
        omega
      subst hin
      rw [List.getElem?_append_right (by omega), hl, Nat.sub_self] at hy
      simp at hy
      subst hy
      exact hx
/-- Tags that came in. -/
structure InT (w : World) (A : Option Addr) (n c : Nat) (l : List Tg) : Prop where
  rd : RbT w w.heap.size A l
  len : l.length = n
  cap : n ≤ c
  max : c ≤ maxLen
set_option maxRecDepth 100000 in
theorem open_tag {H : Type} {enc : TypeId × Value → H} {W : World} {base : Nat} {held : Bool} {cs : List Value} {fuel : Nat} {y : DataW H × List MemPlace} {a : Addr} {b0 : Nat}
    (hc : W.cells? b0 a 2 = some cs) (h : DataW.trod enc Try.prog W base (fun _ => true) held fuel 97 cs = some y) : ∃ x : Tg, W.cell? a = some (.string x.key) ∧ W.cell? (a.add 1) = some (.string x.val) := by
  obtain ⟨xs, n, _, _, hlen, hyl, hf⟩ := DataW.trod_struct Try.underlying97 h
  obtain ⟨_, hcl, hat⟩ := World.cells?_some hc
  match cs, hcl with
  | [v0, v1], _ =>
    match xs, hyl with
    | [y0, y1], _ =>
      have cS : Try.prog.cellsOf 9 = 1 := by kernel_rfl
      have h0 : DataW.trod enc Try.prog W base (fun _ => true) held n 9 (([v0, v1].drop 0).take (Try.prog.cellsOf 9)) = some y0 := hf 0 _ rfl
      have h1 : DataW.trod enc Try.prog W base (fun _ => true) held n 9 (([v0, v1].drop 1).take (Try.prog.cellsOf 9)) = some y1 := hf 1 _ rfl
      rw [cS] at h0 h1
      simp only [List.drop_zero, List.drop_succ_cons, List.take_succ_cons, List.take_zero] at h0 h1
      obtain ⟨k, hk, -, -⟩ := DataW.trod_string Try.underlying9 h0
      obtain ⟨v, hv, -, -⟩ := DataW.trod_string Try.underlying9 h1
      simp at hk hv
      subst hk hv
      refine ⟨⟨k, v⟩, ?_, hat 1 (by omega)⟩
      have := hat 0 (by omega)
      simpa [Addr.add] using this
set_option maxRecDepth 100000 in
theorem open_fT {H : Type} {enc : TypeId × Value → H} {W : World} {base : Nat} {held : Bool} {v : Value} {fuel : Nat} {x : DataW H × List MemPlace}
    (h : DataW.trod enc Try.prog W base (fun _ => true) held fuel 41 [v] = some x) : ∃ A n c l, v = .slice A n c ∧ InT W A n c l := by
  rcases Deep.open_slice Try.underlying41 h with ⟨hcs, _⟩ | ⟨a, len, cap, m, n, D, Pl, hcs, hb, hl, hm, hmm, hx, hi⟩
  · simp at hcs
    subst hcs
    exact ⟨none, 0, 0, [], rfl, ⟨Rd.nil, rfl, Nat.le_refl _, by simp [maxLen]⟩⟩
  · simp at hcs
    subst hcs
    rw [if_pos rfl] at hmm
    subst hmm
    have hC : Try.prog.cellsOf 97 = 2 := by kernel_rfl
    rw [hC] at hi
    obtain ⟨l, hwl, hw⟩ := list_of (fun i (x : Tg) => W.cell? (a.add (i * 2)) = some (.string x.key) ∧ W.cell? ((a.add (i * 2)).add 1) = some (.string x.val)) len fun i hil => by
      obtain ⟨cs', hc, ht⟩ := hi i (by omega)
      exact open_tag hc ht
    refine ⟨some a, len, m, l, rfl, ⟨?_, hwl, hl, hm⟩⟩
    intro hne
    have hpos : 0 < len := by
      rcases Nat.eq_zero_or_pos len with h0 | h0
      · rw [← hwl] at h0
        rw [List.eq_nil_of_length_eq_zero h0] at hne
        exact absurd rfl hne
      · exact h0
    obtain ⟨x0, hx0⟩ : ∃ x0, l[0]? = some x0 := ⟨_, List.getElem?_eq_getElem (by omega)⟩
    obtain ⟨b, off, spot⟩ := a
    have h0 := (hw 0 x0 hx0).1
    simp only [Nat.zero_mul, Addr.add] at h0
    have hspot : spot = none := by simpa using World.cell?_spot h0
    subst hspot
    refine ⟨b, off, rfl, World.block_lt_of_cell? W ⟨b, off, none⟩ (by simpa using h0), fun j u hu => ?_⟩
    have hj : j < l.length * 2 := by
      have := (List.getElem?_eq_some_iff.1 hu).1
      rwa [tgs_length] at this
    obtain ⟨x1, hx1⟩ : ∃ x1, l[j / 2]? = some x1 := ⟨_, List.getElem?_eq_getElem (by omega)⟩
    obtain ⟨g1, g2⟩ := hw (j / 2) x1 hx1
    obtain ⟨t1, t2⟩ := tgs_get hx1
    rcases Nat.mod_two_eq_zero_or_one j with hr | hr
    · have e : j / 2 * 2 = j := by omega
      rw [e] at t1 g1
      rw [hu] at t1
      rw [Option.some.inj t1]
      rw [Addr.add_lit] at g1
      exact g1
    · have e : j / 2 * 2 + 1 = j := by omega
      rw [e] at t2
      rw [hu] at t2
      rw [Option.some.inj t2]
      rw [Addr.add_lit, Addr.add_lit] at g2
      rw [← e, ← Nat.add_assoc]
      exact g2
/-- A span that came in. -/
structure InSp (w : World) (s : Sp) (A : Option Addr) (n c : Nat) : Prop where
  tags : InT w A n c s.tags
  u64 : s.U64
  service : s.service.size ≤ maxLen
  name : s.name.size ≤ maxLen
theorem u64_of {s : Int} (h : (Lit.int .u64 s).wf = true) : 0 ≤ s ∧ s < 18446744073709551616 := by
  simp [Lit.wf, IntKind.min, IntKind.max, IntKind.signed, IntKind.bits] at h
  omega
theorem array11 {cs : Array Value} (h : cs.size = 11) : ∃ a b c d e f g i j k l, cs = #[a, b, c, d, e, f, g, i, j, k, l] := by
  obtain ⟨l⟩ := cs
  match l, h with
  | [a, b, c, d, e, f, g, i, j, k, l], _ => exact ⟨a, b, c, d, e, f, g, i, j, k, l, rfl⟩
set_option maxRecDepth 100000 in
theorem open_spCells {H : Type} {enc : TypeId × Value → H} {W : World} {base : Nat} {held : Bool} {c0 c1 c2 c3 c4 c5 c6 c7 c8 c9 c10 : Value} {fuel : Nat} {x : DataW H × List MemPlace}
    (h : DataW.trod enc Try.prog W base (fun _ => true) held fuel 43 [c0, c1, c2, c3, c4, c5, c6, c7, c8, c9, c10] = some x) :
    ∃ (s : Sp) (A : Option Addr) (n c : Nat), [c0, c1, c2, c3, c4, c5, c6, c7, c8, c9, c10] = (spC s A n c).toList ∧ InSp W s A n c := by
  obtain ⟨xs, n, _, _, hlen, hyl, hf⟩ := DataW.trod_struct Try.underlying43 h
  match xs, hyl with
  | [y0, y1, y2, y3, y4, y5, y6, y7, y8, y9], _ =>
    have cT : Try.prog.cellsOf 24 = 2 := by kernel_rfl
    have cU : Try.prog.cellsOf 22 = 1 := by kernel_rfl
    have cS : Try.prog.cellsOf 9 = 1 := by kernel_rfl
    have cI : Try.prog.cellsOf 3 = 1 := by kernel_rfl
    have cJ : Try.prog.cellsOf 2 = 1 := by kernel_rfl
    have cB : Try.prog.cellsOf 4 = 1 := by kernel_rfl
    have cL : Try.prog.cellsOf 41 = 1 := by kernel_rfl
    obtain ⟨cs, hcs⟩ : ∃ cs, [c0, c1, c2, c3, c4, c5, c6, c7, c8, c9, c10] = cs := ⟨_, rfl⟩
    rw [hcs] at hf
    have h0 : DataW.trod enc Try.prog W base (fun _ => true) held n 24 ((cs.drop 0).take (Try.prog.cellsOf 24)) = some y0 := hf 0 _ rfl
    have h1 : DataW.trod enc Try.prog W base (fun _ => true) held n 22 ((cs.drop 2).take (Try.prog.cellsOf 22)) = some y1 := hf 1 _ rfl
    have h2 : DataW.trod enc Try.prog W base (fun _ => true) held n 22 ((cs.drop 3).take (Try.prog.cellsOf 22)) = some y2 := hf 2 _ rfl
    have h3 : DataW.trod enc Try.prog W base (fun _ => true) held n 9 ((cs.drop 4).take (Try.prog.cellsOf 9)) = some y3 := hf 3 _ rfl
    have h4 : DataW.trod enc Try.prog W base (fun _ => true) held n 9 ((cs.drop 5).take (Try.prog.cellsOf 9)) = some y4 := hf 4 _ rfl
    have h5 : DataW.trod enc Try.prog W base (fun _ => true) held n 3 ((cs.drop 6).take (Try.prog.cellsOf 3)) = some y5 := hf 5 _ rfl
    have h6 : DataW.trod enc Try.prog W base (fun _ => true) held n 2 ((cs.drop 7).take (Try.prog.cellsOf 2)) = some y6 := hf 6 _ rfl
    have h7 : DataW.trod enc Try.prog W base (fun _ => true) held n 2 ((cs.drop 8).take (Try.prog.cellsOf 2)) = some y7 := hf 7 _ rfl
    have h8 : DataW.trod enc Try.prog W base (fun _ => true) held n 4 ((cs.drop 9).take (Try.prog.cellsOf 4)) = some y8 := hf 8 _ rfl
    have h9 : DataW.trod enc Try.prog W base (fun _ => true) held n 41 ((cs.drop 10).take (Try.prog.cellsOf 41)) = some y9 := hf 9 _ rfl
    subst hcs
    rw [cT] at h0
    rw [cU] at h1 h2
    rw [cS] at h3 h4
    rw [cI] at h5
    rw [cJ] at h6 h7
    rw [cB] at h8
    rw [cL] at h9
    simp only [List.drop_zero, List.drop_succ_cons, List.take_succ_cons, List.take_zero] at h0 h1 h2 h3 h4 h5 h6 h7 h8 h9
    obtain ⟨zs, m, _, _, _, hzl, hg⟩ := DataW.trod_struct Try.underlying24 h0
    match zs, hzl with
    | [z0, z1], _ =>
      have g0 : DataW.trod enc Try.prog W base (fun _ => true) held m 22 (([c0, c1].drop 0).take (Try.prog.cellsOf 22)) = some z0 := hg 0 _ rfl
      have g1 : DataW.trod enc Try.prog W base (fun _ => true) held m 22 (([c0, c1].drop 1).take (Try.prog.cellsOf 22)) = some z1 := hg 1 _ rfl
      rw [cU] at g0 g1
      simp only [List.drop_zero, List.drop_succ_cons, List.take_succ_cons, List.take_zero] at g0 g1
      obtain ⟨q0, e0, -, w0⟩ := DataW.trod_int Try.underlying22 g0
      obtain ⟨q1, e1, -, w1⟩ := DataW.trod_int Try.underlying22 g1
      obtain ⟨q2, e2, -, w2⟩ := DataW.trod_int Try.underlying22 h1
      obtain ⟨q3, e3, -, w3⟩ := DataW.trod_int Try.underlying22 h2
      obtain ⟨q4, e4, -, w4⟩ := DataW.trod_string Try.underlying9 h3
      obtain ⟨q5, e5, -, w5⟩ := DataW.trod_string Try.underlying9 h4
      obtain ⟨q6, e6, -, -⟩ := DataW.trod_int (k := .i64) (by kernel_rfl) h5
      obtain ⟨q7, e7, -, -⟩ := DataW.trod_int Try.underlying2 h6
      obtain ⟨q8, e8, -, -⟩ := DataW.trod_int Try.underlying2 h7
      obtain ⟨q9, e9, -⟩ := DataW.trod_bool Try.underlying4 h8
      obtain ⟨A, nt, ct, l, e10, hT⟩ := open_fT h9
      simp at e0 e1 e2 e3 e4 e5 e6 e7 e8 e9
      subst e0 e1 e2 e3 e4 e5 e6 e7 e8 e9 e10
      have r0 := u64_of w0
      have r1 := u64_of w1
      have r2 := u64_of w2
      have r3 := u64_of w3
      have u0 : q0.toNat < 18446744073709551616 := by omega
      have u1 : q1.toNat < 18446744073709551616 := by omega
      have u2 : q2.toNat < 18446744073709551616 := by omega
      have u3 : q3.toNat < 18446744073709551616 := by omega
      refine ⟨⟨q0.toNat, q1.toNat, q2.toNat, q3.toNat, q4, q5, q6, q7, q8, q9, l⟩, A, nt, ct, ?_, hT, ⟨u0, u1, u2, u3⟩, w4, w5⟩
      simp only [spC, Int.toNat_of_nonneg r0.1, Int.toNat_of_nonneg r1.1, Int.toNat_of_nonneg r2.1, Int.toNat_of_nonneg r3.1]
set_option maxRecDepth 100000 in
theorem open_inSp {H : Type} {enc : TypeId × Value → H} {W : World} {base b0 : Nat} {r : Reach} {held : Bool} {v : Value} {d : DataW H} {p : List MemPlace} (hv : Value.okWide Try.prog W r b0 43 v)
    (h : DataW.Trod enc Try.prog W base (fun _ => true) held 43 v d p) : ∃ (s : Sp) (A : Option Addr) (n c : Nat), v = spV s A n c ∧ InSp W s A n c := by
  obtain ⟨cs, rfl, hsz⟩ := okWide_struct Try.underlying43 hv
  have hC : Try.prog.cellsOf 43 = 11 := by kernel_rfl
  obtain ⟨c0, c1, c2, c3, c4, c5, c6, c7, c8, c9, c10, rfl⟩ := array11 (hsz.trans hC)
  obtain ⟨fuel, hf⟩ := h
  obtain ⟨s, A, n, c, e, hi⟩ := open_spCells hf
  refine ⟨s, A, n, c, ?_, hi⟩
  rw [spV]
  congr 1
  exact Array.toList_inj.1 e
end Go.Proofs.Ytlamebbolioljaa

/- Adjusted spans that came in. -/
namespace Go.Proofs.Ytlamebbolioljaa
open Go.ChangeShapes Go.WideShapes Go.ChangeAt Go.RowKit

structure InAd (w : World) (a : Ad) (A : Option Addr) (n c : Nat) : Prop where
  sp : InSp w a.s A n c
  ok : a.Ok
theorem i64_ofK {s : Int} (h : (Lit.int .i64 s).wf = true) : -9223372036854775808 ≤ s ∧ s ≤ 9223372036854775807 := by
  simp [Lit.wf, IntKind.min, IntKind.max, IntKind.signed, IntKind.bits] at h
  omega
theorem array14 {cs : Array Value} (h : cs.size = 14) : ∃ a b c d e f g i j k l m n o, cs = #[a, b, c, d, e, f, g, i, j, k, l, m, n, o] := by
  obtain ⟨l⟩ := cs
  match l, h with
  | [a, b, c, d, e, f, g, i, j, k, l, m, n, o], _ => exact ⟨a, b, c, d, e, f, g, i, j, k, l, m, n, o, rfl⟩
set_option maxRecDepth 100000 in
theorem open_adCells {H : Type} {enc : TypeId × Value → H} {W : World} {base : Nat} {held : Bool} {c0 c1 c2 c3 c4 c5 c6 c7 c8 c9 c10 c11 c12 c13 : Value} {fuel : Nat} {x : DataW H × List MemPlace}
    (h : DataW.trod enc Try.prog W base (fun _ => true) held fuel 45 [c0, c1, c2, c3, c4, c5, c6, c7, c8, c9, c10, c11, c12, c13] = some x) :
    ∃ (a : Ad) (A : Option Addr) (n c : Nat), [c0, c1, c2, c3, c4, c5, c6, c7, c8, c9, c10, c11, c12, c13] = (adC a A n c).toList ∧ InAd W a A n c := by
  obtain ⟨xs, n, _, _, hlen, hyl, hf⟩ := DataW.trod_struct Try.underlying45 h
  match xs, hyl with
  | [y0, y1, y2, y3], _ =>
    have cP : Try.prog.cellsOf 43 = 11 := by kernel_rfl
    have cU : Try.prog.cellsOf 22 = 1 := by kernel_rfl
    have cI : Try.prog.cellsOf 3 = 1 := by kernel_rfl
    have cJ : Try.prog.cellsOf 2 = 1 := by kernel_rfl
    obtain ⟨cs, hcs⟩ : ∃ cs, [c0, c1, c2, c3, c4, c5, c6, c7, c8, c9, c10, c11, c12, c13] = cs := ⟨_, rfl⟩
    rw [hcs] at hf
    have h0 : DataW.trod enc Try.prog W base (fun _ => true) held n 43 ((cs.drop 0).take (Try.prog.cellsOf 43)) = some y0 := hf 0 _ rfl
    have h1 : DataW.trod enc Try.prog W base (fun _ => true) held n 22 ((cs.drop 11).take (Try.prog.cellsOf 22)) = some y1 := hf 1 _ rfl
    have h2 : DataW.trod enc Try.prog W base (fun _ => true) held n 2 ((cs.drop 12).take (Try.prog.cellsOf 2)) = some y2 := hf 2 _ rfl
    have h3 : DataW.trod enc Try.prog W base (fun _ => true) held n 3 ((cs.drop 13).take (Try.prog.cellsOf 3)) = some y3 := hf 3 _ rfl
    subst hcs
    rw [cP] at h0
    rw [cU] at h1
    rw [cJ] at h2
    rw [cI] at h3
    simp only [List.drop_zero, List.drop_succ_cons, List.take_succ_cons, List.take_zero] at h0 h1 h2 h3
    obtain ⟨s, A, nt, ct, e, hs⟩ := open_spCells h0
    obtain ⟨q1, e1, -, w1⟩ := DataW.trod_int Try.underlying22 h1
    obtain ⟨q2, e2, -, w2⟩ := DataW.trod_int Try.underlying2 h2
    obtain ⟨q3, e3, -, -⟩ := DataW.trod_int (k := .i64) (by kernel_rfl) h3
    simp at e1 e2 e3
    subst e1 e2 e3
    have r1 := u64_of w1
    have u1 : q1.toNat < 18446744073709551616 := by omega
    have r2 := i64_ofK w2
    refine ⟨⟨s, q1.toNat, q2, q3⟩, A, nt, ct, ?_, hs, hs.u64, u1, r2.1, r2.2⟩
    simp only [adC, Int.toNat_of_nonneg r1.1]
    have e' : [c0, c1, c2, c3, c4, c5, c6, c7, c8, c9, c10, .int .u64 q1, .int .i64 q2, .int .i64 q3] = (spC s A nt ct).toList ++ [.int .u64 q1, .int .i64 q2, .int .i64 q3] := by rw [← e]; rfl
    exact e'
set_option maxRecDepth 100000 in
theorem open_inAd {H : Type} {enc : TypeId × Value → H} {W : World} {base b0 : Nat} {r : Reach} {held : Bool} {v : Value} {d : DataW H} {p : List MemPlace} (hv : Value.okWide Try.prog W r b0 45 v)
    (h : DataW.Trod enc Try.prog W base (fun _ => true) held 45 v d p) : ∃ (a : Ad) (A : Option Addr) (n c : Nat), v = adV a A n c ∧ InAd W a A n c := by
  obtain ⟨cs, rfl, hsz⟩ := okWide_struct Try.underlying45 hv
  have hC : Try.prog.cellsOf 45 = 14 := by kernel_rfl
  obtain ⟨c0, c1, c2, c3, c4, c5, c6, c7, c8, c9, c10, c11, c12, c13, rfl⟩ := array14 (hsz.trans hC)
  obtain ⟨fuel, hf⟩ := h
  obtain ⟨a, A, n, c, e, hi⟩ := open_adCells hf
  refine ⟨a, A, n, c, ?_, hi⟩
  rw [adV]
  congr 1
  exact Array.toList_inj.1 e
end Go.Proofs.Ytlamebbolioljaa

/- What comes in: a list of adjusted spans. -/
namespace Go.Proofs.Ytlamebbolioljaa
open Go.ChangeShapes Go.WideShapes Go.ChangeAt Go.RowKit

theorem InAd.ae {w : World} {a : Ad} {A : Option Addr} {n c : Nat} (h : InAd w a A n c) : AeOk w w.heap.size ⟨a, A, n, c⟩ :=
  ⟨h.sp.tags.rd, h.sp.tags.len, by have h1 := h.sp.tags.cap; have h2 := h.sp.tags.max; simp only [maxLen] at h2; show n ≤ _; omega, h.ok⟩
/-- Adjusted spans that came in. -/
structure InAs (w : World) (A : Option Addr) (n c : Nat) (l : List AE) : Prop where
  rd : RbA w w.heap.size A l
  len : l.length = n
  cap : n ≤ c
  max : c ≤ maxLen
set_option maxRecDepth 100000 in
theorem open_inAs {H : Type} {enc : TypeId × Value → H} {W : World} {base b0 : Nat} {r : Reach} {held : Bool} {v : Value} {d : DataW H} {p : List MemPlace} (_hv : Value.okWide Try.prog W r b0 46 v)
    (h : DataW.Trod enc Try.prog W base (fun _ => true) held 46 v d p) : ∃ (A : Option Addr) (n c : Nat) (l : List AE), v = .slice A n c ∧ InAs W A n c l := by
  obtain ⟨aa, len, cap, rfl⟩ := okWide_slice Try.underlying46 _hv
  obtain ⟨fuel, hf⟩ := h
  rcases Deep.open_slice Try.underlying46 hf with ⟨hcs, _⟩ | ⟨a, len, cap, m, n, D, Pl, hcs, hb, hl, hm, hmm, hx, hi⟩
  · simp [Value.cells] at hcs
    obtain ⟨rfl, rfl, rfl⟩ := hcs
    exact ⟨none, 0, 0, [], rfl, ⟨RbA.nil, rfl, Nat.le_refl _, by simp [maxLen]⟩⟩
  · simp [Value.cells] at hcs
    obtain ⟨rfl, rfl, rfl⟩ := hcs
    rw [if_pos rfl] at hmm
    subst hmm
    have hC : Try.prog.cellsOf 45 = 14 := by kernel_rfl
    rw [hC] at hi
    obtain ⟨l, hll, hw⟩ := list_of (fun i (e : AE) => (∀ j, j < 14 → W.cell? ((a.add (i * 14)).add j) = (aeC e)[j]?) ∧ AeOk W W.heap.size e) len fun i hil => by
      obtain ⟨cs', hc, ht⟩ := hi i (by omega)
      obtain ⟨_, hcl, hat⟩ := World.cells?_some hc
      match cs', hcl with
      | [c0, c1, c2, c3, c4, c5, c6, c7, c8, c9, c10, c11, c12, c13], _ =>
        obtain ⟨s, A, n, c, he, hin⟩ := open_adCells ht
        refine ⟨⟨s, A, n, c⟩, fun j hj => ?_, hin.ae⟩
        have h1 := hat j hj
        rw [he] at h1
        exact h1
    refine ⟨some a, _, _, l, rfl, ⟨⟨?_, ?_⟩, hll, hl, hm⟩⟩
    · intro hne
      have hpos : 0 < l.length := by
        rcases Nat.eq_zero_or_pos l.length with h0 | h0
        · rw [List.eq_nil_of_length_eq_zero h0] at hne
          exact absurd rfl hne
        · exact h0
      obtain ⟨x0, hx0⟩ : ∃ x0, l[0]? = some x0 := ⟨_, List.getElem?_eq_getElem hpos⟩
      obtain ⟨b, off, spot⟩ := a
      have h0 := (hw 0 x0 hx0).1 0 (by omega)
      simp only [Nat.zero_mul, Addr.add] at h0
      have h1 : (aeC x0)[0]? = some (.int .u64 x0.a.s.hi) := rfl
      rw [h1] at h0
      have hspot : spot = none := by simpa using World.cell?_spot h0
      subst hspot
      refine ⟨b, off, rfl, World.block_lt_of_cell? W ⟨b, off, none⟩ (by simpa using h0), fun j u hu => ?_⟩
      have hj : j < l.length * 14 := by
        have := (List.getElem?_eq_some_iff.1 hu).1
        rwa [flatR_length aeC_length] at this
      obtain ⟨x1, hx1⟩ : ∃ x1, l[j / 14]? = some x1 := ⟨_, List.getElem?_eq_getElem (by omega)⟩
      have h2 := (hw (j / 14) x1 hx1).1 (j % 14) (Nat.mod_lt _ (by omega))
      have h3 := flatR_get aeC_length hx1 (j % 14) (Nat.mod_lt _ (by omega))
      rw [Addr.add_lit, Addr.add_lit, Nat.add_assoc, show j / 14 * 14 + j % 14 = j from by omega] at h2
      rw [show j / 14 * 14 + j % 14 = j from by omega] at h3
      rw [h2, ← h3, hu]
    · intro e he
      obtain ⟨i, hi, hxi⟩ := List.getElem_of_mem he
      exact (hw i e (by rw [List.getElem?_eq_getElem hi, hxi])).2
end Go.Proofs.Ytlamebbolioljaa

/- The statement SchemaWrites: whatever a trace is, its writes are what the document says. The walk. -/
namespace Go.Proofs.Ytlamebbolioljaa
open Go.RowKit

theorem wrOut_len (l : List AE) : (wrOut l).1.length ≤ 1024 := by
  unfold wrOut
  split
  · simp
  split
  · simp
  split
  · simp
  split
  · simp
  split
  · simp
  · show (wrAll l).length ≤ 1024
    omega
theorem scWr {A : Option Addr} {n c B : Nat} (l : List AE) (w : World) (h : RbA w B A l) (hn : l.length = n) (hB : B ≤ w.heap.size) : Calls Try.prog 18 #[.slice A n c] w (WrsPost w (wrOut l)) := by
  by_cases h0 : n = 0
  · subst h0
    rw [wrOut, if_pos hn]
    exact scWritesNone w c A
  · by_cases h1 : 32 < n
    · rw [wrOut, if_neg (by omega), if_pos (by omega)]
      exact scWritesLong w n c A h1
    · exact scWrites l w h hn hB (by omega) (by omega)
theorem rWr {A : Option Addr} {n c B : Nat} (l : List AE) (w : World) (h : RbA w B A l) (hn : l.length = n) (hB : B ≤ w.heap.size) : Calls Try.prog 20 #[.slice A n c] w (WrsPost w (wrOut l)) := by
  by_cases h0 : n = 0
  · subst h0
    rw [wrOut, if_pos hn]
    exact rWritesNone w c A
  · by_cases h1 : 32 < n
    · rw [wrOut, if_neg (by omega), if_pos (by omega)]
      exact rWritesLong w n c A h1
    · exact rWrites l w h hn hB (by omega) (by omega)
set_option maxRecDepth 100000 in
set_option maxHeartbeats 4000000 in
theorem schemaWrites_walk (A : Option Addr) (n c : Nat) (l : List AE) (w : World) (h : InAs w A n c l) :
    Calls Try.prog 5 #[.slice A n c] w fun e w' => e = .returned (.bool true) ∧ Below w.heap.size w w' := by
  have hnm : n ≤ 9223372036854775807 := by have h1 := h.cap; have h2 := h.max; simp only [maxLen] at h2; omega
  obtain ⟨r, hr⟩ : ∃ r, wrOut l = r := ⟨_, rfl⟩
  have hrl : r.1.length ≤ 1024 := by rw [← hr]; exact wrOut_len l
  have HA := Lib.hid h.rd
  have CL : Hid (∀ W, Below w.heap.size w W → Calls Try.prog 19 #[.slice A n c, .int .i64 40, .int .i64 200] W (SmalladPost W l 40)) := Lib.hid fun W hW => kitSmallAds 40 200 W (h.rd.below hW) h.len hW.size hnm (by omega)
  have C1 : Hid (∀ W, Below w.heap.size w W → Calls Try.prog 18 #[.slice A n c] W (WrsPost W r)) := Lib.hid fun W hW => by rw [← hr]; exact scWr l W (h.rd.below hW) h.len hW.size
  have C2 : Hid (∀ W, Below w.heap.size w W → Calls Try.prog 20 #[.slice A n c] W (WrsPost W r)) := Lib.hid fun W hW => by rw [← hr]; exact rWr l W (h.rd.below hW) h.len hW.size
  have hself : ((r.2 : Int) == (r.2 : Int)) = true := by simp
  have HRL := Lib.hid hrl
  clear hr h hrl
  go_enter Try.func5, Try.ntmps5
  go_upto_region 3 with (go_at_call 8; refine (scLives _).mono ?_; rintro e w2 ⟨rfl, hb2⟩)
  go_upto_if 11 with (go_at_call 19; refine (CL.out _ hb2).mono ?_; rintro e w3 ⟨q, rfl, hb3, -⟩)
  have hb23 := hb2.trans (hb3.mono hb2.size)
  clear hb3
  cases q with
  | false =>
    go_wp2_with fail
    go_ret
    exact ⟨rfl, hb23⟩
  | true =>
    go_wp2_with (first
      | (go_at_call 18; refine (C1.out _ hb23).mono ?_; rintro e w4 ⟨A4, c4, rfl, hw4, hb4, -⟩; have hb24 := hb23.trans (hb4.mono hb23.size))
      | (go_at_call 20; refine (C2.out _ hb24).mono ?_; rintro e w5 ⟨A5, c5, rfl, hw5, hb5, -⟩; have hb25 := hb24.trans (hb5.mono hb24.size))
      | (go_at_call 21; refine (kitSameWr (B := w5.heap.size) w5 (hw4.belowS hb5) hw5 rfl (Nat.le_refl _) (by have := HRL.out; omega)).mono ?_; rintro e w6 ⟨rfl, hb6⟩))
    go_ret
    exact ⟨rfl, hb25.trans (hb6.mono hb25.size)⟩
end Go.Proofs.Ytlamebbolioljaa

/- The statement SchemaNames: the chapter's examples. The walk. -/
namespace Go.Proofs.Ytlamebbolioljaa
open Go.RowKit
theorem loadKy_shutN (a : Addr) : loadVar 26 a = loadK 26 a := rfl
attribute [local go_sem ↓] loadKy_shutN

theorem strOfNums_app2 (a b : List Int) : strOfNums (a ++ b) = strOfNums a ++ strOfNums b := by
  apply ByteArray.ext
  apply Array.ext'
  rw [ByteArray.data_append, Array.toList_append, strOfNums_data, strOfNums_data, strOfNums_data, List.map_append]
set_option maxRecDepth 100000 in
set_option maxHeartbeats 4000000 in
theorem schemaNames_walk (w : World) :
    Calls Try.prog 4 #[] w fun e w' => e = .returned (.bool true) ∧ Below w.heap.size w w' := by
  go_enter Try.func4, Try.ntmps4
  go_upto_region 3 with (go_at_call 8; refine (scLives _).mono ?_; rintro e w2 ⟨rfl, hb2⟩)
  have cp := scPackK trK w2 (by unfold Ky.U64 trK; simp)
  rw [trK_pack] at cp
  have CP := Lib.hid cp
  clear cp
  go_upto_region 4 with (go_at_call 10; refine CP.out.mono ?_; rintro e w3 ⟨A3, c3, rfl, hr3, hb3, -, -, -⟩)
  have hb23 := hb2.trans (hb3.mono hb2.size)
  have cf := scFirst nameK 1 w3 (by unfold Ky.U64 nameK; simp) (by omega) (by omega)
  rw [nameK_first] at cf
  have CF := Lib.hid cf
  clear cf hb2 hb3
  go_upto_region 5 with (go_at_call 14; refine CF.out.mono ?_; rintro e w4 ⟨A4, c4, rfl, hr4, hb4, -, -, -⟩)
  have hb24 := hb23.trans (hb4.mono hb23.size)
  have hr34 := hr3.belowS hb4
  have cv1 := conv_const w4 #[.int .u8 110, .int .u8 97] 2 2 w4.heap.size rfl
  have hru : Rb (w4.alloc (.cells #[.int .u8 110, .int .u8 97] 5 (2, 3))) (w4.heap.size + 1) (some ⟨w4.heap.size, 0, none⟩) [110, 97] := Rd.litm (w := w4) (cs := #[.int .u8 110, .int .u8 97]) (g := w4.heap.size) rfl
  have cu := scUnpack (zs := [110, 97]) (n := 2) (c0 := 2) (w4.alloc (.cells #[.int .u8 110, .int .u8 97] 5 (2, 3))) hru (by simp) (by intro x hx; simp at hx; omega) (by omega) rfl (by omega)
  rw [na_unp] at cu
  have CU := Lib.hid cu
  clear cu hru hb23 hb4 hr3
  go_upto_region 6 with (go_at_call 12; refine CU.out.mono ?_; rintro e w5 ⟨rfl, hb5⟩)
  have hb46 : Below w4.heap.size w4 (w5.alloc (.cells (kyC zeroKy) 26)) := by
    have h1 : Below w4.heap.size w4 (w4.alloc (.cells #[.int .u8 110, .int .u8 97] 5 (2, 3))) := (Below.refl _ w4).alloc (Nat.le_refl _) _
    have h2 := h1.trans (hb5.mono h1.size)
    exact h2.alloc h2.size _
  obtain ⟨w6, hw6⟩ : ∃ w6, w5.alloc (.cells (kyC zeroKy) 26) = w6 := ⟨_, rfl⟩
  rw [hw6] at hb46 ⊢
  have hb26 := hb24.trans (hb46.mono hb24.size)
  have hr36 := hr34.belowS hb46
  have hr46 := hr4.belowS hb46
  clear hw6 hb24 hb5 hr34 hr4 cv1 hb46
  have hra : RbA (w6.alloc (.cells (adC nmA none 0 0) 45)) (w6.heap.size + 1) (some ⟨w6.heap.size, 0, none⟩) [nmE] := by
    refine ⟨?_, fun e he => ?_⟩
    · have h := Rd.lit w6 (adC nmA none 0 0) 45
      simpa [aes, flatR, aeC, nmE] using h
    · rw [List.mem_singleton] at he
      subst he
      exact ⟨Rd.nil, rfl, by show (0 : Nat) ≤ _; omega, by unfold Ad.Ok Sp.U64 nmE nmA; simp⟩
  obtain ⟨r, hr⟩ : ∃ r, wrOut [nmE] = r := ⟨_, rfl⟩
  have hre := nm_err
  have hrf := nm_firsts
  have cw := scWr (A := some ⟨w6.heap.size, 0, none⟩) (n := 1) (c := 1) [nmE] (w6.alloc (.cells (adC nmA none 0 0) 45)) hra rfl (by simp)
  rw [hr] at cw hre hrf
  obtain ⟨ws, q⟩ := r
  simp only at hre hrf
  subst hre
  have CW := Lib.hid cw
  have HF := Lib.hid hrf
  clear hr cw hrf hra
  go_upto_region 7 with (go_at_call 18; refine CW.out.mono ?_; rintro e w7 ⟨A7, c7, rfl, hr7, hb7, -⟩)
  have hb67 : Below w6.heap.size w6 w7 := by
    have h1 : Below w6.heap.size w6 (w6.alloc (.cells (adC nmA none 0 0) 45)) := (Below.refl _ w6).alloc (Nat.le_refl _) _
    exact h1.trans (hb7.mono h1.size)
  have hr37 := hr36.belowS hb67
  have hr47 := hr46.belowS hb67
  have hb27 := hb26.trans (hb67.mono hb26.size)
  obtain ⟨n, hn⟩ : ∃ n, ws.length = n := ⟨_, rfl⟩
  have HN := Lib.hid hn
  rw [hn]
  have HR7 := Lib.hid hr7
  have hn6 : n = 6 := by
    have h := congrArg List.length HF.out
    simpa [hn] using h
  have hnl : n ≤ 6 := by omega
  have h1s : ∀ x ∈ ws, (x.key.take 1).length = 1 := fun x hx => by
    have h1 : x.key.take 1 ∈ ws.map fun x => x.key.take 1 := List.mem_map.2 ⟨x, hx, rfl⟩
    rw [HF.out] at h1
    simp at h1
    rcases h1 with h | h | h | h | h | h <;> rw [h] <;> rfl
  have H1 := Lib.hid h1s
  clear hb7 hb26 hr36 hr46 hb67 hn hr7 hn6 h1s
  go_wp2_with fail
  go_loopw [9, 10] (fun s_ iv_ wr => ∃ i : Nat, i ≤ n ∧ iv_ = .int .i64 i ∧ s_ = .string (strOfNums ((ws.take i).flatMap fun x => x.key.take 1)) ∧ wr = w7) (fun _ i _ => n - (intOf i).toNat)
  case atStart => exact ⟨0, by omega, rfl, rfl, rfl⟩
  case round =>
    obtain ⟨i, hi, rfl, rfl, rfl⟩ := hrel
    by_cases hlt : i < n
    · have hlt' : (i : Int) < (n : Int) := by omega
      obtain ⟨x, hx⟩ : ∃ x, ws[i]? = some x := ⟨_, List.getElem?_eq_getElem (by rw [HN.out]; exact hlt)⟩
      obtain ⟨b, o, B1, d1, B2, d2, rfl, hbb, e1, e2, e3, hl1, hr1, -⟩ := RbW.get HR7.out hx
      have hx1 := H1.out x (List.mem_of_getElem? hx)
      have hkl : 1 ≤ x.key.length := by
        cases hk : x.key with
        | nil => rw [hk] at hx1; simp at hx1
        | cons a l => simp
      have hd1 : 1 ≤ d1 := by omega
      have hz : ((x.key.length : Int) == 0) = false := by rw [beq_eq_false_iff_ne]; omega
      have hfl : ∀ (l : List Wr), (∀ x ∈ l, (x.key.take 1).length = 1) → (l.flatMap fun x => x.key.take 1).length = l.length := by
        intro l
        induction l with
        | nil => intro _; rfl
        | cons y l ih =>
          intro h
          rw [List.flatMap_cons, List.length_append, h y (by simp), ih fun z hz => h z (by simp [hz]), List.length_cons]
          omega
      have hsz : (strOfNums ((ws.take i).flatMap fun x => x.key.take 1)).size + (strOfNums (x.key.take 1)).size ≤ 100 := by
        rw [strOfNums_size, strOfNums_size, hx1, hfl _ (fun y hy => H1.out y (List.mem_of_mem_take hy)), List.length_take]
        omega
      have es := Rb.str (P := Try.prog) (Rb.take hr1 1) Try.underlying27 Try.underlying5 Try.underlying9 d1
      rw [hx1] at es
      have HTK : Hid ((ws.take (i + 1)).flatMap (fun x => x.key.take 1) = (ws.take i).flatMap (fun x => x.key.take 1) ++ x.key.take 1) := by rw [take_snoc hx, List.flatMap_append]; simp; exact Lib.hid trivial
      clear e1 e3 hr1 hx1 hx hfl
      go_wp2_with fail
      refine ⟨⟨i + 1, by omega, by simp, ?_, trivial⟩, by simp only [intOf]; omega⟩
      rw [HTK.out, strOfNums_app2]
    · have hin : i = n := by omega
      subst hin
      have hfin : strOfNums ((ws.take i).flatMap fun x => x.key.take 1) = ⟨#[116, 115, 105, 111, 100, 110]⟩ := by
        have h1 : (ws.take i).flatMap (fun x => x.key.take 1) = [116, 115, 105, 111, 100, 110] := by
          rw [List.take_of_length_le (by rw [HN.out]; exact Nat.le_refl _), List.flatMap_def, HF.out]
          rfl
        rw [h1]
        decide +kernel
      rw [hfin]
      have es3 : (convert 27 9 (.slice A3 17 c3)).run Try.prog wr = .ok (.string ⟨#[116, 0, 0, 0, 0, 0, 0, 0, 1, 0, 0, 0, 0, 0, 0, 0, 2]⟩) wr := by
        have h := Rb.str (P := Try.prog) hr37 Try.underlying27 Try.underlying5 Try.underlying9 c3
        rwa [show strOfNums [116, 0, 0, 0, 0, 0, 0, 0, 1, 0, 0, 0, 0, 0, 0, 0, 2] = ⟨#[116, 0, 0, 0, 0, 0, 0, 0, 1, 0, 0, 0, 0, 0, 0, 0, 2]⟩ from by decide +kernel] at h
      have es4 : (convert 27 9 (.slice A4 4 c4)).run Try.prog wr = .ok (.string ⟨#[110, 97, 0, 1]⟩) wr := by
        have h := Rb.str (P := Try.prog) hr47 Try.underlying27 Try.underlying5 Try.underlying9 c4
        rwa [show strOfNums [110, 97, 0, 1] = ⟨#[110, 97, 0, 1]⟩ from by decide +kernel] at h
      go_wp2_with fail
      go_ret
      exact ⟨rfl, hb27⟩
end Go.Proofs.Ytlamebbolioljaa

/- The statement SchemaNames, out of its walk. -/
namespace Go.Proofs.Ytlamebbolioljaa
open Go.ChangeShapes Go.WideShapes Go.ChangeAt Go.RowKit
open Go.ChangeMaps (open_string shut_string)

set_option maxRecDepth 100000 in
theorem schemaNames_lifted (os : Os) (started : os.Started) (H : Type) (enc : TypeId × Value → H) :
    ReturnsInHanded {} Try.checked os 4 .any (Rows.schemaNamesSpec.pre6 enc Try.prog Try.f4 Rows.schemaNamesRow.domain false) (Rows.schemaNamesSpec.post enc Try.prog Try.f4 false true false false) := by
  refine returnsInHanded_of_change (C := Try.checked) ownKnob_none started (by kernel_rfl) Try.func4
    (ChangeSpec.witness6 (enc := enc) (C := Try.checked) false ⟨#[], #[], []⟩ 8 (by kernel_rfl) (by kernel_rfl) (by kernel_rfl) (by kernel_rfl)) ?_
  intro W base args ds gs before hval0 hW _ _
  have hval : ∀ (j : Nat) t v, Try.f4.params[j]? = some t → args[j]? = some v → Value.okWide Try.prog W .any base t v := hval0
  have hW' := hW
  obtain ⟨p, q, hA0, hV, rfl, hfz, hnd⟩ := hW
  have hA : DataW.TrodAll enc Try.prog W 0 (fun _ => true) true Try.f4.params.toList args.toList ds p := hA0
  rw [Try.params4] at hA hval
  obtain ⟨hargs, rfl, rfl⟩ := trodAll_nil hA
  obtain rfl : args = #[] := by cases args; simp_all
  obtain ⟨rfl, rfl⟩ := trodVars_none hV
  clear hA0 hval0
  refine (schemaNames_walk  W ).mono fun e W' ⟨he, bel⟩ => ?_
  subst he
  exact ⟨_, rfl, _, _, _, [], _, [], hW', trodAll_mk1 (shut_bool Try.underlying4 _), trodAll_mk0, rfl, bel.frame _, fun h => by cases h⟩

/-- SchemaNames: for every input the law returns true, and what came in reads as it did. -/
theorem schemaNames_holds : Rows.SchemaNamesSaid :=
  OpenClaim.holds_of_wide 4 Try.f4 rfl rfl rfl rfl rfl rfl rfl ⟨rfl, rfl, rfl, rfl, rfl⟩ rfl rfl rfl rfl rfl (by kernel_rfl) Try.func4 (by kernel_rfl)
    (of_decide_eq_true (by kernel_rfl)) (by unfold Func.isWrapper; first | (rw [if_pos (by decide +kernel)]; kernel_rfl) | (rw [if_neg (by decide +kernel)]; exact ⟨rfl, rfl⟩))
    (fun os started H enc _ => schemaNames_lifted os started H enc)
#print axioms schemaNames_holds
end Go.Proofs.Ytlamebbolioljaa
