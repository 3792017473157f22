/- Texts of the proof of DepsTraceSaid, joined: DeE MgA DeF DeG SpG0 SpN DeH DeL. -/
import Derived.BigRegion
import Derived.Test.YthaiplhjekkooaaJDepsTrace2
import Derived.Test.YthaiplhjekkooaaJDepsTrace3
import Derived.MapKept
import Derived.ChangeMaps4
import Derived.Maps.RangeRun
import Derived.Test.YthaiplhjekkooaaJDepsTrace1
import Derived.StillTailTactics
import Derived.Laws.Small
import Derived.Maps.AppendAt
import Derived.Deep.Cut
import Derived.Deep.RegionHeld3
import Derived.Deep.QuietTactic
/- Edges: the document's Edges. -/
namespace Go.Proofs.Ythaiplhjekkooaa
open Go.RowKit
theorem loadSp_shutE (a : Addr) : loadVar 43 a = loadK 43 a := rfl
attribute [local go_sem ↓] loadSp_shutE

set_option maxRecDepth 100000 in
theorem loadK_aeSpD {w : World} {b o i : Nat} {e : AE} (h : ∀ j, j < 14 → w.cell? ⟨b, o + (i * 14 + j), none⟩ = (aeC e)[j]?) : (loadK 43 ⟨b, o + i * 14, none⟩).run Try.prog w = .ok (spV e.a.s e.A e.n e.c) w :=
  run_loadVar_cells w _ _ ⟨b, o + i * 14, none⟩ (spC e.a.s e.A e.n e.c).toList Try.underlying43 rfl (by rfl) (fun j v hv => by
    have hj : j < 11 := (List.getElem?_eq_some_iff.1 hv).1
    rw [Addr.add_lit, Nat.add_assoc, h j (by omega), ← hv]
    have h14 : ∀ j, j < 11 → (aeC e)[j]? = (spC e.a.s e.A e.n e.c).toList[j]? := by
      intro j hj
      have : j = 0 ∨ j = 1 ∨ j = 2 ∨ j = 3 ∨ j = 4 ∨ j = 5 ∨ j = 6 ∨ j = 7 ∨ j = 8 ∨ j = 9 ∨ j = 10 := by omega
      rcases this with rfl | rfl | rfl | rfl | rfl | rfl | rfl | rfl | rfl | rfl | rfl <;> rfl
    exact h14 j hj)
theorem spErr_dropD {l : List Sp} {k : Nat} {x : Sp} (h : l[k]? = some x) : spErr (l.drop k) = if spChk x ≠ 0 then spChk x else spErr (l.drop (k + 1)) := by
  obtain ⟨hk, rfl⟩ := List.getElem?_eq_some_iff.1 h
  rw [List.drop_eq_getElem_cons hk, spErr]
def ads (l : List AE) : List Ad := l.map (·.a)
theorem ads_get {l : List AE} {i : Nat} {e : AE} (h : l[i]? = some e) : (ads l)[i]? = some e.a := by simp [ads, h]
theorem ads_len (l : List AE) : (ads l).length = l.length := by simp [ads]
/-- Has one of the first k the ID of x? -/
def dupTo (l : List Ad) (x : Ad) (k : Nat) : Bool := (List.range k).any fun j => match l[j]? with | some y => decide (y.s.id = x.s.id) | none => false
def edBadAt (l : List Ad) (i : Nat) : Bool := match l[i]? with | some x => decide (x.s.start < 0) || dupTo l x i | none => false
def edBadTo (l : List Ad) (i : Nat) : Bool := (List.range i).any (edBadAt l)
/-- A span's call of another service. -/
def edStep (size : Int) (x y : Ad) (out : List Ed) : List Ed :=
  if x.up ≠ 0 ∧ y.s.id = x.up ∧ y.s.service ≠ x.s.service then (addE ⟨(bktOf x.s.start size).1, y.s.service, x.s.service, 1⟩ out).1 else out
def edAt (size : Int) (l : List Ad) (x : Ad) (out : List Ed) (k : Nat) : List Ed := match l[k]? with | some y => edStep size x y out | none => out
def edRow (size : Int) (l : List Ad) (out : List Ed) (i : Nat) : List Ed := match l[i]? with | some x => (List.range l.length).foldl (edAt size l x) out | none => out
/-- What Edges answers. -/
def edOut (l : List Ad) (size : Int) : List Ed × Nat :=
  if size < 1 then ([], 2) else if edBadTo l l.length = true then ([], 2) else if spErr (l.map (·.s)) ≠ 0 then ([], spErr (l.map (·.s))) else ((List.range l.length).foldl (edRow size l) [], 0)
theorem dupTo_succ {l : List Ad} {x y : Ad} {k : Nat} (h : l[k]? = some y) : dupTo l x (k + 1) = (dupTo l x k || decide (y.s.id = x.s.id)) := by simp [dupTo, List.range_succ, h]
theorem edBadTo_succ (l : List Ad) (i : Nat) : edBadTo l (i + 1) = (edBadTo l i || edBadAt l i) := by simp [edBadTo, List.range_succ]
theorem any_le {f : Nat → Bool} {i n : Nat} (h : i ≤ n) (hi : (List.range i).any f = true) : (List.range n).any f = true := by
  rw [List.any_eq_true] at hi ⊢
  obtain ⟨j, hj, hf⟩ := hi
  exact ⟨j, List.mem_range.2 (by have := List.mem_range.1 hj; omega), hf⟩
/-- Numbers that stay small. -/
def EdFew (l : List Ed) : Prop := ∀ y ∈ l, y.n ≤ 4611686018427387904
theorem addE_few {x : Ed} {l : List Ed} (hx : x.n ≤ 4611686018427387904) (h : EdFew l) : EdFew (addE x l).1 ∧ (addE x l).1.length ≤ l.length + 1 := by
  have hins : EdFew (l.take (addPos x l) ++ x :: l.drop (addPos x l)) ∧ (l.take (addPos x l) ++ x :: l.drop (addPos x l)).length ≤ l.length + 1 := by
    refine ⟨fun y hy => ?_, by simp only [List.length_append, List.length_cons, List.length_take, List.length_drop]; omega⟩
    rcases List.mem_append.1 hy with hy | hy
    · exact h y (List.mem_of_mem_take hy)
    · rcases List.mem_cons.1 hy with rfl | hy
      · exact hx
      · exact h y (List.mem_of_mem_drop hy)
  unfold addE
  cases hy : l[addPos x l]? with
  | none => exact hins
  | some y =>
    simp only []
    by_cases h1 : edLt x y = true
    · rw [if_pos h1]; exact hins
    · rw [if_neg h1]
      by_cases h2 : 4611686018427387904 < x.n ∨ 4611686018427387904 - x.n < y.n
      · rw [if_pos h2]; exact ⟨h, Nat.le_succ _⟩
      · rw [if_neg h2]
        refine ⟨fun z hz => ?_, by rw [List.length_set]; exact Nat.le_succ _⟩
        rcases List.mem_or_eq_of_mem_set hz with hz | rfl
        · exact h z hz
        · show y.n + x.n ≤ _; omega
/-- What Edges hands back. -/
def EdsPost (w : World) (r : List Ed × Nat) (e : Ending) (w' : World) : Prop :=
  ∃ A' c', e = .returned (.tuple #[.slice A' r.1.length c', .int .i64 r.2]) ∧ w'.ownsRow w.heap.size 47 4 (.slice A' r.1.length c') r.1.length (eds r.1) ∧ Below w.heap.size w w'
theorem EdsPost.no {w w' : World} {q : Nat} (hb : Below w.heap.size w w') : EdsPost w ([], q) (.returned (.tuple #[.slice none 0 0, .int .i64 q])) w' := ⟨none, 0, rfl, World.ownsRow_nil _ _ _ _, hb⟩
set_option maxRecDepth 100000 in
set_option maxHeartbeats 8000000 in
theorem rDeEdges {A : Option Addr} {n c B : Nat} (l : List AE) (size : Int) (w : World) (h : RbA w B A l) (hn : l.length = n) (hB : B ≤ w.heap.size) (hnl : n ≤ 200) (hs0 : -9223372036854775808 ≤ size) (hs1 : size ≤ 9223372036854775807)
    (hst : ∀ e ∈ l, e.a.s.start ≤ 9223372036854775807 ∧ -9223372036854775808 ≤ e.a.s.start) :
    Calls Try.prog 11 #[.slice A n c, .int .i64 size] w (EdsPost w (edOut (ads l) size)) := by
  obtain ⟨r, hr⟩ : ∃ r, edOut (ads l) size = r := ⟨_, rfl⟩
  rw [hr]
  by_cases hz : size < 1
  · have hz' : decide (size < 1) = true := by simp [hz]
    have hre : r = ([], 2) := by rw [← hr, edOut, if_pos hz]
    subst hre
    go_enter Try.func11, Try.ntmps11
    go_wp2_with fail
    go_ret2
    exact EdsPost.no (Below.refl _ _)
  have hz' : decide (size < 1) = false := by simp; omega
  have hr1 : r = if edBadTo (ads l) n = true then ([], 2) else if spErr ((ads l).map (·.s)) ≠ 0 then ([], spErr ((ads l).map (·.s))) else ((List.range n).foldl (edRow size (ads l)) [], 0) := by
    rw [← hr, edOut, if_neg hz, ads_len, hn]
  have HR := Lib.hid hr1
  have HN := Lib.hid hn
  have HST := Lib.hid hst
  have HH := Lib.hid h
  clear hr hr1 hn hst h
  go_enter Try.func11, Try.ntmps11
  go_wp2_with fail
  go_loopw [6] (fun i_ wr => ∃ i : Nat, i ≤ n ∧ i_ = .int .i64 i ∧ Hid (edBadTo (ads l) i = false) ∧ Below w.heap.size w wr) (fun i_ _ => n - (intOf i_).toNat)
  case atStart => exact ⟨0, by omega, rfl, Lib.hid rfl, Below.refl _ _⟩
  case round =>
    obtain ⟨i, hi, rfl, HG, hb⟩ := hrel
    by_cases hlt : i < n
    · have hlt' : (i : Int) < (n : Int) := by omega
      obtain ⟨x, hx⟩ : ∃ x, l[i]? = some x := ⟨_, List.getElem?_eq_getElem (by rw [HN.out]; exact hlt)⟩
      obtain ⟨b, o, eA, hbb, hc, -⟩ := (HH.out.below (hb.mono hB)).get hx
      subst eA
      have cs : wr.cell? ⟨b, o + i * 14 + 7, none⟩ = some (.int .i64 x.a.s.start) := by rw [Nat.add_assoc]; exact hc 7 (by omega)
      have cid : Hid (∀ W, Below w.heap.size w W → ∀ (k : Nat) (y : AE), l[k]? = some y → W.cell? ⟨b, o + k * 14 + 2, none⟩ = some (.int .u64 y.a.s.id)) := Lib.hid fun W hW k y hy => by
        obtain ⟨b', o', e', -, hc', -⟩ := (HH.out.below (hW.mono hB)).get hy
        cases e'
        rw [Nat.add_assoc]
        exact hc' 2 (by omega)
      obtain ⟨sa, hsa⟩ : ∃ sa, x.a.s.start = sa := ⟨_, rfl⟩
      rw [hsa] at cs
      have HX := Lib.hid hx
      have HSA := Lib.hid hsa
      have hbs := edBadTo_succ (ads l) i
      rw [HG.out, Bool.false_or, edBadAt, ads_get hx] at hbs
      simp only [hsa] at hbs
      have HBS := Lib.hid hbs
      clear hbs hx hsa hc
      by_cases h0 : sa < 0
      · have h0' : decide (sa < 0) = true := by simp [h0]
        have hre : r = ([], 2) := by
          have h1 : edBadTo (ads l) n = true := any_le (show i + 1 ≤ n by omega) (by have := HBS.out; rw [h0', Bool.true_or] at this; exact this)
          rw [HR.out, if_pos h1]
        subst hre
        go_wp2_with fail
        go_ret2
        exact EdsPost.no hb
      · have h0' : decide (sa < 0) = false := by simp; omega
        have hbs := HBS.out
        rw [h0', Bool.false_or] at hbs
        have HBS2 := Lib.hid hbs
        clear hbs HBS
        go_wp2_with fail
        have HBO := Lib.hid hb
        obtain ⟨wO, hwO⟩ : ∃ wO, wO = wr := ⟨_, rfl⟩
        subst hwO
        go_loopw [7] (fun k_ wr2 => ∃ k : Nat, k ≤ i ∧ k_ = .int .i64 k ∧ Hid (dupTo (ads l) x.a k = false) ∧ Below w.heap.size w wr2) (fun k_ _ => i - (intOf k_).toNat)
        case atStart => exact ⟨0, by omega, rfl, Lib.hid rfl, hb⟩
        case round =>
          obtain ⟨k, hk, rfl, HD, hb2⟩ := hrel
          by_cases hki : k < i
          · have hki' : (k : Int) < (i : Int) := by omega
            have hkn : (k : Int) < (n : Int) := by omega
            obtain ⟨y, hy⟩ : ∃ y, l[k]? = some y := ⟨_, List.getElem?_eq_getElem (by rw [HN.out]; omega)⟩
            have c1 := cid.out wr hb2 k y hy
            have c2 := cid.out wr hb2 i x HX.out
            obtain ⟨yi, hyi⟩ : ∃ yi, y.a.s.id = yi := ⟨_, rfl⟩
            obtain ⟨xi, hxi⟩ : ∃ xi, x.a.s.id = xi := ⟨_, rfl⟩
            rw [hyi] at c1
            rw [hxi] at c2
            have hds := dupTo_succ (x := x.a) (ads_get hy)
            rw [HD.out, Bool.false_or, hyi, hxi] at hds
            have HDS := Lib.hid hds
            clear hds hy hyi hxi HD
            by_cases he : yi = xi
            · have he' : ((yi : Int) == (xi : Int)) = true := by simp; omega
              have hre : r = ([], 2) := by
                have h2 : dupTo (ads l) x.a i = true := any_le (show k + 1 ≤ i by omega) (by have := HDS.out; rw [decide_eq_true he] at this; exact this)
                have h1 : edBadTo (ads l) n = true := any_le (show i + 1 ≤ n by omega) (by have := HBS2.out; rw [h2] at this; exact this)
                rw [HR.out, if_pos h1]
              subst hre
              go_wp2_with fail
              go_quiet (fail)
              go_wp2_with fail
              go_ret2
              exact EdsPost.no (below_drewN hb2 _)
            · have he' : ((yi : Int) == (xi : Int)) = false := by simp; omega
              go_wp2_with fail
              go_quiet (fail)
              go_wp2_with fail
              exact ⟨⟨k + 1, by omega, by go_num, Lib.hid (by rw [HDS.out, decide_eq_false he]), below_drewN hb2 _⟩, by simp only [intOf]; omega⟩
          · have hki' : decide ((k : Int) < (i : Int)) = false := by simp; omega
            obtain rfl : k = i := by omega
            go_wp2_with fail
            exact ⟨⟨k + 1, by omega, by go_num, Lib.hid (by rw [HBS2.out]; exact HD.out), hb2⟩, by simp only [intOf]; omega⟩
    · have hlt' : decide ((i : Int) < (n : Int)) = false := by simp; omega
      obtain rfl : i = n := by omega
      have HGOOD := Lib.hid (show edBadTo (ads l) i = false from HG.out)
      have HBO := Lib.hid hb
      clear HG hlt hlt' hi hb
      go_wp2_with fail
      go_loopw [8] (fun i_ wr2 => ∃ j : Nat, j ≤ i ∧ i_ = .int .i64 j ∧ Hid (spErr ((ads l).map (·.s)) = spErr (((ads l).map (·.s)).drop j)) ∧ Below w.heap.size w wr2) (fun i_ _ => i - (intOf i_).toNat)
      case atStart => exact ⟨0, by omega, rfl, Lib.hid rfl, HBO.out⟩
      case round =>
        obtain ⟨j, hj, rfl, HS, hb⟩ := hrel
        by_cases hlt : j < i
        · have hlt' : (j : Int) < (i : Int) := by omega
          obtain ⟨x, hx⟩ : ∃ x, l[j]? = some x := ⟨_, List.getElem?_eq_getElem (by rw [HN.out]; exact hlt)⟩
          obtain ⟨b, o, eA, hbb, hc, hok⟩ := (HH.out.below (hb.mono hB)).get hx
          subst eA
          have ls := loadK_aeSpD hc
          have hgx : ((ads l).map (·.s))[j]? = some x.a.s := by simp [ads_get hx]
          have hds := spErr_dropD hgx
          rw [← HS.out] at hds
          have cc := rSpCheck (c := x.c) x.a.s wr hok.rd hok.len (Nat.le_trans hB hb.size) hok.max
          obtain ⟨ck, hck⟩ : ∃ ck, spChk x.a.s = ck := ⟨_, rfl⟩
          rw [hck] at cc hds
          have HDS := Lib.hid hds
          clear hds hck hx hgx hok hc HS
          go_wp2_with fail
          refine cc.mono ?_
          rintro en w3 ⟨rfl, hb3⟩
          have hb4 := hb.trans (hb3.mono hb.size)
          by_cases h0 : ck = 0
          · subst h0
            go_wp2_with fail
            exact ⟨⟨j + 1, by omega, by go_num, Lib.hid (by rw [HDS.out]; simp), hb4⟩, by simp only [intOf]; omega⟩
          · have h0' : ((ck : Int) != 0) = true := by simp; omega
            have hre : r = ([], ck) := by rw [HR.out, HGOOD.out, if_neg (by simp), HDS.out, if_pos h0, if_pos h0]
            subst hre
            go_wp2_with fail
            go_ret2
            exact EdsPost.no hb4
        · have hlt' : decide ((j : Int) < (i : Int)) = false := by simp; omega
          have hz0 : spErr ((ads l).map (·.s)) = 0 := by rw [HS.out, List.drop_eq_nil_of_le (by rw [List.length_map, ads_len, HN.out]; omega)]; rfl
          have hre : r = ((List.range i).foldl (edRow size (ads l)) [], 0) := by rw [HR.out, HGOOD.out, if_neg (by simp), hz0, if_neg (by simp)]
          have HRE := Lib.hid hre
          clear hre hz0 HS HR HGOOD HBO
          go_wp2_with fail
          clear hlt hlt' hj
          go_loopw [10, 11] (fun out_ i_ wr3 => ∃ (q m c' : Nat) (A' : Option Addr) (out : List Ed), q ≤ i ∧ out_ = .slice A' m c' ∧ i_ = .int .i64 q ∧ m ≤ q * 200 ∧ Hid (out = (List.range q).foldl (edRow size (ads l)) [] ∧ out.length = m ∧ EdFew out) ∧ wr3.ownsRow w.heap.size 47 4 (.slice A' m c') m (eds out) ∧ Below w.heap.size w wr3) (fun _ i_ _ => i - (intOf i_).toNat)
          case atStart => exact ⟨0, 0, 0, none, [], by omega, rfl, rfl, by omega, Lib.hid ⟨rfl, rfl, fun y hy => by cases hy⟩, World.ownsRow_nil _ _ _ _, hb⟩
          case round =>
            obtain ⟨q, m, c', A', out, hq, rfl, rfl, hm, HO, hown, hbq⟩ := hrel
            by_cases hqi : q < i
            · have hqi' : (q : Int) < (i : Int) := by omega
              obtain ⟨x, hx⟩ : ∃ x, l[q]? = some x := ⟨_, List.getElem?_eq_getElem (by rw [HN.out]; exact hqi)⟩
              have HX := Lib.hid hx
              obtain ⟨b, o, eA, -, -, -⟩ := HH.out.get hx
              subst eA
              have HC : Hid (∀ W, Below w.heap.size w W → ∀ (k : Nat) (y : AE), l[k]? = some y → W.cell? ⟨b, o + k * 14 + 2, none⟩ = some (.int .u64 y.a.s.id) ∧ W.cell? ⟨b, o + k * 14 + 4, none⟩ = some (.string y.a.s.service) ∧ W.cell? ⟨b, o + k * 14 + 7, none⟩ = some (.int .i64 y.a.s.start) ∧ W.cell? ⟨b, o + k * 14 + 11, none⟩ = some (.int .u64 y.a.up)) := Lib.hid fun W hW k y hy => by
                obtain ⟨b', o', e', -, hc', -⟩ := (HH.out.below (hW.mono hB)).get hy
                cases e'
                rw [Nat.add_assoc, Nat.add_assoc, Nat.add_assoc, Nat.add_assoc]
                exact ⟨hc' 2 (by omega), hc' 4 (by omega), hc' 7 (by omega), hc' 11 (by omega)⟩
              clear hx
              go_wp2_with fail
              have HOWN := Lib.hid hown
              obtain ⟨wO, hwO⟩ : ∃ wO, wO = wr := ⟨_, rfl⟩
              subst hwO
              go_loopw [10, 12] (fun out_ k_ wr4 => ∃ (k m2 c2 : Nat) (A2 : Option Addr) (out2 : List Ed), k ≤ i ∧ out_ = .slice A2 m2 c2 ∧ k_ = .int .i64 k ∧ m2 ≤ q * 200 + k ∧ Hid (out2 = (List.range k).foldl (edAt size (ads l) x.a) out ∧ out2.length = m2 ∧ EdFew out2) ∧ wr4.ownsRow w.heap.size 47 4 (.slice A2 m2 c2) m2 (eds out2) ∧ Below w.heap.size w wr4) (fun _ k_ _ => i - (intOf k_).toNat)
              case atStart => exact ⟨0, m, c', A', out, by omega, rfl, rfl, by omega, Lib.hid ⟨rfl, HO.out.2.1, HO.out.2.2⟩, HOWN.out, hbq⟩
              case round =>
                obtain ⟨k, m2, c2, A2, out2, hk, rfl, rfl, hm2, HO2, hown2, hbk⟩ := hrel
                by_cases hki : k < i
                · have hki' : (k : Int) < (i : Int) := by omega
                  obtain ⟨y, hy⟩ : ∃ y, l[k]? = some y := ⟨_, List.getElem?_eq_getElem (by rw [HN.out]; exact hki)⟩
                  obtain ⟨-, cxs, cxt, cxu⟩ := HC.out wr hbk q x HX.out
                  obtain ⟨cyi, cys, -, -⟩ := HC.out wr hbk k y hy
                  have hstp : ∀ o2, o2 = edStep size x.a y.a out2 → o2 = (List.range (k + 1)).foldl (edAt size (ads l) x.a) out := fun o2 ho => by
                    rw [List.range_succ, List.foldl_append, ← HO2.out.1]
                    show o2 = edAt size (ads l) x.a out2 k
                    rw [edAt, ads_get hy]
                    exact ho
                  have HSTP := Lib.hid hstp
                  have HY := Lib.hid hy
                  have HOWN2 := Lib.hid hown2
                  clear hstp hy hown2
                  obtain ⟨up, hup⟩ : ∃ up, x.a.up = up := ⟨_, rfl⟩
                  obtain ⟨yi, hyi⟩ : ∃ yi, y.a.s.id = yi := ⟨_, rfl⟩
                  obtain ⟨xs, hxs⟩ : ∃ xs, x.a.s.service = xs := ⟨_, rfl⟩
                  obtain ⟨ys, hys⟩ : ∃ ys, y.a.s.service = ys := ⟨_, rfl⟩
                  rw [hup] at cxu
                  rw [hyi] at cyi
                  rw [hxs] at cxs
                  rw [hys] at cys
                  have hes : ∀ o2, o2 = (if up ≠ 0 ∧ yi = up ∧ ys ≠ xs then (addE ⟨(bktOf x.a.s.start size).1, ys, xs, 1⟩ out2).1 else out2) → o2 = (List.range (k + 1)).foldl (edAt size (ads l) x.a) out := fun o2 ho => HSTP.out o2 (by rw [edStep, hup, hyi, hxs, hys]; exact ho)
                  have HES := Lib.hid hes
                  have HXS := Lib.hid hxs
                  have HYS := Lib.hid hys
                  clear hes HSTP hup hyi hxs hys
                  by_cases h1 : up = 0
                  · have h1' : ((up : Int) != 0) = false := by simp; omega
                    go_wp2_with fail
                    go_quiet (fail)
                    go_wp2_with fail
                    have hbz := below_drewN (Below.refl wr.heap.size wr) nq
                    exact ⟨⟨k + 1, m2, c2, A2, out2, by omega, rfl, by go_num, by omega, Lib.hid ⟨HES.out _ (by rw [if_neg (fun h => h.1 h1)]), HO2.out.2.1, HO2.out.2.2⟩, ((App.refl HOWN2.out).later hbz).own, hbk.trans (hbz.mono hbk.size)⟩, by simp only [intOf]; omega⟩
                  have h1' : ((up : Int) != 0) = true := by simp; omega
                  by_cases h2 : yi = up
                  · have h2' : ((yi : Int) == (up : Int)) = true := by simp; omega
                    by_cases h3 : ys = xs
                    · subst h3
                      go_wp2_with fail
                      go_quiet (fail)
                      go_wp2_with fail
                      have hbz := below_drewN (Below.refl wr.heap.size wr) nq
                      exact ⟨⟨k + 1, m2, c2, A2, out2, by omega, rfl, by go_num, by omega, Lib.hid ⟨HES.out _ (by rw [if_neg (fun h => h.2.2 rfl)]), HO2.out.2.1, HO2.out.2.2⟩, ((App.refl HOWN2.out).later hbz).own, hbk.trans (hbz.mono hbk.size)⟩, by simp only [intOf]; omega⟩
                    · have h3' : (ys.toList == xs.toList) = false := by rw [strEq_of', decide_eq_false h3]
                      have h3'' : (ys.toList != xs.toList) = true := by rw [bne, h3']; rfl
                      go_wp2_with fail
                      go_quiet (fail)
                      have hbz := below_drewN (Below.refl wr.heap.size wr) nq
                      have hb0 := hbk.trans (hbz.mono hbk.size)
                      obtain ⟨W0, hW0⟩ : ∃ W0, wr.drewN nq = W0 := ⟨_, rfl⟩
                      rw [hW0] at hbz hb0 ⊢
                      clear hW0 cxs cxt cxu cyi cys
                      have cxt := (HC.out W0 hb0 q x HX.out).2.2.1
                      have hstx := HST.out x (List.mem_of_getElem? HX.out)
                      have cb := rDeBucket x.a.s.start size W0 hstx.2 hstx.1 hs0 hs1
                      obtain ⟨bn, hbn⟩ : ∃ bn, (bktOf x.a.s.start size).1 = bn := ⟨_, rfl⟩
                      have hes2 := fun o2 ho => HES.out o2 ho
                      rw [hbn] at cb hes2
                      have HES2 := Lib.hid (hes2 _ rfl)
                      have own0 := ((App.refl HOWN2.out).later hbz).own
                      have hb01 := below_drewN (Below.refl W0.heap.size W0) 1
                      have own1 := ((App.refl own0).later hb01).own
                      have hfew := HO2.out.2.2
                      have cadd := rDeAdd (base := w.heap.size) out2 ⟨bn, ys, xs, 1⟩ W0.drew own1 HO2.out.2.1 (by omega) (by have := hb0.size; exact this) (by show (1 : Nat) < _; omega) (fun z hz => by have := hfew z hz; omega)
                      have haf := addE_few (x := ⟨bn, ys, xs, 1⟩) (by show (1 : Nat) ≤ _; omega) hfew
                      obtain ⟨R2, hR2⟩ : ∃ R2, addE ⟨bn, ys, xs, 1⟩ out2 = R2 := ⟨_, rfl⟩
                      rw [hR2] at cadd haf HES2
                      rw [if_pos ⟨h1, h2, h3⟩] at HES2
                      have HADD := Lib.hid cadd
                      have HAF := Lib.hid haf
                      have HOL := Lib.hid HO2.out.2.1
                      have hcd := HC.out W0.drew (hb0.trans (hb01.mono hb0.size))
                      have cxs : W0.drew.cell? ⟨b, o + q * 14 + 4, none⟩ = some (.string xs) := by rw [(hcd q x HX.out).2.1, HXS.out]
                      have cys : W0.drew.cell? ⟨b, o + k * 14 + 4, none⟩ = some (.string ys) := by rw [(hcd k y HY.out).2.1, HYS.out]
                      clear cadd haf hR2 hbn hes2 hcd hfew own0 own1
                      go_wp2_with fail
                      refine cb.mono ?_
                      rintro en w5 ⟨rfl, hw5⟩
                      rw [hw5]
                      clear hw5 cxt cb
                      go_wp2_with fail
                      go_region_held3 (fun w' => w'.cell? ⟨b, o + q * 14 + 4, none⟩ = some (.string xs) ∧ w'.cell? ⟨b, o + k * 14 + 4, none⟩ = some (.string ys))
                        (first | exact ⟨cxs, cys⟩ | exact ⟨cxs6, cys6⟩)
                        (first
                          | (go_at_call 38
                             refine HADD.out.mono ?_
                             rintro en w6 ⟨A6, c6, n6, rfl, hn6, own6, hb6⟩
                             have hb06 := (hb0.trans (hb01.mono hb0.size)).trans hb6
                             have hcd6 := HC.out w6 hb06
                             have cxs6 : w6.cell? ⟨b, o + q * 14 + 4, none⟩ = some (.string xs) := by rw [(hcd6 q x HX.out).2.1, HXS.out]
                             have cys6 : w6.cell? ⟨b, o + k * 14 + 4, none⟩ = some (.string ys) := by rw [(hcd6 k y HY.out).2.1, HYS.out])
                          | fail)
                      go_wp2_with fail
                      exact ⟨⟨k + 1, n6, c6, A6, R2.1, by omega, rfl, by go_num, by have h1 := HAF.out.2; have h2 := HOL.out; omega, Lib.hid ⟨HES2.out, hn6, HAF.out.1⟩, own6, hb06⟩, by simp only [intOf]; omega⟩
                  · have h2' : ((yi : Int) == (up : Int)) = false := by simp; omega
                    go_wp2_with fail
                    go_quiet (fail)
                    go_wp2_with fail
                    have hbz := below_drewN (Below.refl wr.heap.size wr) nq
                    exact ⟨⟨k + 1, m2, c2, A2, out2, by omega, rfl, by go_num, by omega, Lib.hid ⟨HES.out _ (by rw [if_neg (fun h => h2 h.2.1)]), HO2.out.2.1, HO2.out.2.2⟩, ((App.refl HOWN2.out).later hbz).own, hbk.trans (hbz.mono hbk.size)⟩, by simp only [intOf]; omega⟩
                · have hki' : decide ((k : Int) < (i : Int)) = false := by simp; omega
                  obtain rfl : k = i := by omega
                  go_wp2_with fail
                  exact ⟨⟨q + 1, m2, c2, A2, out2, by omega, rfl, by go_num, by omega, Lib.hid ⟨by rw [List.range_succ, List.foldl_append, ← HO.out.1]; show out2 = edRow size (ads l) out q; rw [edRow, ads_get HX.out, ads_len, HN.out]; exact HO2.out.1, HO2.out.2.1, HO2.out.2.2⟩, hown2, hbk⟩, by simp only [intOf]; omega⟩
            · have hqi' : decide ((q : Int) < (i : Int)) = false := by simp; omega
              obtain rfl : q = i := by omega
              go_wp2_with fail
              go_ret2
              have hre := HRE.out
              rw [← HO.out.1] at hre
              subst hre
              exact ⟨A', c', by show _ = Ending.returned (.tuple #[.slice A' out.length c', .int .i64 0]); rw [HO.out.2.1]; rfl, by show wr.ownsRow _ _ _ (.slice A' out.length c') out.length _; rw [HO.out.2.1]; exact hown, hbq⟩
end Go.Proofs.Ythaiplhjekkooaa

/- A map of whatever keys and values, as it lies: pairs in the order of their coming; update, lookup, len, range. -/
namespace Go.Proofs.Ythaiplhjekkooaa
open Go.RowKit Go.MapKept Go.ChangeMaps

/-- What runs over keys want of the keys' type. -/
structure KeyRun (P : Program) (kt : TypeId) {κ : Type} (kv : κ → Value) : Prop where
  inj : ∀ {x y : κ}, kv x = kv y → x = y
  check : ∀ (w : World) (em : Bool) (x : κ), (Instr.checkKey em 10000 kt (kv x)).run P w = .ok () w
  find : ∀ (w : World) (x : κ) (es : List MapEntry), (∀ e ∈ es, ∃ y, e.key = kv y) →
    ((Instr.findKey kt (kv x) es).run P w = .ok none w ∧ ∀ e ∈ es, e.key ≠ kv x) ∨ ∃ j e, (Instr.findKey kt (kv x) es).run P w = .ok (some (j, e.val)) w ∧ es[j]? = some e ∧ e.key = kv x
  stays : ∀ (w : World) (x : κ), (Instr.keyThatStays (kv x) (kv x)).run P w = .ok (kv x) w

section
variable {κ ν : Type} {kv : κ → Value} {vv : ν → Value}
def mgE (kv : κ → Value) (vv : ν → Value) (L : List (κ × ν)) : List MapEntry := L.mapIdx fun i p => ⟨kv p.1, vv p.2, i⟩
theorem mgE_length (L : List (κ × ν)) : (mgE kv vv L).length = L.length := by simp [mgE]
theorem mgE_get {L : List (κ × ν)} {i : Nat} {p : κ × ν} (h : L[i]? = some p) : (mgE kv vv L)[i]? = some ⟨kv p.1, vv p.2, i⟩ := by simp [mgE, h]
theorem mgE_getI {L : List (κ × ν)} {i : Nat} {e : MapEntry} (h : (mgE kv vv L)[i]? = some e) : ∃ p, L[i]? = some p ∧ e = ⟨kv p.1, vv p.2, i⟩ := by
  rw [mgE, List.getElem?_mapIdx] at h
  cases hp : L[i]? with
  | none => rw [hp] at h; cases h
  | some p => rw [hp] at h; exact ⟨p, rfl, (Option.some.inj h).symm⟩
theorem mgE_mem {L : List (κ × ν)} {e : MapEntry} (h : e ∈ mgE kv vv L) : ∃ i p, L[i]? = some p ∧ e = ⟨kv p.1, vv p.2, i⟩ := by
  obtain ⟨i, hi, rfl⟩ := List.getElem_of_mem h
  obtain ⟨p, hp, he⟩ := mgE_getI (List.getElem?_eq_getElem hi)
  exact ⟨i, p, hp, he⟩
theorem mgE_keys (L : List (κ × ν)) : ∀ e ∈ mgE kv vv L, ∃ y, e.key = kv y := fun e he => by
  obtain ⟨i, p, -, rfl⟩ := mgE_mem he
  exact ⟨p.1, rfl⟩
theorem mgE_snoc (L : List (κ × ν)) (p : κ × ν) : mgE kv vv (L ++ [p]) = mgE kv vv L ++ [⟨kv p.1, vv p.2, L.length⟩] := by simp [mgE, List.mapIdx_append]
theorem mgE_set (L : List (κ × ν)) (i : Nat) (p : κ × ν) : mgE kv vv (L.set i p) = (mgE kv vv L).set i ⟨kv p.1, vv p.2, i⟩ := by
  apply List.ext_getElem?
  intro j
  simp only [mgE, List.getElem?_mapIdx, List.getElem?_set]
  by_cases hij : i = j
  · subst hij
    simp
  · simp [hij]
theorem mgE_born (L : List (κ × ν)) : (mgE kv vv L).map (·.born) = List.range L.length := by
  apply List.ext_getElem?
  intro j
  simp only [mgE, List.getElem?_map, List.getElem?_mapIdx, List.getElem?_range, Option.map_map]
  by_cases hj : j < L.length
  · simp [hj]
  · simp [hj]
/-- Block b is just this map. -/
def Mg (kv : κ → Value) (vv : ν → Value) (w : World) (b : Nat) (L : List (κ × ν)) : Prop := w.heap[b]? = some (.map (mgE kv vv L).toArray L.length) ∧ (L.map (·.1)).Nodup
variable {w w' : World} {b : Nat} {L : List (κ × ν)}
theorem Mg.lt (h : Mg kv vv w b L) : b < w.heap.size := (Array.getElem?_eq_some_iff.1 h.1).1
theorem Mg.new (w : World) : Mg kv vv (w.alloc (.map #[] 0)) w.heap.size [] := ⟨heap_alloc_new w _, List.nodup_nil⟩
theorem Mg.alloc (h : Mg kv vv w b L) (o : Obj) : Mg kv vv (w.alloc o) b L := ⟨(Below.heap_alloc w o b h.lt).trans h.1, h.2⟩
theorem Mg.drew (h : Mg kv vv w b L) : Mg kv vv w.drew b L := h
theorem Mg.drewN (h : Mg kv vv w b L) (n : Nat) : Mg kv vv (w.drewN n) b L := h
theorem Mg.below {B : Nat} (h : Mg kv vv w b L) (hb : Below B w w') (hg : b < B) : Mg kv vv w' b L := ⟨(hb.block b hg).trans h.1, h.2⟩
theorem Mg.bS (h : Mg kv vv w b L) (hb : Below w.heap.size w w') : Mg kv vv w' b L := h.below hb h.lt
theorem Mg.grown {k : Option Nat} (h : Mg kv vv w b L) (hg : w.grownBy w' k) (hne : some b ≠ k) : Mg kv vv w' b L := ⟨(hg.block b h.lt hne).trans h.1, h.2⟩

theorem mg_find {P : Program} {kt : TypeId} (K : KeyRun P kt kv) (hL : (L.map (·.1)).Nodup) (w : World) (k : κ) :
    (k ∉ L.map (·.1) ∧ (Instr.findKey kt (kv k) (mgE kv vv L)).run P w = .ok none w) ∨ ∃ i v, L[i]? = some (k, v) ∧ (Instr.findKey kt (kv k) (mgE kv vv L)).run P w = .ok (some (i, vv v)) w := by
  rcases K.find w k (mgE kv vv L) (mgE_keys L) with ⟨h1, h2⟩ | ⟨j, e, h1, h2, h3⟩
  · refine .inl ⟨fun hk => ?_, h1⟩
    obtain ⟨p, hp, rfl⟩ := List.mem_map.1 hk
    obtain ⟨i, hi, rfl⟩ := List.getElem_of_mem hp
    exact h2 _ (List.mem_of_getElem? (mgE_get (List.getElem?_eq_getElem hi))) rfl
  · obtain ⟨p, hp, rfl⟩ := mgE_getI h2
    have hk := K.inj (show kv p.1 = kv k from h3)
    subst hk
    exact .inr ⟨j, p.2, hp, h1⟩
theorem run_mgLen {P : Program} {w : World} {t kt e : TypeId} (ht : P.underlying t = some (.map kt e)) (hb : Mg kv vv w b L) (ty : TypeId) :
    (Builtin.len_ #[t] ty #[.map (some b)]).run P w = .ok (.int .i64 L.length) w := by
  simp [Builtin.len_, run_underlying ht, MapKept.run_getObj_map hb.1, goInt, Result.andThen, mgE_length]
/-! ### range over a map that stands -/
/-- An iterator in block r over the map in block b: which places it has handed out. -/
structure Rg (kv : κ → Value) (vv : ν → Value) (w : World) (b r : Nat) (L : List (κ × ν)) (seen : Array Nat) : Prop where
  map : Mg kv vv w b L
  it : w.heap[r]? = some (.mapIter (some b) L.length seen L.length)
  nd : seen.toList.Nodup
  lt : ∀ i ∈ seen.toList, i < L.length
/-- What has been handed out. -/
def rgOut (L : List (κ × ν)) (seen : Array Nat) : List (κ × ν) := seen.toList.filterMap fun i => L[i]?
theorem Rg.ne {r : Nat} {seen : Array Nat} (h : Rg kv vv w b r L seen) : r ≠ b := fun e => by
  have h1 := h.it
  rw [e, h.map.1] at h1
  cases h1
theorem Rg.ltr {r : Nat} {seen : Array Nat} (h : Rg kv vv w b r L seen) : r < w.heap.size := (Array.getElem?_eq_some_iff.1 h.it).1
theorem Rg.below {B r : Nat} {seen : Array Nat} (h : Rg kv vv w b r L seen) (hb : Below B w w') (hg : b < B) (hr : r < B) : Rg kv vv w' b r L seen := ⟨h.map.below hb hg, (hb.block r hr).trans h.it, h.nd, h.lt⟩
theorem Rg.bS {r : Nat} {seen : Array Nat} (h : Rg kv vv w b r L seen) (hb : Below w.heap.size w w') : Rg kv vv w' b r L seen := h.below hb h.map.lt h.ltr
theorem Rg.grown {k : Option Nat} {r : Nat} {seen : Array Nat} (h : Rg kv vv w b r L seen) (hg : w.grownBy w' k) (hne : some b ≠ k) (hnr : some r ≠ k) : Rg kv vv w' b r L seen := ⟨h.map.grown hg hne, (hg.block r h.ltr hnr).trans h.it, h.nd, h.lt⟩
theorem Rg.start (h : Mg kv vv w b L) : Rg kv vv (w.alloc (.mapIter (some b) L.length #[] L.length)) b w.heap.size L #[] := ⟨h.alloc _, heap_alloc_new w _, List.nodup_nil, fun i hi => by cases hi⟩
theorem run_mgRange {P : Program} {w : World} {t kt e : TypeId} (ht : P.underlying t = some (.map kt e)) (hb : Mg kv vv w b L) :
    (Instr.range t (.map (some b))).run P w = .ok (.pointer (some ⟨w.heap.size, 0, none⟩)) (w.alloc (.mapIter (some b) L.length #[] L.length)) :=
  run_range_map w t kt e b _ _ ht hb.1
theorem nodup_len_le : ∀ (n : Nat) {s : List Nat}, s.Nodup → (∀ i ∈ s, i < n) → s.length ≤ n
  | 0, [], _, _ => Nat.le_refl _
  | 0, x :: l, _, h => absurd (h x (List.mem_cons_self ..)) (Nat.not_lt_zero _)
  | n + 1, s, hn, h => by
    have h1 := nodup_len_le n (s := s.erase n) (hn.erase n) (fun i hi => by
      have h2 := (hn.mem_erase_iff).1 hi
      have h3 := h i h2.2
      have h4 := h2.1
      omega)
    have h5 : s.length ≤ (s.erase n).length + 1 := by
      rw [List.length_erase]
      split <;> omega
    omega
theorem Rg.size_le {r : Nat} {seen : Array Nat} (h : Rg kv vv w b r L seen) : seen.size ≤ L.length := by
  have := nodup_len_le _ h.nd h.lt
  simpa using this
/-- All is handed out. -/
theorem Rg.all {r : Nat} {seen : Array Nat} (h : Rg kv vv w b r L seen) (hall : (leftOf (mgE kv vv L).toArray seen).size = 0) : (rgOut L seen).Perm L := by
  have hs := all_seen _ seen hall
  have hp : seen.toList.Perm (List.range L.length) := by
    rw [List.perm_ext_iff_of_nodup h.nd List.nodup_range]
    intro i
    refine ⟨fun hi => List.mem_range.2 (h.lt i hi), fun hi => ?_⟩
    have hi' := List.mem_range.1 hi
    have := hs _ (List.mem_of_getElem? (mgE_get (kv := kv) (vv := vv) (List.getElem?_eq_getElem hi')))
    simpa using this
  have h2 := hp.filterMap fun i => L[i]?
  refine h2.trans ?_
  have : (List.range L.length).filterMap (fun i => L[i]?) = L := by
    clear h2 hp hs hall h
    induction L with
    | nil => rfl
    | cons x l ih =>
      rw [List.length_cons, List.range_succ_eq_map, List.filterMap_cons]
      simp only [List.getElem?_cons_zero, List.filterMap_map]
      rw [← ih]
      congr 1
      conv => rhs; rw [← ih]
      rfl
  rw [this]
/-- The step. -/
theorem Rg.next {P : Program} {r : Nat} {seen : Array Nat} (h : Rg kv vv w b r L seen) (ty : TypeId) :
    ((rgOut L seen).Perm L ∧ (Instr.next (.pointer (some ⟨r, 0, none⟩)) false ty).run P w = .ok (.tuple #[.bool false]) w) ∨
    ∃ k v seen' w', (k, v) ∈ L ∧ (Instr.next (.pointer (some ⟨r, 0, none⟩)) false ty).run P w = .ok (.tuple #[.bool true, kv k, vv v]) w' ∧ Rg kv vv w' b r L seen' ∧ rgOut L seen' = rgOut L seen ++ [(k, v)] ∧ seen'.size = seen.size + 1 ∧ seen'.size ≤ L.length ∧ w.grownBy w' (some r) ∧ w'.heap.size = w.heap.size ∧
      ∀ W, Rg kv vv W b r L seen' → (Instr.entry (.pointer (some ⟨r, 0, none⟩))).run P W = .ok (.tuple #[kv k, vv v]) W := by
  have hborn : ((mgE kv vv L).toArray.toList.map (·.born)) = List.range L.length := by simpa using mgE_born (kv := kv) (vv := vv) L
  have hold : ∀ x ∈ (mgE kv vv L).toArray.toList, x.born < L.length := fun x hx => by
    have : x.born ∈ List.range L.length := by rw [← hborn]; exact List.mem_map.2 ⟨x, hx, rfl⟩
    exact List.mem_range.1 this
  rcases run_next_at (P := P) w ty r b L.length L.length seen _ _ h.it h.map.1 hold (Nat.le_refl _) with ⟨h0, hrun⟩ | ⟨e, he, w1, hal, hrun⟩
  · exact .inl ⟨h.all h0, hrun⟩
  · obtain ⟨hem, hes⟩ := mem_left he
    obtain ⟨i, p, hp, rfl⟩ := mgE_mem (show e ∈ mgE kv vv L from hem)
    have hr1 : w1.heap[r]? = some (.mapIter (some b) L.length seen L.length) := by rcases hal with rfl | rfl <;> exact h.it
    have hb1 : w1.heap[b]? = some (.map (mgE kv vv L).toArray L.length) := by rcases hal with rfl | rfl <;> exact h.map.1
    have hset := heap_set (o' := .mapIter (some b) L.length (seen.push i) L.length) hr1
    have hnot : i ∉ seen.toList := by
      have : seen.contains i = false := hes
      simpa using this
    have hR : Rg kv vv (setBlock w1 r (.mapIter (some b) L.length (seen.push i) L.length)) b r L (seen.push i) := by
      refine ⟨⟨(hset.2 b (fun e1 => h.ne e1.symm)).trans hb1, h.map.2⟩, hset.1, ?_, ?_⟩
      · rw [Array.toList_push, List.nodup_append]
        exact ⟨h.nd, by simp, fun a ha c hc e => by simp at hc; subst hc; exact hnot (e ▸ ha)⟩
      · intro j hj
        rw [Array.toList_push, List.mem_append] at hj
        rcases hj with hj | hj
        · exact h.lt j hj
        · simp at hj
          subst hj
          exact (List.getElem?_eq_some_iff.1 hp).1
    refine .inr ⟨p.1, p.2, seen.push i, _, List.mem_of_getElem? hp, hrun, hR, ?_, by simp, by have := hR.size_le; exact this, ?_, ?_, fun W hW => ?_⟩
    · simp [rgOut, hp]
    · rcases hal with rfl | rfl <;> exact ⟨rfl, rfl, rfl, by simp [setBlock], fun i _ hi => hset.2 i (fun e1 => hi (by rw [e1]))⟩
    · rcases hal with rfl | rfl <;> simp [setBlock]
    · exact run_entry_at W r b L.length seen (mgE kv vv L).toArray L.length ⟨kv p.1, vv p.2, i⟩ hW.it hW.map.1 hem (by rw [hborn]; exact List.nodup_range)
section
variable [DecidableEq κ]
/-- An update. -/
def mgPut (k : κ) (v : ν) : List (κ × ν) → List (κ × ν)
  | [] => [(k, v)]
  | p :: l => if p.1 = k then (k, v) :: l else p :: mgPut k v l
def mgGet (k : κ) (L : List (κ × ν)) : Option ν := (L.find? fun p => decide (p.1 = k)).map (·.2)
theorem mgPut_new {k : κ} {v : ν} : ∀ {L : List (κ × ν)}, k ∉ L.map (·.1) → mgPut k v L = L ++ [(k, v)]
  | [], _ => rfl
  | p :: l, h => by
    rw [mgPut, if_neg (fun e => h (by simp [e])), mgPut_new (fun hm => h (List.mem_cons_of_mem _ hm))]
    rfl
theorem mgPut_old {k : κ} {v : ν} : ∀ {L : List (κ × ν)} {i : Nat} {u : ν}, (L.map (·.1)).Nodup → L[i]? = some (k, u) → mgPut k v L = L.set i (k, v)
  | [], i, _, _, h => by simp at h
  | p :: l, 0, u, _, h => by
    simp at h
    subst h
    simp [mgPut]
  | p :: l, i + 1, u, hn, h => by
    obtain ⟨h1, h2⟩ := List.nodup_cons.1 hn
    simp at h
    rw [mgPut, if_neg (fun e => h1 (List.mem_map.2 ⟨_, List.mem_of_getElem? h, e.symm⟩)), mgPut_old h2 h]
    rfl
theorem mgPut_keys {k : κ} {v : ν} : ∀ (L : List (κ × ν)), (mgPut k v L).map (·.1) = if k ∈ L.map (·.1) then L.map (·.1) else L.map (·.1) ++ [k]
  | [] => by simp [mgPut]
  | p :: l => by
    rw [mgPut]
    by_cases h : p.1 = k
    · rw [if_pos h, if_pos (by simp [h])]
      simp [h]
    · rw [if_neg h]
      simp only [List.map_cons]
      rw [mgPut_keys l]
      by_cases h2 : k ∈ l.map (·.1)
      · rw [if_pos h2, if_pos (List.mem_cons_of_mem _ h2)]
      · rw [if_neg h2, if_neg (fun hm => by rcases List.mem_cons.1 hm with e | e; exact h e.symm; exact h2 e)]
        rfl
theorem mgPut_nodup {k : κ} {v : ν} {L : List (κ × ν)} (h : (L.map (·.1)).Nodup) : ((mgPut k v L).map (·.1)).Nodup := by
  rw [mgPut_keys]
  split
  · exact h
  · rename_i hk
    rw [List.nodup_append]
    exact ⟨h, by simp, fun a ha b hb e => by simp at hb; subst hb; exact hk (e ▸ ha)⟩
theorem mgPut_len_le {k : κ} {v : ν} (L : List (κ × ν)) : (mgPut k v L).length ≤ L.length + 1 := by
  have h := congrArg List.length (mgPut_keys (k := k) (v := v) L)
  split at h <;> simp at h <;> omega
theorem mgGet_none {k : κ} {L : List (κ × ν)} (h : k ∉ L.map (·.1)) : mgGet k L = none := by
  have : L.find? (fun p => decide (p.1 = k)) = none := by
    rw [List.find?_eq_none]
    intro p hp e
    exact h (List.mem_map.2 ⟨p, hp, of_decide_eq_true e⟩)
  rw [mgGet, this]
  rfl
theorem mgGet_some {k : κ} {v : ν} : ∀ {L : List (κ × ν)}, (L.map (·.1)).Nodup → (k, v) ∈ L → mgGet k L = some v
  | [], _, h => by cases h
  | p :: l, hn, h => by
    obtain ⟨h1, h2⟩ := List.nodup_cons.1 hn
    rcases List.mem_cons.1 h with e | h
    · subst e
      simp [mgGet]
    · have hne : p.1 ≠ k := fun e => h1 (List.mem_map.2 ⟨_, h, e.symm⟩)
      have := mgGet_some h2 h
      rw [mgGet] at this ⊢
      rw [List.find?_cons, decide_eq_false hne]
      exact this
theorem mgGet_mem {k : κ} {v : ν} {L : List (κ × ν)} (h : mgGet k L = some v) : (k, v) ∈ L := by
  rw [mgGet, Option.map_eq_some_iff] at h
  obtain ⟨p, hp, rfl⟩ := h
  have h1 := List.find?_some hp
  have h2 := List.mem_of_find?_eq_some hp
  have : p.1 = k := of_decide_eq_true h1
  rw [← this]
  exact h2

theorem run_mgLook {P : Program} {w : World} {t kt e : TypeId} (K : KeyRun P kt kv) (ht : P.underlying t = some (.map kt e)) {z : Value} (hz : (zeroValue e).run P w = .ok z w) (hb : Mg kv vv w b L) (k : κ) (c : Bool) :
    (Instr.lookup t (.map (some b)) (kv k) c).run P w = .ok (if c then .tuple #[((mgGet k L).map vv).getD z, .bool (mgGet k L).isSome] else ((mgGet k L).map vv).getD z) w := by
  rcases mg_find (vv := vv) K hb.2 w k with ⟨hk, hf⟩ | ⟨i, v, hi, hf⟩
  · rw [mgGet_none hk]
    simp [Instr.lookup, run_underlying ht, MapKept.run_getObj_map hb.1, K.check, hf, hz, Result.andThen]
  · rw [mgGet_some hb.2 (List.mem_of_getElem? hi)]
    simp [Instr.lookup, run_underlying ht, MapKept.run_getObj_map hb.1, K.check, hf, Result.andThen]
theorem run_mgPut {P : Program} {w : World} {t kt e : TypeId} (K : KeyRun P kt kv) (ht : P.underlying t = some (.map kt e)) (hb : Mg kv vv w b L) (k : κ) (v : ν) :
    (Instr.mapUpdate t (.map (some b)) (kv k) (vv v)).run P w = .ok () { w with heap := w.heap.setIfInBounds b (.map (mgE kv vv (mgPut k v L)).toArray (mgPut k v L).length) } := by
  rcases mg_find (vv := vv) K hb.2 w k with ⟨hk, hf⟩ | ⟨i, u, hi, hf⟩
  · rw [mgPut_new hk]
    simp [Instr.mapUpdate, run_underlying ht, MapKept.run_getObj_map hb.1, K.check, hf, MapKept.run_setObj_map _ hb.1, Result.andThen, mgE_snoc]
  · rw [mgPut_old hb.2 hi]
    have hi' := mgE_get (kv := kv) (vv := vv) hi
    have hm : ((mgE kv vv L).modify i fun e => { key := kv k, val := vv v, born := e.born }) = mgE kv vv (L.set i (k, v)) := by
      rw [mgE_set]
      apply List.ext_getElem?
      intro j
      rw [List.getElem?_modify, List.getElem?_set]
      by_cases hij : i = j
      · subst hij
        have hl := (List.getElem?_eq_some_iff.1 hi').1
        rw [hi']
        simp [hl]
      · simp [hij]
    simp [Instr.mapUpdate, run_underlying ht, MapKept.run_getObj_map hb.1, K.check, hf, hi', K.stays, MapKept.run_setObj_map _ hb.1, Result.andThen, hm]
theorem wpList_mgPut {P : Program} (w : World) {ops : Array Oper} {rest : List Oper} {o : Oper} {a : Act} {Q : Exit → Act → World → Prop}
    (hg : o.guard = none) (m x y : Operand) (t : TypeId) (hop : o.op = Op.mapUpdate t m x y) {kt e : TypeId} (K : KeyRun P kt kv) (ht : P.underlying t = some (.map kt e))
    (b : Nat) (L : List (κ × ν)) (hm : a.eval m = .map (some b)) (hb : Mg kv vv w b L) (k : κ) (v : ν) (hx : a.eval x = kv k) (hv : a.eval y = vv v)
    (hK : ∀ w', Mg kv vv w' b (mgPut k v L) → w.grownBy w' (some b) → w'.heap.size = w.heap.size → wpList P ops Q rest (a.put o.dst undef) w') :
    wpList P ops Q (o :: rest) a w := by
  refine wpList_plain hg fun K' hK' => ?_
  have hrun := run_mgPut K ht hb k v
  unfold Oper.wp
  simp [execOp, hop, hm, hx, hv, hrun, Result.andThen]
  refine hK' _ _ (hK _ ⟨?_, mgPut_nodup hb.2⟩ ⟨rfl, rfl, rfl, by simp, fun i _ hne => ?_⟩ (by simp))
  · have := hb.lt
    show (w.heap.setIfInBounds b _)[b]? = _
    simp [this]
  · show (w.heap.setIfInBounds b _)[i]? = _
    rw [Array.getElem?_setIfInBounds, if_neg (fun e => hne (by rw [e]))]

end
end
/-- Keys that are numbers of a kind. -/
theorem intRun {P : Program} {kt : TypeId} {q : IntKind} (hk : P.underlying kt = some (.int q)) : KeyRun P kt (fun n : Nat => Value.int q n) where
  inj h := by injection h with _ h; omega
  check w em x := MapKept.run_checkKey hk (by simp [IsKey]) em 9999
  find w x es hes := by
    rcases findNow_spec (d := .int q) (k := .int q x) (by simp [IsKey]) es 0 (fun e he => by obtain ⟨y, hy⟩ := hes e he; rw [hy]; simp [IsKey]) with ⟨h1, h2⟩ | ⟨j, e, h1, h2, h3⟩
    · exact .inl ⟨MapKept.run_findKey hk h1, h2⟩
    · exact .inr ⟨j, e, by rw [MapKept.run_findKey hk h1, Nat.zero_add], h2, h3⟩
  stays w x := MapKept.run_keyThatStays (d := .int q) (by simp [IsKey])
end Go.Proofs.Ythaiplhjekkooaa

/- deps: edges as keys of a map. -/
namespace Go.Proofs.Ythaiplhjekkooaa
open Go.RowKit Go.MapKept

structure Ek where
  b : Nat
  f : ByteArray
  t : ByteArray
deriving DecidableEq
abbrev ekA (e : Ek) : Array Value := #[.int .u64 e.b, .string e.f, .string e.t]
abbrev ekV (e : Ek) : Value := .agg (ekA e)
theorem eqEk (W : World) (x y : Ek) : (Op.equal 71 (ekV x) (ekV y)).run Try.prog W = .ok (decide (x = y)) W := by
  obtain ⟨xb, xf, xt⟩ := x
  obtain ⟨yb, yf, yt⟩ := y
  simp only [Ek.mk.injEq, ekV, ekA]
  rw [show Op.equal 71 (.agg #[.int .u64 xb, .string xf, .string xt]) (.agg #[.int .u64 yb, .string yf, .string yt]) = Op.equalIn 10000 71 (.agg #[.int .u64 xb, .string xf, .string xt]) (.agg #[.int .u64 yb, .string yf, .string yt]) from rfl]
  have s1 : (xf.toList == yf.toList) = decide (xf = yf) := strEq_of'
  have s2 : (xt.toList == yt.toList) = decide (xt = yt) := strEq_of'
  by_cases h1 : xb = yb
  · subst h1
    have e1 : ((xb : Int) == (xb : Int)) = true := by simp
    by_cases h2 : xf = yf
    · subst h2
      by_cases h3 : xt = yt
      · subst h3
        simp only [and_self, decide_true]
        go_simp
      · rw [decide_eq_false h3] at s2
        simp only [h3, and_false, decide_false]
        go_simp
    · rw [decide_eq_false h2] at s1
      simp only [h2, and_false, false_and, decide_false]
      go_simp
  · have e1 : ((xb : Int) == (yb : Int)) = false := by simp; omega
    simp only [h1, false_and, decide_false]
    go_simp
theorem chkEk (W : World) (em : Bool) (x : Ek) : (Instr.checkKey em 10000 71 (ekV x)).run Try.prog W = .ok () W := by
  have c1 : ∀ W', (Instr.checkKey em 9999 29 (.int .u64 x.b)).run Try.prog W' = .ok () W' := fun W' => MapKept.run_checkKey Try.underlying29 (by simp [IsKey]) em 9998
  have c2 : ∀ W', (Instr.checkKey em 9999 9 (.string x.f)).run Try.prog W' = .ok () W' := fun W' => MapKept.run_checkKey Try.underlying9 (by simp [IsKey]) em 9998
  have c3 : ∀ W', (Instr.checkKey em 9999 9 (.string x.t)).run Try.prog W' = .ok () W' := fun W' => MapKept.run_checkKey Try.underlying9 (by simp [IsKey]) em 9998
  unfold Instr.checkKey
  go_simp
theorem findAsk (W : World) (x : Ek) : ∀ (es : List MapEntry) (i : Nat), (∀ e ∈ es, ∃ y, e.key = ekV y) →
    ((Instr.findAsking 71 (ekV x) es i).run Try.prog W = .ok none W ∧ ∀ e ∈ es, e.key ≠ ekV x) ∨ ∃ j e, (Instr.findAsking 71 (ekV x) es i).run Try.prog W = .ok (some (i + j, e.val)) W ∧ es[j]? = some e ∧ e.key = ekV x
  | [], i, _ => .inl ⟨rfl, by simp⟩
  | e :: es, i, h => by
    obtain ⟨y, hy⟩ := h e (.head _)
    have hq := eqEk W x y
    by_cases hxy : x = y
    · refine .inr ⟨0, e, ?_, rfl, by rw [hy, hxy]⟩
      rw [decide_eq_true hxy] at hq
      simp [Instr.findAsking, hy, Sem.run_bind, hq, Result.andThen]
    · rw [decide_eq_false hxy] at hq
      have hne : e.key ≠ ekV x := fun e1 => hxy (by
        rw [hy] at e1
        obtain ⟨xb, xf, xt⟩ := x
        obtain ⟨yb, yf, yt⟩ := y
        simp at e1
        obtain ⟨h1, h2, h3⟩ := e1
        have h1 : xb = yb := by omega
        subst h1 h2 h3
        rfl)
      rcases findAsk W x es (i + 1) (fun z hz => h z (.tail _ hz)) with ⟨h1, h2⟩ | ⟨j, e', h1, h2, h3⟩
      · exact .inl ⟨by simp [Instr.findAsking, hy, Sem.run_bind, hq, Result.andThen, h1], fun z hz => by
          cases hz with
          | head => exact hne
          | tail _ hz => exact h2 z hz⟩
      · exact .inr ⟨j + 1, e', by simp [Instr.findAsking, hy, Sem.run_bind, hq, Result.andThen, h1]; omega, by simpa using h2, h3⟩
theorem ekRun : KeyRun Try.prog 71 ekV where
  inj {x y} h := by
    obtain ⟨xb, xf, xt⟩ := x
    obtain ⟨yb, yf, yt⟩ := y
    simp at h
    obtain ⟨h1, h2, h3⟩ := h
    have h1 : xb = yb := by omega
    subst h1 h2 h3
    rfl
  check W em x := chkEk W em x
  find W x es hes := by
    have hf : Instr.findKey 71 (ekV x) es = Instr.findKey 71 (ekV x) es := rfl
    have hk : ∀ fs, Instr.findNow (.struct fs) (ekV x) es 0 = if es = [] then some none else none := fun fs => by
      cases es with
      | nil => rfl
      | cons e es => rfl
    have hu := Try.underlying71
    have hrun : (Instr.findKey 71 (ekV x) es).run Try.prog W = (Instr.findAsking 71 (ekV x) es 0).run Try.prog W := by
      unfold Instr.findKey
      rw [Sem.run_bind, run_underlying hu]
      simp only [Result.andThen, hk]
      cases es with
      | nil => rfl
      | cons e es => rfl
    rcases findAsk W x es 0 hes with ⟨h1, h2⟩ | ⟨j, e, h1, h2, h3⟩
    · exact .inl ⟨hrun.trans h1, h2⟩
    · exact .inr ⟨j, e, by rw [hrun, h1, Nat.zero_add], h2, h3⟩
  stays W x := by
    have h : Instr.sameBits 10000 (ekV x) (ekV x) = true := by simp [Instr.sameBits, bytes_beq]
    unfold Instr.keyThatStays
    rw [h]
    rfl
end Go.Proofs.Ythaiplhjekkooaa

/- deps: add. -/
namespace Go.Proofs.Ythaiplhjekkooaa
open Go.RowKit Go.MapKept
theorem loadEk_shutG (a : Addr) : loadVar 71 a = loadK 71 a := rfl
attribute [local go_sem ↓] loadEk_shutG
set_option maxRecDepth 100000 in
theorem loadK_ekB {w : World} {g : Nat} {e : Ek} (h : Bk w g 71 (ekA e)) : (loadK 71 ⟨g, 0, none⟩).run Try.prog w = .ok (ekV e) w :=
  run_loadVar_row w g _ _ (ekA e) (0, 0) _ h Try.underlying71 rfl (by rfl)
abbrev uvV (n : Nat) : Value := .int .u64 n
/-- A number more. -/
def addK (k : Ek) (n : Nat) (L : List (Ek × Nat)) : List (Ek × Nat) := mgPut k (min ((mgGet k L).getD 0) 4611686018427387905 + min n 4611686018427387905) L
theorem min_int (a b : Nat) : (if (b : Int) < (a : Int) then (b : Int) else (a : Int)) = ((min a b : Nat) : Int) := by
  split <;> omega
theorem min_intK (a : Nat) : (if (4611686018427387905 : Int) < (a : Int) then (4611686018427387905 : Int) else (a : Int)) = ((min a 4611686018427387905 : Nat) : Int) := by
  split <;> omega
set_option maxRecDepth 100000 in
set_option maxHeartbeats 2000000 in
theorem deAdd {b : Nat} {L : List (Ek × Nat)} (k : Ek) (n : Nat) (w : World) (h : Mg ekV uvV w b L) :
    Calls Try.prog 35 #[.map (some b), ekV k, .int .u64 n] w fun e w' => e = .returned (.tuple #[]) ∧ Mg ekV uvV w' b (addK k n L) ∧ w.grownBy w' (some b) ∧ w.heap.size ≤ w'.heap.size := by
  have hg0 := World.grownBy_alloc w (.cells (ekA k) 71) (some b)
  have hs0 : w.heap.size ≤ (w.alloc (.cells (ekA k) 71)).heap.size := by simp
  have m1 := h.alloc (.cells (ekA k) 71)
  have bk1 := Bk.new w 71 (ekA k)
  obtain ⟨w1, hw1⟩ : ∃ w1, w.alloc (.cells (ekA k) 71) = w1 := ⟨_, rfl⟩
  obtain ⟨g, hg⟩ : ∃ g, w.heap.size = g := ⟨_, rfl⟩
  rw [hw1] at hg0 hs0 m1 bk1
  rw [hg] at bk1
  have hld := loadK_ekB (w := w1.drew) bk1
  have hlk := run_mgLook (z := .int .u64 0) (e := 29) ekRun Try.underlying67 (by simp [Try.zeroValue29]) m1.drew k false
  have hgv : ((mgGet k L).map uvV).getD (.int .u64 0) = .int .u64 ((mgGet k L).getD 0 : Nat) := by
    cases mgGet k L <;> rfl
  simp only [Bool.false_eq_true, if_false, hgv] at hlk
  obtain ⟨R, hR⟩ : ∃ R, addK k n L = R := ⟨_, rfl⟩
  rw [hR]
  rw [addK] at hR
  obtain ⟨old, hold⟩ : ∃ old, (mgGet k L).getD 0 = old := ⟨_, rfl⟩
  rw [hold] at hlk hR
  have e1 := min_intK old
  have e2 := min_intK n
  obtain ⟨p, hp⟩ : ∃ p, min old 4611686018427387905 = p := ⟨_, rfl⟩
  obtain ⟨q, hq⟩ : ∃ q, min n 4611686018427387905 = q := ⟨_, rfl⟩
  rw [hp] at e1 hR
  rw [hq] at e2 hR
  have hwr : IntKind.u64.wrap ((p : Int) + (q : Int)) = ((p + q : Nat) : Int) := by
    rw [show (p : Int) + (q : Int) = ((p + q : Nat) : Int) from by omega]
    exact IntWalk.u64_in _ ⟨by omega, by omega⟩
  have HW := Lib.hid hw1
  have HG := Lib.hid hg
  have HR := Lib.hid hR
  have HM := Lib.hid m1
  have HG0 := Lib.hid hg0
  have HS0 := Lib.hid hs0
  clear hw1 hg hR m1 hp hq hold hg0 hs0 h hgv bk1
  go_enter Try.func35, Try.ntmps35
  go_wp2_with fail
  rw [HW.out, HG.out]
  go_still_tail 9, (by kernel_rfl)
  change wpList _ _ _ _ _ w1.drew
  go_wp2_with (first
    | (refine wpList_mgPut _ rfl (.tmp 6) (.tmp 7) (.tmp 14) 67 rfl ekRun Try.underlying67 b L rfl HM.out.drew k (p + q) rfl rfl ?_
       rintro w3 hm3 hg3 hs3)
    | fail)
  go_end0
  refine ⟨rfl, by rw [← HR.out]; exact hm3, ?_, ?_⟩
  · exact HG0.out.trans ⟨hg3.os, hg3.tape, hg3.output, hg3.size, hg3.block⟩
  · have := HS0.out
    rw [hs3]
    exact this
end Go.Proofs.Ythaiplhjekkooaa

/- Spans: cmp.Compare, cmp.Or, slices.CompareFunc. -/
namespace Go.Proofs.Ythaiplhjekkooaa
open Go.RowKit

theorem cmpU (x y : Int) (w : World) : Calls Try.prog 58 #[.int .u64 x, .int .u64 y] w fun e w' => e = .returned (.int .i64 (cmpI x y)) ∧ w' = w := by
  by_cases h1 : x < y
  · rw [show cmpI x y = -1 from by rw [cmpI, if_pos h1]]
    go_enter Try.func58, Try.ntmps58
    go_wp2
    go_ret
    exact ⟨rfl, rfl⟩
  · by_cases h2 : y < x
    · rw [show cmpI x y = 1 from by rw [cmpI, if_neg h1, if_pos h2]]
      go_enter Try.func58, Try.ntmps58
      go_wp2
      go_ret
      exact ⟨rfl, rfl⟩
    · rw [show cmpI x y = 0 from by rw [cmpI, if_neg h1, if_neg h2]]
      go_enter Try.func58, Try.ntmps58
      go_wp2
      go_ret
      exact ⟨rfl, rfl⟩
theorem cmpStr (s t : ByteArray) (w : World) : Calls Try.prog 59 #[.string s, .string t] w fun e w' => e = .returned (.int .i64 (cmpS s t)) ∧ w' = w := by
  have n1 : (s.toList == s.toList) = true := by simp
  have n2 : (t.toList == t.toList) = true := by simp
  cases h1 : strLt s t with
  | true =>
    rw [show cmpS s t = -1 from by rw [cmpS, if_pos h1]]
    unfold strLt at h1
    go_enter Try.func59, Try.ntmps59
    go_wp2
    go_ret
    exact ⟨rfl, rfl⟩
  | false =>
    by_cases h2 : s = t
    · subst h2
      rw [show cmpS s s = 0 from by rw [cmpS, h1]; simp]
      unfold strLt at h1
      go_enter Try.func59, Try.ntmps59
      go_wp2
      go_ret
      exact ⟨rfl, rfl⟩
    · rw [show cmpS s t = 1 from by rw [cmpS, h1, if_neg h2]; simp]
      have h3 : (s.toList == t.toList) = false := by rw [strEq_of']; simpa using h2
      unfold strLt at h1
      go_enter Try.func59, Try.ntmps59
      go_wp2
      go_ret
      exact ⟨rfl, rfl⟩
set_option maxHeartbeats 400000 in
theorem cmpOr {l : List Int} {n g : Nat} (w : World) (hn : l.length = n) (hnl : n ≤ 1000) (hb : Bk w g 3 (l.map (Value.int .i64)).toArray) :
    Calls Try.prog 57 #[.slice (some ⟨g, 0, none⟩) n n] w fun e w' => e = .returned (.int .i64 (orL l)) ∧ w' = w := by
  have HN := Lib.hid hn
  have hget : ∀ j x, l[j]? = some x → w.cell? ⟨g, j, none⟩ = some (.int .i64 x) := fun j x h => by
    rw [hb.cell j, List.getElem?_toArray, List.getElem?_map, h]
    rfl
  have HG := Lib.hid hget
  obtain ⟨q, hq⟩ : ∃ q, orL l = q := ⟨_, rfl⟩
  rw [hq]
  have HQ := Lib.hid hq
  clear hn hget hq
  go_enter Try.func57, Try.ntmps57
  go_wp2
  go_loop [8] (fun i => ∃ j : Nat, j ≤ n ∧ i = .int .i64 j ∧ orL (l.drop j) = q) (fun i => n - (intOf i).toNat)
  case atStart => exact ⟨0, by omega, rfl, HQ.out⟩
  case round =>
    obtain ⟨j, hj, rfl, hd⟩ := hrel
    have HD := Lib.hid hd
    clear hd
    by_cases hlt : j < n
    · have hlt' : (j : Int) < (n : Int) := by omega
      obtain ⟨x, hx⟩ : ∃ x, l[j]? = some x := ⟨_, List.getElem?_eq_getElem (by rw [HN.out]; exact hlt)⟩
      have hc := HG.out j x hx
      have hd := orL_drop hx
      rw [HD.out] at hd
      have HX := Lib.hid hd
      clear hx hd
      by_cases h0 : x = 0
      · subst h0
        have hd := HX.out
        rw [if_neg (by simp)] at hd
        have HX2 := Lib.hid hd
        clear hd
        go_wp2
        go_round
        case rel => exact ⟨j + 1, by omega, by go_num, HX2.out.symm⟩
        case measure => simp [intOf]; omega
      · have hxb : (x != 0) = true := by simp [h0]
        have hd := HX.out
        rw [if_pos h0] at hd
        have HX2 := Lib.hid hd
        clear hd
        go_wp2
        go_ret
        exact ⟨by rw [HX2.out]; rfl, rfl⟩
    · have hlt' : decide ((j : Int) < (n : Int)) = false := by simp; omega
      go_wp2
      go_ret
      have : q = 0 := by
        rw [← HD.out, List.drop_eq_nil_of_le (by rw [HN.out]; omega)]
        rfl
      exact ⟨by rw [this]; rfl, rfl⟩
end Go.Proofs.Ythaiplhjekkooaa

/- Spans: the order of spans is one: plain laws. -/
namespace Go.Proofs.Ythaiplhjekkooaa
open Go.RowKit

/-- A comparison that tells apart, and is in order. -/
structure Cmp {α : Type} (f : α → α → Int) : Prop where
  rng : ∀ a b, f a b = -1 ∨ f a b = 0 ∨ f a b = 1
  eq : ∀ a b, f a b = 0 ↔ a = b
  neg : ∀ a b, f b a = - f a b
  tr : ∀ a b c, f a b = -1 → f b c = -1 → f a c = -1
theorem Cmp.lex {α β : Type} {f : α → α → Int} {g : β → β → Int} (F : Cmp f) (G : Cmp g) : Cmp (fun (a b : α × β) => if f a.1 b.1 ≠ 0 then f a.1 b.1 else g a.2 b.2) := by
  refine ⟨fun a b => ?_, fun a b => ?_, fun a b => ?_, fun a b c => ?_⟩
  · by_cases h : f a.1 b.1 = 0
    · simp only [h]; simpa using G.rng a.2 b.2
    · rw [if_pos h]; exact F.rng a.1 b.1
  · by_cases h : f a.1 b.1 = 0
    · have h1 := (F.eq a.1 b.1).1 h
      simp only [h, ne_eq, not_true_eq_false, if_false]
      rw [G.eq]
      exact ⟨fun h2 => Prod.ext h1 h2, fun h2 => by rw [h2]⟩
    · simp only [h, ne_eq, not_false_eq_true, if_true, false_iff]
      rintro rfl
      exact h ((F.eq _ _).2 rfl)
  · by_cases h : f a.1 b.1 = 0
    · have h1 : f b.1 a.1 = 0 := by rw [F.neg, h]; rfl
      simp only [h, h1, ne_eq, not_true_eq_false, if_false]
      exact G.neg _ _
    · have h1 : f b.1 a.1 ≠ 0 := by rw [F.neg]; omega
      simp only [h, h1, ne_eq, not_false_eq_true, if_true]
      exact F.neg _ _
  · intro h1 h2
    by_cases e1 : f a.1 b.1 = 0
    · have q1 := (F.eq _ _).1 e1
      rw [if_neg (by simp [e1])] at h1
      by_cases e2 : f b.1 c.1 = 0
      · rw [if_neg (by simp [e2])] at h2
        rw [if_neg (by rw [q1, e2]; simp)]
        exact G.tr _ _ _ h1 h2
      · rw [if_pos e2] at h2
        rw [if_pos (by rw [q1]; exact e2), q1]
        exact h2
    · rw [if_pos e1] at h1
      by_cases e2 : f b.1 c.1 = 0
      · have q2 := (F.eq _ _).1 e2
        rw [if_pos (by rw [← q2]; exact e1), ← q2]
        exact h1
      · rw [if_pos e2] at h2
        have := F.tr _ _ _ h1 h2
        rw [if_pos (by omega)]
        exact this
theorem Cmp.pull {α γ : Type} {f : α → α → Int} (F : Cmp f) (h : γ → α) (hi : ∀ x y, h x = h y → x = y) : Cmp (fun x y => f (h x) (h y)) :=
  ⟨fun _ _ => F.rng _ _, fun x y => (F.eq _ _).trans ⟨hi x y, fun e => by rw [e]⟩, fun _ _ => F.neg _ _, fun _ _ _ => F.tr _ _ _⟩
theorem cmpI_cmp : Cmp cmpI := by
  have key : ∀ a b : Int, (cmpI a b = -1 ∧ a < b) ∨ (cmpI a b = 0 ∧ a = b) ∨ (cmpI a b = 1 ∧ b < a) := fun a b => by
    unfold cmpI
    by_cases h1 : a < b
    · rw [if_pos h1]; omega
    · rw [if_neg h1]
      by_cases h2 : b < a
      · rw [if_pos h2]; omega
      · rw [if_neg h2]; omega
  refine ⟨fun a b => ?_, fun a b => ?_, fun a b => ?_, fun a b c h1 h2 => ?_⟩
  · have := key a b; omega
  · have := key a b
    constructor <;> intro h <;> omega
  · have := key a b
    have := key b a
    omega
  · have := key a b
    have := key b c
    have := key a c
    omega
theorem strLt_ltb (s t : ByteArray) : strLt s t = ltb (nums s) (nums t) := by
  have := ltb_str (nums_byt s) (nums_byt t)
  rw [strOf_nums, strOf_nums] at this
  exact this
theorem ltb_irr : ∀ (a : List Int), ltb a a = false
  | [] => rfl
  | x :: a => by rw [ltb, ltb_irr a]; simp
theorem ltb_tr : ∀ (a b c : List Int), ltb a b = true → ltb b c = true → ltb a c = true
  | a, [], _, h, _ => by simp [ltb] at h
  | _, y :: b, [], _, h => by simp [ltb] at h
  | [], _ :: _, _ :: _, _, _ => rfl
  | x :: a, y :: b, z :: c, h1, h2 => by
    simp only [ltb, Bool.or_eq_true, Bool.and_eq_true, decide_eq_true_eq] at h1 h2 ⊢
    rcases h1 with h1 | ⟨h1, h1'⟩
    · rcases h2 with h2 | ⟨h2, _⟩ <;> exact .inl (by omega)
    · rcases h2 with h2 | ⟨h2, h2'⟩
      · exact .inl (by omega)
      · exact .inr ⟨by omega, ltb_tr a b c h1' h2'⟩
theorem ltb_tri : ∀ (a b : List Int), ltb a b = false → ltb b a = false → a = b
  | [], [], _, _ => rfl
  | [], _ :: _, h, _ => by cases h
  | _ :: _, [], _, h => by cases h
  | x :: a, y :: b, h1, h2 => by
    simp only [ltb, Bool.or_eq_false_iff, Bool.and_eq_false_iff, decide_eq_false_iff_not] at h1 h2
    have hxy : x = y := by omega
    subst hxy
    rw [ltb_tri a b (by rcases h1.2 with h | h; · exact absurd rfl h
                        · exact h) (by rcases h2.2 with h | h; · exact absurd rfl h
                                       · exact h)]
theorem cmpS_cmp : Cmp cmpS := by
  have asym : ∀ s t, strLt s t = true → strLt t s = false := fun s t h => by
    cases h2 : strLt t s with
    | false => rfl
    | true =>
      rw [strLt_ltb] at h h2
      have := ltb_tr _ _ _ h h2
      rw [ltb_irr] at this
      cases this
  have irr : ∀ s, strLt s s = false := fun s => by rw [strLt_ltb, ltb_irr]
  have tri : ∀ s t, strLt s t = false → s ≠ t → strLt t s = true := fun s t h hne => by
    cases h2 : strLt t s with
    | true => rfl
    | false =>
      rw [strLt_ltb] at h h2
      exact absurd (nums_inj (ltb_tri _ _ h h2)) hne
  refine ⟨fun a b => ?_, fun a b => ?_, fun a b => ?_, fun a b c => ?_⟩
  · unfold cmpS; split
    · simp
    · split <;> simp
  · unfold cmpS
    cases h : strLt a b with
    | true =>
      simp
      rintro rfl
      rw [irr] at h
      cases h
    | false => simp
  · by_cases he : a = b
    · subst he
      unfold cmpS
      rw [irr]; simp
    · cases h : strLt a b with
      | true =>
        have h2 := asym _ _ h
        unfold cmpS
        rw [h, h2, if_neg (by simp), if_neg (fun e => he e.symm), if_pos rfl]
        rfl
      | false =>
        have h2 := tri _ _ h he
        unfold cmpS
        rw [h, h2, if_pos rfl, if_neg (by simp), if_neg he]
  · unfold cmpS
    intro h1 h2
    have k1 : strLt a b = true := by
      cases h : strLt a b with
      | true => rfl
      | false => rw [h] at h1; simp at h1; split at h1 <;> cases h1
    have k2 : strLt b c = true := by
      cases h : strLt b c with
      | true => rfl
      | false => rw [h] at h2; simp at h2; split at h2 <;> cases h2
    have k3 : strLt a c = true := by
      rw [strLt_ltb] at k1 k2 ⊢
      exact ltb_tr _ _ _ k1 k2
    rw [k3]; rfl
theorem orL2 (x y : Int) : orL [x, y] = if x ≠ 0 then x else y := by
  simp only [orL]
  by_cases h : x = 0
  · by_cases h2 : y = 0
    · simp [h, h2]
    · simp [h, h2]
  · simp [h]
theorem cmpTg_cmp : Cmp cmpTg := by
  have := (cmpS_cmp.lex cmpS_cmp).pull (fun t : Tg => (t.key, t.val)) (fun x y h => by cases x; cases y; simp at h; simp [h])
  have e : cmpTg = fun x y : Tg => if cmpS x.key y.key ≠ 0 then cmpS x.key y.key else cmpS x.val y.val := by
    funext x y
    rw [cmpTg, orL2]
  rw [e]
  exact this
theorem cmpTL_cmp : Cmp cmpTL := by
  have F := cmpTg_cmp
  refine ⟨fun a => ?_, fun a => ?_, fun a => ?_, fun a => ?_⟩
  · induction a with
    | nil => intro b; cases b <;> simp [cmpTL]
    | cons x a ih =>
      intro b
      cases b with
      | nil => simp [cmpTL]
      | cons y b =>
        rw [cmpTL]
        by_cases h : cmpTg x y = 0
        · rw [if_neg (by simp [h])]; exact ih b
        · rw [if_pos h]; exact F.rng x y
  · induction a with
    | nil => intro b; cases b <;> simp [cmpTL]
    | cons x a ih =>
      intro b
      cases b with
      | nil => simp [cmpTL]
      | cons y b =>
        rw [cmpTL]
        by_cases h : cmpTg x y = 0
        · rw [if_neg (by simp [h]), ih b, (F.eq _ _).1 h]; simp
        · rw [if_pos h]
          refine ⟨fun e => absurd e h, fun e => ?_⟩
          injection e with e1 e2
          exact (F.eq _ _).2 e1
  · induction a with
    | nil => intro b; cases b <;> simp [cmpTL]
    | cons x a ih =>
      intro b
      cases b with
      | nil => simp [cmpTL]
      | cons y b =>
        rw [cmpTL, cmpTL]
        have hn := F.neg x y
        by_cases h : cmpTg x y = 0
        · rw [if_neg (by omega), if_neg (by simp [h])]; exact ih b
        · rw [if_pos (by omega), if_pos h]; exact hn
  · induction a with
    | nil =>
      intro b c h1 h2
      cases b with
      | nil => simp [cmpTL] at h1
      | cons y b =>
        cases c with
        | nil => simp [cmpTL] at h2
        | cons z c => rfl
    | cons x a ih =>
      intro b c h1 h2
      cases b with
      | nil => simp [cmpTL] at h1
      | cons y b =>
        cases c with
        | nil => simp [cmpTL] at h2
        | cons z c =>
          rw [cmpTL] at h1 h2 ⊢
          by_cases e1 : cmpTg x y = 0
          · have q1 := (F.eq _ _).1 e1
            rw [if_neg (by simp [e1])] at h1
            by_cases e2 : cmpTg y z = 0
            · rw [if_neg (by simp [e2])] at h2
              rw [if_neg (by rw [q1, e2]; simp)]
              exact ih b c h1 h2
            · rw [if_pos e2] at h2
              rw [if_pos (by rw [q1]; exact e2), q1]
              exact h2
          · rw [if_pos e1] at h1
            by_cases e2 : cmpTg y z = 0
            · have q2 := (F.eq _ _).1 e2
              rw [if_pos (by rw [← q2]; exact e1), ← q2]
              exact h1
            · rw [if_pos e2] at h2
              have := F.tr _ _ _ h1 h2
              rw [if_pos (by omega)]
              exact this
theorem Cmp.of_eq {α : Type} {f g : α → α → Int} (F : Cmp f) (h : ∀ a b, g a b = f a b) : Cmp g := by
  have e : g = f := by funext a b; exact h a b
  rw [e]; exact F
theorem cmpNat_cmp : Cmp (fun x y : Nat => cmpI (x : Int) (y : Int)) := cmpI_cmp.pull (fun x : Nat => (x : Int)) (fun x y h => by omega)
theorem cmpBool_cmp : Cmp (fun x y : Bool => cmpI (if x = true then 1 else 0) (if y = true then 1 else 0)) := cmpI_cmp.pull (fun x : Bool => if x = true then (1 : Int) else 0) (fun x y h => by cases x <;> cases y <;> simp at h <;> rfl)
def spTup (s : Sp) : (Nat × Nat) × Nat × Nat × Int × Int × ByteArray × ByteArray × Int × Bool × List Tg := ((s.hi, s.lo), s.id, s.parent, s.start, s.length, s.service, s.name, s.kind, s.fails, s.tags)
theorem orL1 (x : Int) : orL [x] = x := by
  simp only [orL]
  by_cases h : x = 0
  · simp [h]
  · simp [h]
theorem orL_cons (x y : Int) (l : List Int) : orL (x :: y :: l) = if x ≠ 0 then x else orL (y :: l) := rfl
/-- The order of spans is one: it tells spans apart, the other way round it is the opposite, and it goes on over a third. -/
theorem spCmp_cmp : Cmp spCmp := by
  have C := ((cmpNat_cmp.lex cmpNat_cmp).lex (cmpNat_cmp.lex (cmpNat_cmp.lex (cmpI_cmp.lex (cmpI_cmp.lex (cmpS_cmp.lex (cmpS_cmp.lex (cmpI_cmp.lex (cmpBool_cmp.lex cmpTL_cmp))))))))).pull spTup (fun x y h => by
    cases x; cases y
    simp only [spTup, Prod.mk.injEq] at h
    obtain ⟨⟨h1, h2⟩, h3, h4, h5, h6, h7, h8, h9, h10, h11⟩ := h
    subst h1 h2 h3 h4 h5 h6 h7 h8 h9 h10 h11
    rfl)
  refine C.of_eq fun a b => ?_
  rw [spCmp, orL_cons, orL_cons, orL_cons, orL_cons, orL_cons, orL_cons, orL_cons, orL_cons, orL_cons, orL1, cmpTr, orL2]
  rfl
end Go.Proofs.Ythaiplhjekkooaa

/- deps: compare; the order of edges. -/
namespace Go.Proofs.Ythaiplhjekkooaa
open Go.RowKit

def ekCmp (a b : Ek) : Int := orL [cmpI a.b b.b, cmpS a.f b.f, cmpS a.t b.t]
theorem ekCmp_cmp : Cmp ekCmp := by
  have h := (cmpI_cmp.lex (cmpS_cmp.lex cmpS_cmp)).pull (fun e : Ek => ((e.b : Int), e.f, e.t)) (fun x y h => by
    obtain ⟨xb, xf, xt⟩ := x
    obtain ⟨yb, yf, yt⟩ := y
    simp at h
    obtain ⟨h1, h2, h3⟩ := h
    have h1 : xb = yb := by omega
    subst h1 h2 h3
    rfl)
  have e : ekCmp = fun x y : Ek => if cmpI x.b y.b ≠ 0 then cmpI x.b y.b else if cmpS x.f y.f ≠ 0 then cmpS x.f y.f else cmpS x.t y.t := by
    funext x y
    simp only [ekCmp, orL]
    by_cases h1 : cmpI x.b y.b = 0
    · by_cases h2 : cmpS x.f y.f = 0
      · by_cases h3 : cmpS x.t y.t = 0 <;> simp [h1, h2, h3]
      · simp [h1, h2]
    · simp [h1]
  rw [e]
  exact h
def edK (e : Ed) : Ek := ⟨e.b, e.f, e.t⟩
def SortEd (l : List Ed) : Prop := l.Pairwise fun a b => ekCmp (edK a) (edK b) ≤ 0
theorem strLt_cmpS (s t : ByteArray) : strLt s t = decide (cmpS s t = -1) := by
  rcases strLt_ways s t with ⟨h1, h2⟩ | ⟨h1, -, h2⟩ | ⟨h1, -, h2⟩ <;> rw [h1, h2] <;> rfl
theorem ekCmp_def (a b : Ek) : ekCmp a b = if cmpI a.b b.b ≠ 0 then cmpI a.b b.b else if cmpS a.f b.f ≠ 0 then cmpS a.f b.f else cmpS a.t b.t := by
  simp only [ekCmp, orL]
  by_cases h1 : cmpI a.b b.b = 0
  · by_cases h2 : cmpS a.f b.f = 0
    · by_cases h3 : cmpS a.t b.t = 0 <;> simp [h1, h2, h3]
    · simp [h1, h2]
  · simp [h1]
theorem edLt_cmp (a b : Ed) : edLt a b = true ↔ ekCmp (edK a) (edK b) = -1 := by
  rw [ekCmp_def]
  show _ ↔ (if cmpI a.b b.b ≠ 0 then cmpI a.b b.b else if cmpS a.f b.f ≠ 0 then cmpS a.f b.f else cmpS a.t b.t) = -1
  unfold edLt
  by_cases h1 : a.b = b.b
  · have e1 : cmpI (a.b : Int) (b.b : Int) = 0 := (cmpI_cmp.eq _ _).2 (by omega)
    rw [if_neg (show ¬ a.b ≠ b.b from fun h => h h1), if_neg (show ¬ cmpI (a.b : Int) (b.b : Int) ≠ 0 from fun h => h e1)]
    by_cases h2 : a.f = b.f
    · have e2 : cmpS a.f b.f = 0 := (cmpS_cmp.eq _ _).2 h2
      rw [if_neg (show ¬ a.f ≠ b.f from fun h => h h2), if_neg (show ¬ cmpS a.f b.f ≠ 0 from fun h => h e2), strLt_cmpS, decide_eq_true_eq]
    · have e2 : cmpS a.f b.f ≠ 0 := fun h => h2 ((cmpS_cmp.eq _ _).1 h)
      rw [if_pos h2, if_pos e2, strLt_cmpS, decide_eq_true_eq]
  · have e1 : cmpI (a.b : Int) (b.b : Int) ≠ 0 := fun h => h1 (by have := (cmpI_cmp.eq _ _).1 h; omega)
    rw [if_pos h1, if_pos e1, decide_eq_true_eq, cmpI]
    constructor
    · intro h
      rw [if_pos (by omega)]
    · intro h
      by_cases h3 : (a.b : Int) < (b.b : Int)
      · omega
      · rw [if_neg h3] at h
        split at h <;> simp at h
set_option maxRecDepth 100000 in
set_option maxHeartbeats 2000000 in
theorem deCompare (x y : Ed) (w : World) :
    Calls Try.prog 42 #[edV x, edV y] w fun e w' => e = .returned (.int .i64 (ekCmp (edK x) (edK y))) ∧ Below w.heap.size w w' ∧ w.drawn ≤ w'.drawn := by
  have b1 := (Bk.new w 47 (edA x)).alloc (.cells (edA y) 47)
  have b2 := Bk.new (w.alloc (.cells (edA x) 47)) 47 (edA y)
  rw [World.size_alloc] at b2
  have hb0 : Below w.heap.size w ((w.alloc (.cells (edA x) 47)).alloc (.cells (edA y) 47)) := ((Below.refl _ w).alloc (Nat.le_refl _) _).alloc (by simp) _
  obtain ⟨W, hW⟩ : ∃ W, (w.alloc (.cells (edA x) 47)).alloc (.cells (edA y) 47) = W := ⟨_, rfl⟩
  rw [hW] at b1 b2 hb0
  have HW := Lib.hid hW
  obtain ⟨g, hg⟩ : ∃ g, w.heap.size = g := ⟨_, rfl⟩
  rw [hg] at b1 b2
  have HG := Lib.hid hg
  have k10 : W.cell? ⟨g, 0, none⟩ = some (.int .u64 x.b) := b1.cell 0
  have k11 : W.cell? ⟨g, 1, none⟩ = some (.string x.f) := b1.cell 1
  have k12 : W.cell? ⟨g, 2, none⟩ = some (.string x.t) := b1.cell 2
  have k20 : W.cell? ⟨g + 1, 0, none⟩ = some (.int .u64 y.b) := b2.cell 0
  have k21 : W.cell? ⟨g + 1, 1, none⟩ = some (.string y.f) := b2.cell 1
  have k22 : W.cell? ⟨g + 1, 2, none⟩ = some (.string y.t) := b2.cell 2
  have hsz := hb0.size
  obtain ⟨xb, hxb⟩ : ∃ q, x.b = q := ⟨_, rfl⟩
  obtain ⟨xf, hxf⟩ : ∃ q, x.f = q := ⟨_, rfl⟩
  obtain ⟨xt, hxt⟩ : ∃ q, x.t = q := ⟨_, rfl⟩
  obtain ⟨yb, hyb⟩ : ∃ q, y.b = q := ⟨_, rfl⟩
  obtain ⟨yf, hyf⟩ : ∃ q, y.f = q := ⟨_, rfl⟩
  obtain ⟨yt, hyt⟩ : ∃ q, y.t = q := ⟨_, rfl⟩
  have hres : ekCmp (edK x) (edK y) = orL [cmpI xb yb, cmpS xf yf, cmpS xt yt] := by rw [ekCmp, edK, edK, hxb, hxf, hxt, hyb, hyf, hyt]
  rw [hres]
  rw [hxb] at k10
  rw [hxf] at k11
  rw [hxt] at k12
  rw [hyb] at k20
  rw [hyf] at k21
  rw [hyt] at k22
  obtain ⟨c1, hc1⟩ : ∃ c, cmpI xb yb = c := ⟨_, rfl⟩
  obtain ⟨c2, hc2⟩ : ∃ c, cmpS xf yf = c := ⟨_, rfl⟩
  obtain ⟨c3, hc3⟩ : ∃ c, cmpS xt yt = c := ⟨_, rfl⟩
  have u1 := fun w => cmpU xb yb w
  rw [hc1] at u1
  have u2 := fun w => cmpStr xf yf w
  rw [hc2] at u2
  have u3 := fun w => cmpStr xt yt w
  rw [hc3] at u3
  rw [hc1, hc2, hc3]
  obtain ⟨q, hq⟩ : ∃ q, orL [c1, c2, c3] = q := ⟨_, rfl⟩
  rw [hq]
  have HQ := Lib.hid hq
  have HB := Lib.hid hb0
  have bo := (Bk.new W 3 #[.int .i64 c1, .int .i64 c2, .int .i64 c3]).drew
  have hor := cmpOr (l := [c1, c2, c3]) (n := 3) _ rfl (by decide) bo
  rw [hq] at hor
  have HOR := Lib.hid hor
  clear hor hW hg b1 b2 hc1 hc2 hc3 hres hq hb0 hxb hxf hxt hyb hyf hyt bo
  go_enter Try.func42, Try.ntmps42
  go_upto_region 1 with fail
  rw [HW.out, HG.out]
  go_region_held3 (fun w' => w'.cell? ⟨g, 0, none⟩ = some (.int .u64 xb) ∧ w'.cell? ⟨g, 1, none⟩ = some (.string xf) ∧ w'.cell? ⟨g, 2, none⟩ = some (.string xt) ∧ w'.cell? ⟨g + 1, 0, none⟩ = some (.int .u64 yb) ∧ w'.cell? ⟨g + 1, 1, none⟩ = some (.string yf) ∧ w'.cell? ⟨g + 1, 2, none⟩ = some (.string yt))
    (go_keep)
    (first
      | (go_at_call 58
         refine (u1 _).mono ?_
         rintro e w' ⟨rfl, hw⟩
         rw [hw]
         clear hw w')
      | (go_at_call_of 59 (Value.string xf)
         refine (u2 _).mono ?_
         rintro e w' ⟨rfl, hw⟩
         rw [hw]
         clear hw w')
      | (go_at_call_of 59 (Value.string xt)
         refine (u3 _).mono ?_
         rintro e w' ⟨rfl, hw⟩
         rw [hw]
         clear hw w')
      | (go_at_call 57
         refine HOR.out.mono ?_
         rintro e w' ⟨rfl, hw⟩
         rw [hw]
         clear hw w')
      | fail)
  all_goals
    go_wp2
    go_ret
    exact ⟨rfl, below_drewN (HB.out.alloc hsz (.cells #[.int .i64 c1, .int .i64 c2, .int .i64 c3] 3)) 1, by rw [← HW.out]; exact Nat.le_add_right w.drawn 1⟩
end Go.Proofs.Ythaiplhjekkooaa

/- Edges, plain: the document's add and a map say the same. -/
namespace Go.Proofs.Ythaiplhjekkooaa
open Go.RowKit

def mkEd (p : Ek × Nat) : Ed := ⟨p.1.b, p.1.f, p.1.t, p.2⟩
theorem edK_mk (p : Ek × Nat) : edK (mkEd p) = p.1 := rfl
theorem mk_inj {p q : Ek × Nat} (h : mkEd p = mkEd q) : p = q := by
  obtain ⟨⟨b, f, t⟩, n⟩ := p
  obtain ⟨⟨b', f', t'⟩, n'⟩ := q
  simp [mkEd] at h
  obtain ⟨h1, h2, h3, h4⟩ := h
  subst h1 h2 h3 h4
  rfl
theorem mk_un (e : Ed) : mkEd (edK e, e.n) = e := rfl
def StrEd (l : List Ed) : Prop := l.Pairwise fun a b => edLt a b = true
theorem edLt_key {a b c d : Ed} (h1 : edK a = edK c) (h2 : edK b = edK d) : edLt a b = edLt c d := by
  rw [Bool.eq_iff_iff, edLt_cmp, edLt_cmp, h1, h2]
theorem edLt_irr (a : Ed) : edLt a a = false := by
  rw [Bool.eq_false_iff]
  intro h
  rw [edLt_cmp, (ekCmp_cmp.eq _ _).2 rfl] at h
  cases h
theorem edLt_tr {a b c : Ed} (h1 : edLt a b = true) (h2 : edLt b c = true) : edLt a c = true := by
  rw [edLt_cmp] at *
  exact ekCmp_cmp.tr _ _ _ h1 h2
theorem edLt_ne {a b : Ed} (h : edLt a b = true) : edK a ≠ edK b := fun e => by
  rw [edLt_cmp, (ekCmp_cmp.eq _ _).2 e] at h
  cases h
theorem edLt_tri {a b : Ed} (h1 : edLt a b = false) (h2 : edLt b a = false) : edK a = edK b := by
  rw [Bool.eq_false_iff] at h1 h2
  have n1 : ekCmp (edK a) (edK b) ≠ -1 := fun h => h1 ((edLt_cmp _ _).2 h)
  have n2 : ekCmp (edK b) (edK a) ≠ -1 := fun h => h2 ((edLt_cmp _ _).2 h)
  have r := ekCmp_cmp.rng (edK a) (edK b)
  have n := ekCmp_cmp.neg (edK a) (edK b)
  exact (ekCmp_cmp.eq _ _).1 (by omega)
/-- The number at a key. -/
def edNum (l : List Ed) (k : Ek) : Nat := ((l.find? fun e => decide (edK e = k)).map (·.n)).getD 0
theorem edNum_cons (a : Ed) (l : List Ed) (k : Ek) : edNum (a :: l) k = if edK a = k then a.n else edNum l k := by
  unfold edNum
  rw [List.find?_cons]
  by_cases h : edK a = k
  · rw [decide_eq_true h, if_pos h]; rfl
  · rw [decide_eq_false h, if_neg h]
theorem edNum_none {l : List Ed} {k : Ek} (h : ∀ e ∈ l, edK e ≠ k) : edNum l k = 0 := by
  induction l with
  | nil => rfl
  | cons a l ih =>
    rw [edNum_cons, if_neg (h a (List.mem_cons_self ..))]
    exact ih fun e he => h e (List.mem_cons_of_mem _ he)
theorem edNum_mem {l : List Ed} {e : Ed} (hs : StrEd l) (h : e ∈ l) : edNum l (edK e) = e.n := by
  induction l with
  | nil => cases h
  | cons a l ih =>
    obtain ⟨h1, h2⟩ := List.pairwise_cons.1 hs
    rw [edNum_cons]
    rcases List.mem_cons.1 h with rfl | h
    · rw [if_pos rfl]
    · rw [if_neg (edLt_ne (h1 e h))]
      exact ih h2 h
theorem addE_cons (x a : Ed) (l : List Ed) : addE x (a :: l) = if edLt a x = true then (a :: (addE x l).1, (addE x l).2) else
    if edLt x a = true then (x :: a :: l, decide (x.n ≤ 4611686018427387904)) else if 4611686018427387904 < x.n ∨ 4611686018427387904 - x.n < a.n then (a :: l, false) else (⟨a.b, a.f, a.t, a.n + x.n⟩ :: l, true) := by
  by_cases h : edLt a x = true
  · rw [if_pos h]
    unfold addE
    rw [addPos, if_pos h]
    simp only [List.getElem?_cons_succ, List.take_succ_cons, List.drop_succ_cons, List.set_cons_succ]
    cases l[addPos x l]? with
    | none => rfl
    | some y =>
      simp only []
      by_cases h1 : edLt x y = true
      · rw [if_pos h1, if_pos h1]; rfl
      · rw [if_neg h1, if_neg h1]
        by_cases h2 : 4611686018427387904 < x.n ∨ 4611686018427387904 - x.n < y.n
        · rw [if_pos h2, if_pos h2]
        · rw [if_neg h2, if_neg h2]
  · rw [if_neg h]
    unfold addE
    rw [addPos, if_neg h]
    rfl
theorem addE_flag {x : Ed} : ∀ {l : List Ed}, StrEd l → (addE x l).2 = decide (edNum l (edK x) + x.n ≤ 4611686018427387904)
  | [], _ => by
    show decide (x.n ≤ _) = decide (0 + x.n ≤ _)
    rw [Nat.zero_add]
  | a :: l, hs => by
    obtain ⟨h1, h2⟩ := List.pairwise_cons.1 hs
    rw [addE_cons]
    by_cases h : edLt a x = true
    · rw [if_pos h, edNum_cons, if_neg (edLt_ne h)]
      exact addE_flag h2
    · rw [if_neg h]
      by_cases h3 : edLt x a = true
      · rw [if_pos h3, edNum_none (k := edK x) (fun e he => by
          rcases List.mem_cons.1 he with rfl | he
          · exact (edLt_ne h3).symm
          · exact (edLt_ne (edLt_tr h3 (h1 e he))).symm), Nat.zero_add]
      · rw [if_neg h3, edNum_cons, if_pos (edLt_tri (Bool.eq_false_iff.2 h) (Bool.eq_false_iff.2 h3))]
        by_cases h4 : 4611686018427387904 < x.n ∨ 4611686018427387904 - x.n < a.n
        · rw [if_pos h4]
          exact (decide_eq_false (by omega)).symm
        · rw [if_neg h4]
          exact (decide_eq_true (by omega)).symm
theorem addE_mem {x : Ed} : ∀ {l : List Ed}, StrEd l → edNum l (edK x) + x.n ≤ 4611686018427387904 → ∀ e, e ∈ (addE x l).1 ↔ (e ∈ l ∧ edK e ≠ edK x) ∨ e = mkEd (edK x, edNum l (edK x) + x.n)
  | [], _, _, e => by
    show e ∈ [x] ↔ _
    rw [List.mem_singleton]
    have : mkEd (edK x, edNum [] (edK x) + x.n) = x := by
      show mkEd (edK x, 0 + x.n) = x
      rw [Nat.zero_add]
      rfl
    rw [this]
    simp
  | a :: l, hs, ho, e => by
    obtain ⟨h1, h2⟩ := List.pairwise_cons.1 hs
    rw [addE_cons]
    rw [edNum_cons] at ho ⊢
    by_cases h : edLt a x = true
    · rw [if_pos h]
      rw [if_neg (edLt_ne h)] at ho ⊢
      have ih := addE_mem h2 ho e
      simp only [List.mem_cons, ih]
      constructor
      · rintro (rfl | ⟨h3, h4⟩ | h3)
        · exact .inl ⟨.inl rfl, edLt_ne h⟩
        · exact .inl ⟨.inr h3, h4⟩
        · exact .inr h3
      · rintro (⟨rfl | h3, h4⟩ | h3)
        · exact .inl rfl
        · exact .inr (.inl ⟨h3, h4⟩)
        · exact .inr (.inr h3)
    · rw [if_neg h]
      by_cases h3 : edLt x a = true
      · have hno : ∀ e ∈ a :: l, edK e ≠ edK x := fun e he => by
          rcases List.mem_cons.1 he with rfl | he
          · exact (edLt_ne h3).symm
          · exact (edLt_ne (edLt_tr h3 (h1 e he))).symm
        have h0 := edNum_none hno
        rw [edNum_cons] at h0
        rw [if_pos h3, h0, Nat.zero_add, mk_un, List.mem_cons]
        constructor
        · rintro (rfl | h4)
          · exact .inr rfl
          · exact .inl ⟨h4, hno e h4⟩
        · rintro (⟨h4, _⟩ | h4)
          · exact .inr h4
          · exact .inl h4
      · have hk := edLt_tri (Bool.eq_false_iff.2 h) (Bool.eq_false_iff.2 h3)
        rw [if_pos hk] at ho ⊢
        rw [if_neg h3, if_neg (by omega)]
        have hm : (⟨a.b, a.f, a.t, a.n + x.n⟩ : Ed) = mkEd (edK x, a.n + x.n) := by rw [← hk]; rfl
        rw [hm, List.mem_cons, List.mem_cons]
        constructor
        · rintro (h4 | h4)
          · exact .inr h4
          · exact .inl ⟨.inr h4, fun e1 => edLt_ne (h1 e h4) (hk.trans e1.symm)⟩
        · rintro (⟨rfl | h4, h5⟩ | h4)
          · exact absurd hk h5
          · exact .inr h4
          · exact .inl h4
theorem addE_str {x : Ed} : ∀ {l : List Ed}, StrEd l → edNum l (edK x) + x.n ≤ 4611686018427387904 → StrEd (addE x l).1
  | [], _, _ => List.pairwise_singleton _ _
  | a :: l, hs, ho => by
    obtain ⟨h1, h2⟩ := List.pairwise_cons.1 hs
    rw [addE_cons]
    rw [edNum_cons] at ho
    by_cases h : edLt a x = true
    · rw [if_pos h]
      rw [if_neg (edLt_ne h)] at ho
      refine List.pairwise_cons.2 ⟨fun e he => ?_, addE_str h2 ho⟩
      rcases (addE_mem h2 ho e).1 he with ⟨h3, _⟩ | h3
      · exact h1 e h3
      · rw [← h]
        exact edLt_key rfl (by rw [h3]; rfl)
    · rw [if_neg h]
      by_cases h3 : edLt x a = true
      · rw [if_pos h3]
        refine List.pairwise_cons.2 ⟨fun e he => ?_, hs⟩
        rcases List.mem_cons.1 he with rfl | he
        · exact h3
        · exact edLt_tr h3 (h1 e he)
      · have hk := edLt_tri (Bool.eq_false_iff.2 h) (Bool.eq_false_iff.2 h3)
        rw [if_pos hk] at ho
        rw [if_neg h3, if_neg (by omega)]
        exact List.pairwise_cons.2 ⟨fun e he => (edLt_key rfl rfl).trans (h1 e he), h2⟩
/-! ### a map and a list say the same -/
theorem mgPut_mem {κ ν : Type} [DecidableEq κ] {k : κ} {v : ν} : ∀ {L : List (κ × ν)}, (L.map (·.1)).Nodup → ∀ p, p ∈ mgPut k v L ↔ (p ∈ L ∧ p.1 ≠ k) ∨ p = (k, v)
  | [], _, p => by simp [mgPut]
  | q :: l, hn, p => by
    obtain ⟨h1, h2⟩ := List.nodup_cons.1 hn
    rw [mgPut]
    by_cases h : q.1 = k
    · rw [if_pos h, List.mem_cons, List.mem_cons]
      constructor
      · rintro (h3 | h3)
        · exact .inr h3
        · exact .inl ⟨.inr h3, fun e => h1 (List.mem_map.2 ⟨p, h3, e.trans h.symm⟩)⟩
      · rintro (⟨rfl | h3, h4⟩ | h3)
        · exact absurd h h4
        · exact .inr h3
        · exact .inl h3
    · rw [if_neg h, List.mem_cons, List.mem_cons, mgPut_mem h2 p]
      constructor
      · rintro (rfl | ⟨h3, h4⟩ | h3)
        · exact .inl ⟨.inl rfl, h⟩
        · exact .inl ⟨.inr h3, h4⟩
        · exact .inr h3
      · rintro (⟨rfl | h3, h4⟩ | h3)
        · exact .inl rfl
        · exact .inr (.inl ⟨h3, h4⟩)
        · exact .inr (.inr h3)
structure Same (M : List (Ek × Nat)) (out : List Ed) : Prop where
  nd : (M.map (·.1)).Nodup
  st : StrEd out
  mem : ∀ p, p ∈ M ↔ mkEd p ∈ out
theorem Same.nil : Same [] [] := ⟨List.nodup_nil, List.Pairwise.nil, fun p => by simp⟩
theorem Same.num {M : List (Ek × Nat)} {out : List Ed} (h : Same M out) (k : Ek) : (mgGet k M).getD 0 = edNum out k := by
  cases hg : mgGet k M with
  | some v =>
    have h1 := (h.mem _).1 (mgGet_mem hg)
    have h2 := edNum_mem h.st h1
    exact h2.symm
  | none =>
    symm
    refine edNum_none fun e he hk => ?_
    have h1 := (h.mem (edK e, e.n)).2 he
    rw [hk] at h1
    rw [mgGet_some h.nd h1] at hg
    cases hg
theorem Same.step {M : List (Ek × Nat)} {out : List Ed} {x : Ed} (h : Same M out) (ho : edNum out (edK x) + x.n ≤ 4611686018427387904) : Same (addK (edK x) x.n M) (addE x out).1 := by
  refine ⟨mgPut_nodup h.nd, addE_str h.st ho, fun p => ?_⟩
  rw [addK, mgPut_mem h.nd, addE_mem h.st ho, h.num, h.mem, Nat.min_eq_left (by omega), Nat.min_eq_left (by omega)]
  refine or_congr Iff.rfl ⟨fun e => by rw [e], fun e => mk_inj e⟩
def BadM (M : List (Ek × Nat)) : Prop := ∃ p ∈ M, 4611686018427387904 < p.2
theorem BadM.step {M : List (Ek × Nat)} {k : Ek} {n : Nat} (hn : (M.map (·.1)).Nodup) (h : BadM M) : BadM (addK k n M) := by
  obtain ⟨p, hp, hlt⟩ := h
  by_cases hk : p.1 = k
  · refine ⟨(k, min ((mgGet k M).getD 0) 4611686018427387905 + min n 4611686018427387905), (mgPut_mem hn _).2 (.inr rfl), ?_⟩
    rw [mgGet_some hn (show (k, p.2) ∈ M by rw [← hk]; exact hp)]
    show _ < min p.2 _ + _
    omega
  · exact ⟨p, (mgPut_mem hn _).2 (.inl ⟨hp, hk⟩), hlt⟩
theorem Same.bad {M : List (Ek × Nat)} {out : List Ed} {x : Ed} (h : Same M out) (ho : ¬ edNum out (edK x) + x.n ≤ 4611686018427387904) : BadM (addK (edK x) x.n M) := by
  refine ⟨(edK x, _), (mgPut_mem h.nd _).2 (.inr rfl), ?_⟩
  rw [h.num]
  show _ < min _ _ + min _ _
  omega
/-- All of them added, in turn. -/
def addAll : List Ed → List Ed → Option (List Ed)
  | [], out => some out
  | x :: xs, out => if (addE x out).2 = true then addAll xs (addE x out).1 else none
def mgAll (xs : List Ed) (M : List (Ek × Nat)) : List (Ek × Nat) := xs.foldl (fun M x => addK (edK x) x.n M) M
theorem mgAll_bad {xs : List Ed} : ∀ {M : List (Ek × Nat)}, (M.map (·.1)).Nodup → BadM M → BadM (mgAll xs M) := by
  induction xs with
  | nil => intro M _ h; exact h
  | cons x xs ih => intro M hn h; exact ih (mgPut_nodup hn) (h.step hn)
theorem mgAll_nodup {xs : List Ed} : ∀ {M : List (Ek × Nat)}, (M.map (·.1)).Nodup → ((mgAll xs M).map (·.1)).Nodup := by
  induction xs with
  | nil => intro M h; exact h
  | cons x xs ih => intro M hn; exact ih (mgPut_nodup hn)
theorem mgAll_snoc (xs : List Ed) (x : Ed) (M : List (Ek × Nat)) : mgAll (xs ++ [x]) M = addK (edK x) x.n (mgAll xs M) := by simp [mgAll]
theorem mgAll_len (xs : List Ed) : ∀ (M : List (Ek × Nat)), (mgAll xs M).length ≤ M.length + xs.length := by
  induction xs with
  | nil => intro M; exact Nat.le_refl _
  | cons x xs ih =>
    intro M
    have h1 := ih (addK (edK x) x.n M)
    have h2 := mgPut_len_le (k := edK x) (v := min ((mgGet (edK x) M).getD 0) 4611686018427387905 + min x.n 4611686018427387905) M
    have h3 : (addK (edK x) x.n M).length ≤ M.length + 1 := h2
    show (mgAll xs (addK (edK x) x.n M)).length ≤ _
    simp only [List.length_cons]
    omega
/-- What is in a list that all were added to. -/
def AllSaid (r : Option (List Ed)) (M : List (Ek × Nat)) : Prop :=
  match r with
  | some o => Same M o ∧ ∀ e ∈ o, e.n ≤ 4611686018427387904
  | none => BadM M
theorem addAll_same {xs : List Ed} : ∀ {M : List (Ek × Nat)} {out : List Ed}, Same M out → (∀ e ∈ out, e.n ≤ 4611686018427387904) → AllSaid (addAll xs out) (mgAll xs M) := by
  induction xs with
  | nil => intro M out h hf; exact ⟨h, hf⟩
  | cons x xs ih =>
    intro M out h hf
    rw [addAll, addE_flag h.st]
    by_cases ho : edNum out (edK x) + x.n ≤ 4611686018427387904
    · rw [if_pos (decide_eq_true ho)]
      refine ih (h.step ho) fun e he => ?_
      rcases (addE_mem h.st ho e).1 he with ⟨h1, _⟩ | h1
      · exact hf e h1
      · rw [h1]; exact ho
    · rw [if_neg (by simp; omega)]
      show BadM (mgAll xs (addK (edK x) x.n M))
      exact mgAll_bad (mgPut_nodup h.nd) (h.bad ho)
/-- Sorted, and the map's: the list. -/
theorem Same.sorted {M : List (Ek × Nat)} {out l : List Ed} (h : Same M out) (hp : l.Perm (M.map mkEd)) (hs : SortEd l) : l = out := by
  have hkl : (l.map edK).Perm (M.map (·.1)) := by
    have := hp.map edK
    rw [List.map_map] at this
    exact this
  have hnd : (l.map edK).Nodup := hkl.nodup_iff.2 h.nd
  have hstr : StrEd l := by
    have h1 := List.pairwise_map.1 hnd
    refine (List.Pairwise.and hs h1).imp ?_
    rintro a b ⟨h2, h3⟩
    rw [edLt_cmp]
    have r := ekCmp_cmp.rng (edK a) (edK b)
    have : ekCmp (edK a) (edK b) ≠ 0 := fun e => h3 ((ekCmp_cmp.eq _ _).1 e)
    omega
  have hnl : l.Nodup := hstr.imp fun h e => by rw [e, edLt_irr] at h; cases h
  have hno : out.Nodup := h.st.imp fun h e => by rw [e, edLt_irr] at h; cases h
  have hperm : l.Perm out := (List.perm_ext_iff_of_nodup hnl hno).2 fun e => by
    rw [hp.mem_iff, List.mem_map]
    constructor
    · rintro ⟨p, h1, rfl⟩
      exact (h.mem p).1 h1
    · intro h1
      exact ⟨(edK e, e.n), (h.mem _).2 h1, rfl⟩
  exact List.Perm.eq_of_pairwise (le := fun a b => edLt a b = true) (fun a b _ _ h1 h2 => by
    have := edLt_tr h1 h2
    rw [edLt_irr] at this
    cases this) hstr h.st hperm
end Go.Proofs.Ythaiplhjekkooaa
