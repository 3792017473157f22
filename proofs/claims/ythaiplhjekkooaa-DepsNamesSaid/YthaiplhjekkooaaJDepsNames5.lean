/- Texts of the proof of DepsNamesSaid, joined: DeE DeG DeL DeQ Qb DeN DeM SpL. -/
import Derived.BigRegion
import Derived.Test.YthaiplhjekkooaaJDepsNames3
import Derived.Test.YthaiplhjekkooaaJDepsNames4
import Derived.StillTailTactics
import Derived.Laws.Small
import Derived.Maps.AppendAt
import Derived.Test.YthaiplhjekkooaaJDepsNames1
import Derived.Deep.RegionHeld3
import Derived.Deep.QuietTactic
import Derived.BigQuiet
/- Edges: the document's Edges. -/
namespace Go.Proofs.Ythaiplhjekkooaa
open Go.RowKit
theorem loadSp_shutE (a : Addr) : loadVar 43 a = loadK 43 a := rfl
attribute [local go_sem ↓] loadSp_shutE

set_option maxRecDepth 100000 in
theorem loadK_aeSpD {w : World} {b o i : Nat} {e : AE} (h : ∀ j, j < 14 → w.cell? ⟨b, o + (i * 14 + j), none⟩ = (aeC e)[j]?) : (loadK 43 ⟨b, o + i * 14, none⟩).run Try.prog w = .ok (spV e.a.s e.A e.n e.c) w :=
  run_loadVar_cells w _ _ ⟨b, o + i * 14, none⟩ (spC e.a.s e.A e.n e.c).toList Try.underlying43 rfl (by rfl) (fun j v hv => by
    have hj : j < 11 := (List.getElem?_eq_some_iff.1 hv).1
    rw [Addr.add_lit, Nat.add_assoc, h j (by omega), ← hv]
    have h14 : ∀ j, j < 11 → (aeC e)[j]? = (spC e.a.s e.A e.n e.c).toList[j]? := by
      intro j hj
      have : j = 0 ∨ j = 1 ∨ j = 2 ∨ j = 3 ∨ j = 4 ∨ j = 5 ∨ j = 6 ∨ j = 7 ∨ j = 8 ∨ j = 9 ∨ j = 10 := by omega
      rcases this with rfl | rfl | rfl | rfl | rfl | rfl | rfl | rfl | rfl | rfl | rfl <;> rfl
    exact h14 j hj)
theorem spErr_dropD {l : List Sp} {k : Nat} {x : Sp} (h : l[k]? = some x) : spErr (l.drop k) = if spChk x ≠ 0 then spChk x else spErr (l.drop (k + 1)) := by
  obtain ⟨hk, rfl⟩ := List.getElem?_eq_some_iff.1 h
  rw [List.drop_eq_getElem_cons hk, spErr]
def ads (l : List AE) : List Ad := l.map (·.a)
theorem ads_get {l : List AE} {i : Nat} {e : AE} (h : l[i]? = some e) : (ads l)[i]? = some e.a := by simp [ads, h]
theorem ads_len (l : List AE) : (ads l).length = l.length := by simp [ads]
/-- Has one of the first k the ID of x? -/
def dupTo (l : List Ad) (x : Ad) (k : Nat) : Bool := (List.range k).any fun j => match l[j]? with | some y => decide (y.s.id = x.s.id) | none => false
def edBadAt (l : List Ad) (i : Nat) : Bool := match l[i]? with | some x => decide (x.s.start < 0) || dupTo l x i | none => false
def edBadTo (l : List Ad) (i : Nat) : Bool := (List.range i).any (edBadAt l)
/-- A span's call of another service. -/
def edStep (size : Int) (x y : Ad) (out : List Ed) : List Ed :=
  if x.up ≠ 0 ∧ y.s.id = x.up ∧ y.s.service ≠ x.s.service then (addE ⟨(bktOf x.s.start size).1, y.s.service, x.s.service, 1⟩ out).1 else out
def edAt (size : Int) (l : List Ad) (x : Ad) (out : List Ed) (k : Nat) : List Ed := match l[k]? with | some y => edStep size x y out | none => out
def edRow (size : Int) (l : List Ad) (out : List Ed) (i : Nat) : List Ed := match l[i]? with | some x => (List.range l.length).foldl (edAt size l x) out | none => out
/-- What Edges answers. -/
def edOut (l : List Ad) (size : Int) : List Ed × Nat :=
  if size < 1 then ([], 2) else if edBadTo l l.length = true then ([], 2) else if spErr (l.map (·.s)) ≠ 0 then ([], spErr (l.map (·.s))) else ((List.range l.length).foldl (edRow size l) [], 0)
theorem dupTo_succ {l : List Ad} {x y : Ad} {k : Nat} (h : l[k]? = some y) : dupTo l x (k + 1) = (dupTo l x k || decide (y.s.id = x.s.id)) := by simp [dupTo, List.range_succ, h]
theorem edBadTo_succ (l : List Ad) (i : Nat) : edBadTo l (i + 1) = (edBadTo l i || edBadAt l i) := by simp [edBadTo, List.range_succ]
theorem any_le {f : Nat → Bool} {i n : Nat} (h : i ≤ n) (hi : (List.range i).any f = true) : (List.range n).any f = true := by
  rw [List.any_eq_true] at hi ⊢
  obtain ⟨j, hj, hf⟩ := hi
  exact ⟨j, List.mem_range.2 (by have := List.mem_range.1 hj; omega), hf⟩
/-- Numbers that stay small. -/
def EdFew (l : List Ed) : Prop := ∀ y ∈ l, y.n ≤ 4611686018427387904
theorem addE_few {x : Ed} {l : List Ed} (hx : x.n ≤ 4611686018427387904) (h : EdFew l) : EdFew (addE x l).1 ∧ (addE x l).1.length ≤ l.length + 1 := by
  have hins : EdFew (l.take (addPos x l) ++ x :: l.drop (addPos x l)) ∧ (l.take (addPos x l) ++ x :: l.drop (addPos x l)).length ≤ l.length + 1 := by
    refine ⟨fun y hy => ?_, by simp only [List.length_append, List.length_cons, List.length_take, List.length_drop]; omega⟩
    rcases List.mem_append.1 hy with hy | hy
    · exact h y (List.mem_of_mem_take hy)
    · rcases List.mem_cons.1 hy with rfl | hy
      · exact hx
      · exact h y (List.mem_of_mem_drop hy)
  unfold addE
  cases hy : l[addPos x l]? with
  | none => exact hins
  | some y =>
    simp only []
    by_cases h1 : edLt x y = true
    · rw [if_pos h1]; exact hins
    · rw [if_neg h1]
      by_cases h2 : 4611686018427387904 < x.n ∨ 4611686018427387904 - x.n < y.n
      · rw [if_pos h2]; exact ⟨h, Nat.le_succ _⟩
      · rw [if_neg h2]
        refine ⟨fun z hz => ?_, by rw [List.length_set]; exact Nat.le_succ _⟩
        rcases List.mem_or_eq_of_mem_set hz with hz | rfl
        · exact h z hz
        · show y.n + x.n ≤ _; omega
/-- What Edges hands back. -/
def EdsPost (w : World) (r : List Ed × Nat) (e : Ending) (w' : World) : Prop :=
  ∃ A' c', e = .returned (.tuple #[.slice A' r.1.length c', .int .i64 r.2]) ∧ w'.ownsRow w.heap.size 47 4 (.slice A' r.1.length c') r.1.length (eds r.1) ∧ Below w.heap.size w w'
theorem EdsPost.no {w w' : World} {q : Nat} (hb : Below w.heap.size w w') : EdsPost w ([], q) (.returned (.tuple #[.slice none 0 0, .int .i64 q])) w' := ⟨none, 0, rfl, World.ownsRow_nil _ _ _ _, hb⟩
set_option maxRecDepth 100000 in
set_option maxHeartbeats 8000000 in
theorem rDeEdges {A : Option Addr} {n c B : Nat} (l : List AE) (size : Int) (w : World) (h : RbA w B A l) (hn : l.length = n) (hB : B ≤ w.heap.size) (hnl : n ≤ 200) (hs0 : -9223372036854775808 ≤ size) (hs1 : size ≤ 9223372036854775807)
    (hst : ∀ e ∈ l, e.a.s.start ≤ 9223372036854775807 ∧ -9223372036854775808 ≤ e.a.s.start) :
    Calls Try.prog 11 #[.slice A n c, .int .i64 size] w (EdsPost w (edOut (ads l) size)) := by
  obtain ⟨r, hr⟩ : ∃ r, edOut (ads l) size = r := ⟨_, rfl⟩
  rw [hr]
  by_cases hz : size < 1
  · have hz' : decide (size < 1) = true := by simp [hz]
    have hre : r = ([], 2) := by rw [← hr, edOut, if_pos hz]
    subst hre
    go_enter Try.func11, Try.ntmps11
    go_wp2_with fail
    go_ret2
    exact EdsPost.no (Below.refl _ _)
  have hz' : decide (size < 1) = false := by simp; omega
  have hr1 : r = if edBadTo (ads l) n = true then ([], 2) else if spErr ((ads l).map (·.s)) ≠ 0 then ([], spErr ((ads l).map (·.s))) else ((List.range n).foldl (edRow size (ads l)) [], 0) := by
    rw [← hr, edOut, if_neg hz, ads_len, hn]
  have HR := Lib.hid hr1
  have HN := Lib.hid hn
  have HST := Lib.hid hst
  have HH := Lib.hid h
  clear hr hr1 hn hst h
  go_enter Try.func11, Try.ntmps11
  go_wp2_with fail
  go_loopw [6] (fun i_ wr => ∃ i : Nat, i ≤ n ∧ i_ = .int .i64 i ∧ Hid (edBadTo (ads l) i = false) ∧ Below w.heap.size w wr) (fun i_ _ => n - (intOf i_).toNat)
  case atStart => exact ⟨0, by omega, rfl, Lib.hid rfl, Below.refl _ _⟩
  case round =>
    obtain ⟨i, hi, rfl, HG, hb⟩ := hrel
    by_cases hlt : i < n
    · have hlt' : (i : Int) < (n : Int) := by omega
      obtain ⟨x, hx⟩ : ∃ x, l[i]? = some x := ⟨_, List.getElem?_eq_getElem (by rw [HN.out]; exact hlt)⟩
      obtain ⟨b, o, eA, hbb, hc, -⟩ := (HH.out.below (hb.mono hB)).get hx
      subst eA
      have cs : wr.cell? ⟨b, o + i * 14 + 7, none⟩ = some (.int .i64 x.a.s.start) := by rw [Nat.add_assoc]; exact hc 7 (by omega)
      have cid : Hid (∀ W, Below w.heap.size w W → ∀ (k : Nat) (y : AE), l[k]? = some y → W.cell? ⟨b, o + k * 14 + 2, none⟩ = some (.int .u64 y.a.s.id)) := Lib.hid fun W hW k y hy => by
        obtain ⟨b', o', e', -, hc', -⟩ := (HH.out.below (hW.mono hB)).get hy
        cases e'
        rw [Nat.add_assoc]
        exact hc' 2 (by omega)
      obtain ⟨sa, hsa⟩ : ∃ sa, x.a.s.start = sa := ⟨_, rfl⟩
      rw [hsa] at cs
      have HX := Lib.hid hx
      have HSA := Lib.hid hsa
      have hbs := edBadTo_succ (ads l) i
      rw [HG.out, Bool.false_or, edBadAt, ads_get hx] at hbs
      simp only [hsa] at hbs
      have HBS := Lib.hid hbs
      clear hbs hx hsa hc
      by_cases h0 : sa < 0
      · have h0' : decide (sa < 0) = true := by simp [h0]
        have hre : r = ([], 2) := by
          have h1 : edBadTo (ads l) n = true := any_le (show i + 1 ≤ n by omega) (by have := HBS.out; rw [h0', Bool.true_or] at this; exact this)
          rw [HR.out, if_pos h1]
        subst hre
        go_wp2_with fail
        go_ret2
        exact EdsPost.no hb
      · have h0' : decide (sa < 0) = false := by simp; omega
        have hbs := HBS.out
        rw [h0', Bool.false_or] at hbs
        have HBS2 := Lib.hid hbs
        clear hbs HBS
        go_wp2_with fail
        have HBO := Lib.hid hb
        obtain ⟨wO, hwO⟩ : ∃ wO, wO = wr := ⟨_, rfl⟩
        subst hwO
        go_loopw [7] (fun k_ wr2 => ∃ k : Nat, k ≤ i ∧ k_ = .int .i64 k ∧ Hid (dupTo (ads l) x.a k = false) ∧ Below w.heap.size w wr2) (fun k_ _ => i - (intOf k_).toNat)
        case atStart => exact ⟨0, by omega, rfl, Lib.hid rfl, hb⟩
        case round =>
          obtain ⟨k, hk, rfl, HD, hb2⟩ := hrel
          by_cases hki : k < i
          · have hki' : (k : Int) < (i : Int) := by omega
            have hkn : (k : Int) < (n : Int) := by omega
            obtain ⟨y, hy⟩ : ∃ y, l[k]? = some y := ⟨_, List.getElem?_eq_getElem (by rw [HN.out]; omega)⟩
            have c1 := cid.out wr hb2 k y hy
            have c2 := cid.out wr hb2 i x HX.out
            obtain ⟨yi, hyi⟩ : ∃ yi, y.a.s.id = yi := ⟨_, rfl⟩
            obtain ⟨xi, hxi⟩ : ∃ xi, x.a.s.id = xi := ⟨_, rfl⟩
            rw [hyi] at c1
            rw [hxi] at c2
            have hds := dupTo_succ (x := x.a) (ads_get hy)
            rw [HD.out, Bool.false_or, hyi, hxi] at hds
            have HDS := Lib.hid hds
            clear hds hy hyi hxi HD
            by_cases he : yi = xi
            · have he' : ((yi : Int) == (xi : Int)) = true := by simp; omega
              have hre : r = ([], 2) := by
                have h2 : dupTo (ads l) x.a i = true := any_le (show k + 1 ≤ i by omega) (by have := HDS.out; rw [decide_eq_true he] at this; exact this)
                have h1 : edBadTo (ads l) n = true := any_le (show i + 1 ≤ n by omega) (by have := HBS2.out; rw [h2] at this; exact this)
                rw [HR.out, if_pos h1]
              subst hre
              go_wp2_with fail
              go_quiet (fail)
              go_wp2_with fail
              go_ret2
              exact EdsPost.no (below_drewN hb2 _)
            · have he' : ((yi : Int) == (xi : Int)) = false := by simp; omega
              go_wp2_with fail
              go_quiet (fail)
              go_wp2_with fail
              exact ⟨⟨k + 1, by omega, by go_num, Lib.hid (by rw [HDS.out, decide_eq_false he]), below_drewN hb2 _⟩, by simp only [intOf]; omega⟩
          · have hki' : decide ((k : Int) < (i : Int)) = false := by simp; omega
            obtain rfl : k = i := by omega
            go_wp2_with fail
            exact ⟨⟨k + 1, by omega, by go_num, Lib.hid (by rw [HBS2.out]; exact HD.out), hb2⟩, by simp only [intOf]; omega⟩
    · have hlt' : decide ((i : Int) < (n : Int)) = false := by simp; omega
      obtain rfl : i = n := by omega
      have HGOOD := Lib.hid (show edBadTo (ads l) i = false from HG.out)
      have HBO := Lib.hid hb
      clear HG hlt hlt' hi hb
      go_wp2_with fail
      go_loopw [8] (fun i_ wr2 => ∃ j : Nat, j ≤ i ∧ i_ = .int .i64 j ∧ Hid (spErr ((ads l).map (·.s)) = spErr (((ads l).map (·.s)).drop j)) ∧ Below w.heap.size w wr2) (fun i_ _ => i - (intOf i_).toNat)
      case atStart => exact ⟨0, by omega, rfl, Lib.hid rfl, HBO.out⟩
      case round =>
        obtain ⟨j, hj, rfl, HS, hb⟩ := hrel
        by_cases hlt : j < i
        · have hlt' : (j : Int) < (i : Int) := by omega
          obtain ⟨x, hx⟩ : ∃ x, l[j]? = some x := ⟨_, List.getElem?_eq_getElem (by rw [HN.out]; exact hlt)⟩
          obtain ⟨b, o, eA, hbb, hc, hok⟩ := (HH.out.below (hb.mono hB)).get hx
          subst eA
          have ls := loadK_aeSpD hc
          have hgx : ((ads l).map (·.s))[j]? = some x.a.s := by simp [ads_get hx]
          have hds := spErr_dropD hgx
          rw [← HS.out] at hds
          have cc := rSpCheck (c := x.c) x.a.s wr hok.rd hok.len (Nat.le_trans hB hb.size) hok.max
          obtain ⟨ck, hck⟩ : ∃ ck, spChk x.a.s = ck := ⟨_, rfl⟩
          rw [hck] at cc hds
          have HDS := Lib.hid hds
          clear hds hck hx hgx hok hc HS
          go_wp2_with fail
          refine cc.mono ?_
          rintro en w3 ⟨rfl, hb3⟩
          have hb4 := hb.trans (hb3.mono hb.size)
          by_cases h0 : ck = 0
          · subst h0
            go_wp2_with fail
            exact ⟨⟨j + 1, by omega, by go_num, Lib.hid (by rw [HDS.out]; simp), hb4⟩, by simp only [intOf]; omega⟩
          · have h0' : ((ck : Int) != 0) = true := by simp; omega
            have hre : r = ([], ck) := by rw [HR.out, HGOOD.out, if_neg (by simp), HDS.out, if_pos h0, if_pos h0]
            subst hre
            go_wp2_with fail
            go_ret2
            exact EdsPost.no hb4
        · have hlt' : decide ((j : Int) < (i : Int)) = false := by simp; omega
          have hz0 : spErr ((ads l).map (·.s)) = 0 := by rw [HS.out, List.drop_eq_nil_of_le (by rw [List.length_map, ads_len, HN.out]; omega)]; rfl
          have hre : r = ((List.range i).foldl (edRow size (ads l)) [], 0) := by rw [HR.out, HGOOD.out, if_neg (by simp), hz0, if_neg (by simp)]
          have HRE := Lib.hid hre
          clear hre hz0 HS HR HGOOD HBO
          go_wp2_with fail
          clear hlt hlt' hj
          go_loopw [10, 11] (fun out_ i_ wr3 => ∃ (q m c' : Nat) (A' : Option Addr) (out : List Ed), q ≤ i ∧ out_ = .slice A' m c' ∧ i_ = .int .i64 q ∧ m ≤ q * 200 ∧ Hid (out = (List.range q).foldl (edRow size (ads l)) [] ∧ out.length = m ∧ EdFew out) ∧ wr3.ownsRow w.heap.size 47 4 (.slice A' m c') m (eds out) ∧ Below w.heap.size w wr3) (fun _ i_ _ => i - (intOf i_).toNat)
          case atStart => exact ⟨0, 0, 0, none, [], by omega, rfl, rfl, by omega, Lib.hid ⟨rfl, rfl, fun y hy => by cases hy⟩, World.ownsRow_nil _ _ _ _, hb⟩
          case round =>
            obtain ⟨q, m, c', A', out, hq, rfl, rfl, hm, HO, hown, hbq⟩ := hrel
            by_cases hqi : q < i
            · have hqi' : (q : Int) < (i : Int) := by omega
              obtain ⟨x, hx⟩ : ∃ x, l[q]? = some x := ⟨_, List.getElem?_eq_getElem (by rw [HN.out]; exact hqi)⟩
              have HX := Lib.hid hx
              obtain ⟨b, o, eA, -, -, -⟩ := HH.out.get hx
              subst eA
              have HC : Hid (∀ W, Below w.heap.size w W → ∀ (k : Nat) (y : AE), l[k]? = some y → W.cell? ⟨b, o + k * 14 + 2, none⟩ = some (.int .u64 y.a.s.id) ∧ W.cell? ⟨b, o + k * 14 + 4, none⟩ = some (.string y.a.s.service) ∧ W.cell? ⟨b, o + k * 14 + 7, none⟩ = some (.int .i64 y.a.s.start) ∧ W.cell? ⟨b, o + k * 14 + 11, none⟩ = some (.int .u64 y.a.up)) := Lib.hid fun W hW k y hy => by
                obtain ⟨b', o', e', -, hc', -⟩ := (HH.out.below (hW.mono hB)).get hy
                cases e'
                rw [Nat.add_assoc, Nat.add_assoc, Nat.add_assoc, Nat.add_assoc]
                exact ⟨hc' 2 (by omega), hc' 4 (by omega), hc' 7 (by omega), hc' 11 (by omega)⟩
              clear hx
              go_wp2_with fail
              have HOWN := Lib.hid hown
              obtain ⟨wO, hwO⟩ : ∃ wO, wO = wr := ⟨_, rfl⟩
              subst hwO
              go_loopw [10, 12] (fun out_ k_ wr4 => ∃ (k m2 c2 : Nat) (A2 : Option Addr) (out2 : List Ed), k ≤ i ∧ out_ = .slice A2 m2 c2 ∧ k_ = .int .i64 k ∧ m2 ≤ q * 200 + k ∧ Hid (out2 = (List.range k).foldl (edAt size (ads l) x.a) out ∧ out2.length = m2 ∧ EdFew out2) ∧ wr4.ownsRow w.heap.size 47 4 (.slice A2 m2 c2) m2 (eds out2) ∧ Below w.heap.size w wr4) (fun _ k_ _ => i - (intOf k_).toNat)
              case atStart => exact ⟨0, m, c', A', out, by omega, rfl, rfl, by omega, Lib.hid ⟨rfl, HO.out.2.1, HO.out.2.2⟩, HOWN.out, hbq⟩
              case round =>
                obtain ⟨k, m2, c2, A2, out2, hk, rfl, rfl, hm2, HO2, hown2, hbk⟩ := hrel
                by_cases hki : k < i
                · have hki' : (k : Int) < (i : Int) := by omega
                  obtain ⟨y, hy⟩ : ∃ y, l[k]? = some y := ⟨_, List.getElem?_eq_getElem (by rw [HN.out]; exact hki)⟩
                  obtain ⟨-, cxs, cxt, cxu⟩ := HC.out wr hbk q x HX.out
                  obtain ⟨cyi, cys, -, -⟩ := HC.out wr hbk k y hy
                  have hstp : ∀ o2, o2 = edStep size x.a y.a out2 → o2 = (List.range (k + 1)).foldl (edAt size (ads l) x.a) out := fun o2 ho => by
                    rw [List.range_succ, List.foldl_append, ← HO2.out.1]
                    show o2 = edAt size (ads l) x.a out2 k
                    rw [edAt, ads_get hy]
                    exact ho
                  have HSTP := Lib.hid hstp
                  have HY := Lib.hid hy
                  have HOWN2 := Lib.hid hown2
                  clear hstp hy hown2
                  obtain ⟨up, hup⟩ : ∃ up, x.a.up = up := ⟨_, rfl⟩
                  obtain ⟨yi, hyi⟩ : ∃ yi, y.a.s.id = yi := ⟨_, rfl⟩
                  obtain ⟨xs, hxs⟩ : ∃ xs, x.a.s.service = xs := ⟨_, rfl⟩
                  obtain ⟨ys, hys⟩ : ∃ ys, y.a.s.service = ys := ⟨_, rfl⟩
                  rw [hup] at cxu
                  rw [hyi] at cyi
                  rw [hxs] at cxs
                  rw [hys] at cys
                  have hes : ∀ o2, o2 = (if up ≠ 0 ∧ yi = up ∧ ys ≠ xs then (addE ⟨(bktOf x.a.s.start size).1, ys, xs, 1⟩ out2).1 else out2) → o2 = (List.range (k + 1)).foldl (edAt size (ads l) x.a) out := fun o2 ho => HSTP.out o2 (by rw [edStep, hup, hyi, hxs, hys]; exact ho)
                  have HES := Lib.hid hes
                  have HXS := Lib.hid hxs
                  have HYS := Lib.hid hys
                  clear hes HSTP hup hyi hxs hys
                  by_cases h1 : up = 0
                  · have h1' : ((up : Int) != 0) = false := by simp; omega
                    go_wp2_with fail
                    go_quiet (fail)
                    go_wp2_with fail
                    have hbz := below_drewN (Below.refl wr.heap.size wr) nq
                    exact ⟨⟨k + 1, m2, c2, A2, out2, by omega, rfl, by go_num, by omega, Lib.hid ⟨HES.out _ (by rw [if_neg (fun h => h.1 h1)]), HO2.out.2.1, HO2.out.2.2⟩, ((App.refl HOWN2.out).later hbz).own, hbk.trans (hbz.mono hbk.size)⟩, by simp only [intOf]; omega⟩
                  have h1' : ((up : Int) != 0) = true := by simp; omega
                  by_cases h2 : yi = up
                  · have h2' : ((yi : Int) == (up : Int)) = true := by simp; omega
                    by_cases h3 : ys = xs
                    · subst h3
                      go_wp2_with fail
                      go_quiet (fail)
                      go_wp2_with fail
                      have hbz := below_drewN (Below.refl wr.heap.size wr) nq
                      exact ⟨⟨k + 1, m2, c2, A2, out2, by omega, rfl, by go_num, by omega, Lib.hid ⟨HES.out _ (by rw [if_neg (fun h => h.2.2 rfl)]), HO2.out.2.1, HO2.out.2.2⟩, ((App.refl HOWN2.out).later hbz).own, hbk.trans (hbz.mono hbk.size)⟩, by simp only [intOf]; omega⟩
                    · have h3' : (ys.toList == xs.toList) = false := by rw [strEq_of', decide_eq_false h3]
                      have h3'' : (ys.toList != xs.toList) = true := by rw [bne, h3']; rfl
                      go_wp2_with fail
                      go_quiet (fail)
                      have hbz := below_drewN (Below.refl wr.heap.size wr) nq
                      have hb0 := hbk.trans (hbz.mono hbk.size)
                      obtain ⟨W0, hW0⟩ : ∃ W0, wr.drewN nq = W0 := ⟨_, rfl⟩
                      rw [hW0] at hbz hb0 ⊢
                      clear hW0 cxs cxt cxu cyi cys
                      have cxt := (HC.out W0 hb0 q x HX.out).2.2.1
                      have hstx := HST.out x (List.mem_of_getElem? HX.out)
                      have cb := rDeBucket x.a.s.start size W0 hstx.2 hstx.1 hs0 hs1
                      obtain ⟨bn, hbn⟩ : ∃ bn, (bktOf x.a.s.start size).1 = bn := ⟨_, rfl⟩
                      have hes2 := fun o2 ho => HES.out o2 ho
                      rw [hbn] at cb hes2
                      have HES2 := Lib.hid (hes2 _ rfl)
                      have own0 := ((App.refl HOWN2.out).later hbz).own
                      have hb01 := below_drewN (Below.refl W0.heap.size W0) 1
                      have own1 := ((App.refl own0).later hb01).own
                      have hfew := HO2.out.2.2
                      have cadd := rDeAdd (base := w.heap.size) out2 ⟨bn, ys, xs, 1⟩ W0.drew own1 HO2.out.2.1 (by omega) (by have := hb0.size; exact this) (by show (1 : Nat) < _; omega) (fun z hz => by have := hfew z hz; omega)
                      have haf := addE_few (x := ⟨bn, ys, xs, 1⟩) (by show (1 : Nat) ≤ _; omega) hfew
                      obtain ⟨R2, hR2⟩ : ∃ R2, addE ⟨bn, ys, xs, 1⟩ out2 = R2 := ⟨_, rfl⟩
                      rw [hR2] at cadd haf HES2
                      rw [if_pos ⟨h1, h2, h3⟩] at HES2
                      have HADD := Lib.hid cadd
                      have HAF := Lib.hid haf
                      have HOL := Lib.hid HO2.out.2.1
                      have hcd := HC.out W0.drew (hb0.trans (hb01.mono hb0.size))
                      have cxs : W0.drew.cell? ⟨b, o + q * 14 + 4, none⟩ = some (.string xs) := by rw [(hcd q x HX.out).2.1, HXS.out]
                      have cys : W0.drew.cell? ⟨b, o + k * 14 + 4, none⟩ = some (.string ys) := by rw [(hcd k y HY.out).2.1, HYS.out]
                      clear cadd haf hR2 hbn hes2 hcd hfew own0 own1
                      go_wp2_with fail
                      refine cb.mono ?_
                      rintro en w5 ⟨rfl, hw5⟩
                      rw [hw5]
                      clear hw5 cxt cb
                      go_wp2_with fail
                      go_region_held3 (fun w' => w'.cell? ⟨b, o + q * 14 + 4, none⟩ = some (.string xs) ∧ w'.cell? ⟨b, o + k * 14 + 4, none⟩ = some (.string ys))
                        (first | exact ⟨cxs, cys⟩ | exact ⟨cxs6, cys6⟩)
                        (first
                          | (go_at_call 38
                             refine HADD.out.mono ?_
                             rintro en w6 ⟨A6, c6, n6, rfl, hn6, own6, hb6⟩
                             have hb06 := (hb0.trans (hb01.mono hb0.size)).trans hb6
                             have hcd6 := HC.out w6 hb06
                             have cxs6 : w6.cell? ⟨b, o + q * 14 + 4, none⟩ = some (.string xs) := by rw [(hcd6 q x HX.out).2.1, HXS.out]
                             have cys6 : w6.cell? ⟨b, o + k * 14 + 4, none⟩ = some (.string ys) := by rw [(hcd6 k y HY.out).2.1, HYS.out])
                          | fail)
                      go_wp2_with fail
                      exact ⟨⟨k + 1, n6, c6, A6, R2.1, by omega, rfl, by go_num, by have h1 := HAF.out.2; have h2 := HOL.out; omega, Lib.hid ⟨HES2.out, hn6, HAF.out.1⟩, own6, hb06⟩, by simp only [intOf]; omega⟩
                  · have h2' : ((yi : Int) == (up : Int)) = false := by simp; omega
                    go_wp2_with fail
                    go_quiet (fail)
                    go_wp2_with fail
                    have hbz := below_drewN (Below.refl wr.heap.size wr) nq
                    exact ⟨⟨k + 1, m2, c2, A2, out2, by omega, rfl, by go_num, by omega, Lib.hid ⟨HES.out _ (by rw [if_neg (fun h => h2 h.2.1)]), HO2.out.2.1, HO2.out.2.2⟩, ((App.refl HOWN2.out).later hbz).own, hbk.trans (hbz.mono hbk.size)⟩, by simp only [intOf]; omega⟩
                · have hki' : decide ((k : Int) < (i : Int)) = false := by simp; omega
                  obtain rfl : k = i := by omega
                  go_wp2_with fail
                  exact ⟨⟨q + 1, m2, c2, A2, out2, by omega, rfl, by go_num, by omega, Lib.hid ⟨by rw [List.range_succ, List.foldl_append, ← HO.out.1]; show out2 = edRow size (ads l) out q; rw [edRow, ads_get HX.out, ads_len, HN.out]; exact HO2.out.1, HO2.out.2.1, HO2.out.2.2⟩, hown2, hbk⟩, by simp only [intOf]; omega⟩
            · have hqi' : decide ((q : Int) < (i : Int)) = false := by simp; omega
              obtain rfl : q = i := by omega
              go_wp2_with fail
              go_ret2
              have hre := HRE.out
              rw [← HO.out.1] at hre
              subst hre
              exact ⟨A', c', by show _ = Ending.returned (.tuple #[.slice A' out.length c', .int .i64 0]); rw [HO.out.2.1]; rfl, by show wr.ownsRow _ _ _ (.slice A' out.length c') out.length _; rw [HO.out.2.1]; exact hown, hbq⟩
end Go.Proofs.Ythaiplhjekkooaa

/- deps: add. -/
namespace Go.Proofs.Ythaiplhjekkooaa
open Go.RowKit Go.MapKept
theorem loadEk_shutG (a : Addr) : loadVar 71 a = loadK 71 a := rfl
attribute [local go_sem ↓] loadEk_shutG
set_option maxRecDepth 100000 in
theorem loadK_ekB {w : World} {g : Nat} {e : Ek} (h : Bk w g 71 (ekA e)) : (loadK 71 ⟨g, 0, none⟩).run Try.prog w = .ok (ekV e) w :=
  run_loadVar_row w g _ _ (ekA e) (0, 0) _ h Try.underlying71 rfl (by rfl)
abbrev uvV (n : Nat) : Value := .int .u64 n
/-- A number more. -/
def addK (k : Ek) (n : Nat) (L : List (Ek × Nat)) : List (Ek × Nat) := mgPut k (min ((mgGet k L).getD 0) 4611686018427387905 + min n 4611686018427387905) L
theorem min_int (a b : Nat) : (if (b : Int) < (a : Int) then (b : Int) else (a : Int)) = ((min a b : Nat) : Int) := by
  split <;> omega
theorem min_intK (a : Nat) : (if (4611686018427387905 : Int) < (a : Int) then (4611686018427387905 : Int) else (a : Int)) = ((min a 4611686018427387905 : Nat) : Int) := by
  split <;> omega
set_option maxRecDepth 100000 in
set_option maxHeartbeats 2000000 in
theorem deAdd {b : Nat} {L : List (Ek × Nat)} (k : Ek) (n : Nat) (w : World) (h : Mg ekV uvV w b L) :
    Calls Try.prog 35 #[.map (some b), ekV k, .int .u64 n] w fun e w' => e = .returned (.tuple #[]) ∧ Mg ekV uvV w' b (addK k n L) ∧ w.grownBy w' (some b) ∧ w.heap.size ≤ w'.heap.size := by
  have hg0 := World.grownBy_alloc w (.cells (ekA k) 71) (some b)
  have hs0 : w.heap.size ≤ (w.alloc (.cells (ekA k) 71)).heap.size := by simp
  have m1 := h.alloc (.cells (ekA k) 71)
  have bk1 := Bk.new w 71 (ekA k)
  obtain ⟨w1, hw1⟩ : ∃ w1, w.alloc (.cells (ekA k) 71) = w1 := ⟨_, rfl⟩
  obtain ⟨g, hg⟩ : ∃ g, w.heap.size = g := ⟨_, rfl⟩
  rw [hw1] at hg0 hs0 m1 bk1
  rw [hg] at bk1
  have hld := loadK_ekB (w := w1.drew) bk1
  have hlk := run_mgLook (z := .int .u64 0) (e := 29) ekRun Try.underlying67 (by simp [Try.zeroValue29]) m1.drew k false
  have hgv : ((mgGet k L).map uvV).getD (.int .u64 0) = .int .u64 ((mgGet k L).getD 0 : Nat) := by
    cases mgGet k L <;> rfl
  simp only [Bool.false_eq_true, if_false, hgv] at hlk
  obtain ⟨R, hR⟩ : ∃ R, addK k n L = R := ⟨_, rfl⟩
  rw [hR]
  rw [addK] at hR
  obtain ⟨old, hold⟩ : ∃ old, (mgGet k L).getD 0 = old := ⟨_, rfl⟩
  rw [hold] at hlk hR
  have e1 := min_intK old
  have e2 := min_intK n
  have e3 : min (old : Int) 4611686018427387905 = ((min old 4611686018427387905 : Nat) : Int) := by omega
  have e4 : min (n : Int) 4611686018427387905 = ((min n 4611686018427387905 : Nat) : Int) := by omega
  obtain ⟨p, hp⟩ : ∃ p, min old 4611686018427387905 = p := ⟨_, rfl⟩
  obtain ⟨q, hq⟩ : ∃ q, min n 4611686018427387905 = q := ⟨_, rfl⟩
  rw [hp] at e1 e3 hR
  rw [hq] at e2 e4 hR
  have hwr : IntKind.u64.wrap ((p : Int) + (q : Int)) = ((p + q : Nat) : Int) := by
    rw [show (p : Int) + (q : Int) = ((p + q : Nat) : Int) from by omega]
    exact IntWalk.u64_in _ ⟨by omega, by omega⟩
  have HW := Lib.hid hw1
  have HG := Lib.hid hg
  have HR := Lib.hid hR
  have HM := Lib.hid m1
  have HG0 := Lib.hid hg0
  have HS0 := Lib.hid hs0
  clear hw1 hg hR m1 hp hq hold hg0 hs0 h hgv bk1
  go_enter Try.func35, Try.ntmps35
  go_wp2_with fail
  rw [HW.out, HG.out]
  go_still_tail 9, (by kernel_rfl)
  change wpList _ _ _ _ _ w1.drew
  go_wp2_with (first
    | (refine wpList_mgPut _ rfl (.tmp 6) (.tmp 7) (.tmp 14) 67 rfl ekRun Try.underlying67 b L rfl HM.out.drew k (p + q) rfl rfl ?_
       rintro w3 hm3 hg3 hs3)
    | fail)
  go_end0
  refine ⟨rfl, by rw [← HR.out]; exact hm3, ?_, ?_⟩
  · exact HG0.out.trans ⟨hg3.os, hg3.tape, hg3.output, hg3.size, hg3.block⟩
  · have := HS0.out
    rw [hs3]
    exact this
end Go.Proofs.Ythaiplhjekkooaa

/- Edges, plain: the document's add and a map say the same. -/
namespace Go.Proofs.Ythaiplhjekkooaa
open Go.RowKit

def mkEd (p : Ek × Nat) : Ed := ⟨p.1.b, p.1.f, p.1.t, p.2⟩
theorem edK_mk (p : Ek × Nat) : edK (mkEd p) = p.1 := rfl
theorem mk_inj {p q : Ek × Nat} (h : mkEd p = mkEd q) : p = q := by
  obtain ⟨⟨b, f, t⟩, n⟩ := p
  obtain ⟨⟨b', f', t'⟩, n'⟩ := q
  simp [mkEd] at h
  obtain ⟨h1, h2, h3, h4⟩ := h
  subst h1 h2 h3 h4
  rfl
theorem mk_un (e : Ed) : mkEd (edK e, e.n) = e := rfl
def StrEd (l : List Ed) : Prop := l.Pairwise fun a b => edLt a b = true
theorem edLt_key {a b c d : Ed} (h1 : edK a = edK c) (h2 : edK b = edK d) : edLt a b = edLt c d := by
  rw [Bool.eq_iff_iff, edLt_cmp, edLt_cmp, h1, h2]
theorem edLt_irr (a : Ed) : edLt a a = false := by
  rw [Bool.eq_false_iff]
  intro h
  rw [edLt_cmp, (ekCmp_cmp.eq _ _).2 rfl] at h
  cases h
theorem edLt_tr {a b c : Ed} (h1 : edLt a b = true) (h2 : edLt b c = true) : edLt a c = true := by
  rw [edLt_cmp] at *
  exact ekCmp_cmp.tr _ _ _ h1 h2
theorem edLt_ne {a b : Ed} (h : edLt a b = true) : edK a ≠ edK b := fun e => by
  rw [edLt_cmp, (ekCmp_cmp.eq _ _).2 e] at h
  cases h
theorem edLt_tri {a b : Ed} (h1 : edLt a b = false) (h2 : edLt b a = false) : edK a = edK b := by
  rw [Bool.eq_false_iff] at h1 h2
  have n1 : ekCmp (edK a) (edK b) ≠ -1 := fun h => h1 ((edLt_cmp _ _).2 h)
  have n2 : ekCmp (edK b) (edK a) ≠ -1 := fun h => h2 ((edLt_cmp _ _).2 h)
  have r := ekCmp_cmp.rng (edK a) (edK b)
  have n := ekCmp_cmp.neg (edK a) (edK b)
  exact (ekCmp_cmp.eq _ _).1 (by omega)
/-- The number at a key. -/
def edNum (l : List Ed) (k : Ek) : Nat := ((l.find? fun e => decide (edK e = k)).map (·.n)).getD 0
theorem edNum_cons (a : Ed) (l : List Ed) (k : Ek) : edNum (a :: l) k = if edK a = k then a.n else edNum l k := by
  unfold edNum
  rw [List.find?_cons]
  by_cases h : edK a = k
  · rw [decide_eq_true h, if_pos h]; rfl
  · rw [decide_eq_false h, if_neg h]
theorem edNum_none {l : List Ed} {k : Ek} (h : ∀ e ∈ l, edK e ≠ k) : edNum l k = 0 := by
  induction l with
  | nil => rfl
  | cons a l ih =>
    rw [edNum_cons, if_neg (h a (List.mem_cons_self ..))]
    exact ih fun e he => h e (List.mem_cons_of_mem _ he)
theorem edNum_mem {l : List Ed} {e : Ed} (hs : StrEd l) (h : e ∈ l) : edNum l (edK e) = e.n := by
  induction l with
  | nil => cases h
  | cons a l ih =>
    obtain ⟨h1, h2⟩ := List.pairwise_cons.1 hs
    rw [edNum_cons]
    rcases List.mem_cons.1 h with rfl | h
    · rw [if_pos rfl]
    · rw [if_neg (edLt_ne (h1 e h))]
      exact ih h2 h
theorem addE_cons (x a : Ed) (l : List Ed) : addE x (a :: l) = if edLt a x = true then (a :: (addE x l).1, (addE x l).2) else
    if edLt x a = true then (x :: a :: l, decide (x.n ≤ 4611686018427387904)) else if 4611686018427387904 < x.n ∨ 4611686018427387904 - x.n < a.n then (a :: l, false) else (⟨a.b, a.f, a.t, a.n + x.n⟩ :: l, true) := by
  by_cases h : edLt a x = true
  · rw [if_pos h]
    unfold addE
    rw [addPos, if_pos h]
    simp only [List.getElem?_cons_succ, List.take_succ_cons, List.drop_succ_cons, List.set_cons_succ]
    cases l[addPos x l]? with
    | none => rfl
    | some y =>
      simp only []
      by_cases h1 : edLt x y = true
      · rw [if_pos h1, if_pos h1]; rfl
      · rw [if_neg h1, if_neg h1]
        by_cases h2 : 4611686018427387904 < x.n ∨ 4611686018427387904 - x.n < y.n
        · rw [if_pos h2, if_pos h2]
        · rw [if_neg h2, if_neg h2]
  · rw [if_neg h]
    unfold addE
    rw [addPos, if_neg h]
    rfl
theorem addE_flag {x : Ed} : ∀ {l : List Ed}, StrEd l → (addE x l).2 = decide (edNum l (edK x) + x.n ≤ 4611686018427387904)
  | [], _ => by
    show decide (x.n ≤ _) = decide (0 + x.n ≤ _)
    rw [Nat.zero_add]
  | a :: l, hs => by
    obtain ⟨h1, h2⟩ := List.pairwise_cons.1 hs
    rw [addE_cons]
    by_cases h : edLt a x = true
    · rw [if_pos h, edNum_cons, if_neg (edLt_ne h)]
      exact addE_flag h2
    · rw [if_neg h]
      by_cases h3 : edLt x a = true
      · rw [if_pos h3, edNum_none (k := edK x) (fun e he => by
          rcases List.mem_cons.1 he with rfl | he
          · exact (edLt_ne h3).symm
          · exact (edLt_ne (edLt_tr h3 (h1 e he))).symm), Nat.zero_add]
      · rw [if_neg h3, edNum_cons, if_pos (edLt_tri (Bool.eq_false_iff.2 h) (Bool.eq_false_iff.2 h3))]
        by_cases h4 : 4611686018427387904 < x.n ∨ 4611686018427387904 - x.n < a.n
        · rw [if_pos h4]
          exact (decide_eq_false (by omega)).symm
        · rw [if_neg h4]
          exact (decide_eq_true (by omega)).symm
theorem addE_mem {x : Ed} : ∀ {l : List Ed}, StrEd l → edNum l (edK x) + x.n ≤ 4611686018427387904 → ∀ e, e ∈ (addE x l).1 ↔ (e ∈ l ∧ edK e ≠ edK x) ∨ e = mkEd (edK x, edNum l (edK x) + x.n)
  | [], _, _, e => by
    show e ∈ [x] ↔ _
    rw [List.mem_singleton]
    have : mkEd (edK x, edNum [] (edK x) + x.n) = x := by
      show mkEd (edK x, 0 + x.n) = x
      rw [Nat.zero_add]
      rfl
    rw [this]
    simp
  | a :: l, hs, ho, e => by
    obtain ⟨h1, h2⟩ := List.pairwise_cons.1 hs
    rw [addE_cons]
    rw [edNum_cons] at ho ⊢
    by_cases h : edLt a x = true
    · rw [if_pos h]
      rw [if_neg (edLt_ne h)] at ho ⊢
      have ih := addE_mem h2 ho e
      simp only [List.mem_cons, ih]
      constructor
      · rintro (rfl | ⟨h3, h4⟩ | h3)
        · exact .inl ⟨.inl rfl, edLt_ne h⟩
        · exact .inl ⟨.inr h3, h4⟩
        · exact .inr h3
      · rintro (⟨rfl | h3, h4⟩ | h3)
        · exact .inl rfl
        · exact .inr (.inl ⟨h3, h4⟩)
        · exact .inr (.inr h3)
    · rw [if_neg h]
      by_cases h3 : edLt x a = true
      · have hno : ∀ e ∈ a :: l, edK e ≠ edK x := fun e he => by
          rcases List.mem_cons.1 he with rfl | he
          · exact (edLt_ne h3).symm
          · exact (edLt_ne (edLt_tr h3 (h1 e he))).symm
        have h0 := edNum_none hno
        rw [edNum_cons] at h0
        rw [if_pos h3, h0, Nat.zero_add, mk_un, List.mem_cons]
        constructor
        · rintro (rfl | h4)
          · exact .inr rfl
          · exact .inl ⟨h4, hno e h4⟩
        · rintro (⟨h4, _⟩ | h4)
          · exact .inr h4
          · exact .inl h4
      · have hk := edLt_tri (Bool.eq_false_iff.2 h) (Bool.eq_false_iff.2 h3)
        rw [if_pos hk] at ho ⊢
        rw [if_neg h3, if_neg (by omega)]
        have hm : (⟨a.b, a.f, a.t, a.n + x.n⟩ : Ed) = mkEd (edK x, a.n + x.n) := by rw [← hk]; rfl
        rw [hm, List.mem_cons, List.mem_cons]
        constructor
        · rintro (h4 | h4)
          · exact .inr h4
          · exact .inl ⟨.inr h4, fun e1 => edLt_ne (h1 e h4) (hk.trans e1.symm)⟩
        · rintro (⟨rfl | h4, h5⟩ | h4)
          · exact absurd hk h5
          · exact .inr h4
          · exact .inl h4
theorem addE_str {x : Ed} : ∀ {l : List Ed}, StrEd l → edNum l (edK x) + x.n ≤ 4611686018427387904 → StrEd (addE x l).1
  | [], _, _ => List.pairwise_singleton _ _
  | a :: l, hs, ho => by
    obtain ⟨h1, h2⟩ := List.pairwise_cons.1 hs
    rw [addE_cons]
    rw [edNum_cons] at ho
    by_cases h : edLt a x = true
    · rw [if_pos h]
      rw [if_neg (edLt_ne h)] at ho
      refine List.pairwise_cons.2 ⟨fun e he => ?_, addE_str h2 ho⟩
      rcases (addE_mem h2 ho e).1 he with ⟨h3, _⟩ | h3
      · exact h1 e h3
      · rw [← h]
        exact edLt_key rfl (by rw [h3]; rfl)
    · rw [if_neg h]
      by_cases h3 : edLt x a = true
      · rw [if_pos h3]
        refine List.pairwise_cons.2 ⟨fun e he => ?_, hs⟩
        rcases List.mem_cons.1 he with rfl | he
        · exact h3
        · exact edLt_tr h3 (h1 e he)
      · have hk := edLt_tri (Bool.eq_false_iff.2 h) (Bool.eq_false_iff.2 h3)
        rw [if_pos hk] at ho
        rw [if_neg h3, if_neg (by omega)]
        exact List.pairwise_cons.2 ⟨fun e he => (edLt_key rfl rfl).trans (h1 e he), h2⟩
/-! ### a map and a list say the same -/
theorem mgPut_mem {κ ν : Type} [DecidableEq κ] {k : κ} {v : ν} : ∀ {L : List (κ × ν)}, (L.map (·.1)).Nodup → ∀ p, p ∈ mgPut k v L ↔ (p ∈ L ∧ p.1 ≠ k) ∨ p = (k, v)
  | [], _, p => by simp [mgPut]
  | q :: l, hn, p => by
    obtain ⟨h1, h2⟩ := List.nodup_cons.1 hn
    rw [mgPut]
    by_cases h : q.1 = k
    · rw [if_pos h, List.mem_cons, List.mem_cons]
      constructor
      · rintro (h3 | h3)
        · exact .inr h3
        · exact .inl ⟨.inr h3, fun e => h1 (List.mem_map.2 ⟨p, h3, e.trans h.symm⟩)⟩
      · rintro (⟨rfl | h3, h4⟩ | h3)
        · exact absurd h h4
        · exact .inr h3
        · exact .inl h3
    · rw [if_neg h, List.mem_cons, List.mem_cons, mgPut_mem h2 p]
      constructor
      · rintro (rfl | ⟨h3, h4⟩ | h3)
        · exact .inl ⟨.inl rfl, h⟩
        · exact .inl ⟨.inr h3, h4⟩
        · exact .inr h3
      · rintro (⟨rfl | h3, h4⟩ | h3)
        · exact .inl rfl
        · exact .inr (.inl ⟨h3, h4⟩)
        · exact .inr (.inr h3)
structure Same (M : List (Ek × Nat)) (out : List Ed) : Prop where
  nd : (M.map (·.1)).Nodup
  st : StrEd out
  mem : ∀ p, p ∈ M ↔ mkEd p ∈ out
theorem Same.nil : Same [] [] := ⟨List.nodup_nil, List.Pairwise.nil, fun p => by simp⟩
theorem Same.num {M : List (Ek × Nat)} {out : List Ed} (h : Same M out) (k : Ek) : (mgGet k M).getD 0 = edNum out k := by
  cases hg : mgGet k M with
  | some v =>
    have h1 := (h.mem _).1 (mgGet_mem hg)
    have h2 := edNum_mem h.st h1
    exact h2.symm
  | none =>
    symm
    refine edNum_none fun e he hk => ?_
    have h1 := (h.mem (edK e, e.n)).2 he
    rw [hk] at h1
    rw [mgGet_some h.nd h1] at hg
    cases hg
theorem Same.step {M : List (Ek × Nat)} {out : List Ed} {x : Ed} (h : Same M out) (ho : edNum out (edK x) + x.n ≤ 4611686018427387904) : Same (addK (edK x) x.n M) (addE x out).1 := by
  refine ⟨mgPut_nodup h.nd, addE_str h.st ho, fun p => ?_⟩
  rw [addK, mgPut_mem h.nd, addE_mem h.st ho, h.num, h.mem, Nat.min_eq_left (by omega), Nat.min_eq_left (by omega)]
  refine or_congr Iff.rfl ⟨fun e => by rw [e], fun e => mk_inj e⟩
def BadM (M : List (Ek × Nat)) : Prop := ∃ p ∈ M, 4611686018427387904 < p.2
theorem BadM.step {M : List (Ek × Nat)} {k : Ek} {n : Nat} (hn : (M.map (·.1)).Nodup) (h : BadM M) : BadM (addK k n M) := by
  obtain ⟨p, hp, hlt⟩ := h
  by_cases hk : p.1 = k
  · refine ⟨(k, min ((mgGet k M).getD 0) 4611686018427387905 + min n 4611686018427387905), (mgPut_mem hn _).2 (.inr rfl), ?_⟩
    rw [mgGet_some hn (show (k, p.2) ∈ M by rw [← hk]; exact hp)]
    show _ < min p.2 _ + _
    omega
  · exact ⟨p, (mgPut_mem hn _).2 (.inl ⟨hp, hk⟩), hlt⟩
theorem Same.bad {M : List (Ek × Nat)} {out : List Ed} {x : Ed} (h : Same M out) (ho : ¬ edNum out (edK x) + x.n ≤ 4611686018427387904) : BadM (addK (edK x) x.n M) := by
  refine ⟨(edK x, _), (mgPut_mem h.nd _).2 (.inr rfl), ?_⟩
  rw [h.num]
  show _ < min _ _ + min _ _
  omega
/-- All of them added, in turn. -/
def addAll : List Ed → List Ed → Option (List Ed)
  | [], out => some out
  | x :: xs, out => if (addE x out).2 = true then addAll xs (addE x out).1 else none
def mgAll (xs : List Ed) (M : List (Ek × Nat)) : List (Ek × Nat) := xs.foldl (fun M x => addK (edK x) x.n M) M
theorem mgAll_bad {xs : List Ed} : ∀ {M : List (Ek × Nat)}, (M.map (·.1)).Nodup → BadM M → BadM (mgAll xs M) := by
  induction xs with
  | nil => intro M _ h; exact h
  | cons x xs ih => intro M hn h; exact ih (mgPut_nodup hn) (h.step hn)
theorem mgAll_nodup {xs : List Ed} : ∀ {M : List (Ek × Nat)}, (M.map (·.1)).Nodup → ((mgAll xs M).map (·.1)).Nodup := by
  induction xs with
  | nil => intro M h; exact h
  | cons x xs ih => intro M hn; exact ih (mgPut_nodup hn)
theorem mgAll_snoc (xs : List Ed) (x : Ed) (M : List (Ek × Nat)) : mgAll (xs ++ [x]) M = addK (edK x) x.n (mgAll xs M) := by simp [mgAll]
theorem mgAll_len (xs : List Ed) : ∀ (M : List (Ek × Nat)), (mgAll xs M).length ≤ M.length + xs.length := by
  induction xs with
  | nil => intro M; exact Nat.le_refl _
  | cons x xs ih =>
    intro M
    have h1 := ih (addK (edK x) x.n M)
    have h2 := mgPut_len_le (k := edK x) (v := min ((mgGet (edK x) M).getD 0) 4611686018427387905 + min x.n 4611686018427387905) M
    have h3 : (addK (edK x) x.n M).length ≤ M.length + 1 := h2
    show (mgAll xs (addK (edK x) x.n M)).length ≤ _
    simp only [List.length_cons]
    omega
/-- What is in a list that all were added to. -/
def AllSaid (r : Option (List Ed)) (M : List (Ek × Nat)) : Prop :=
  match r with
  | some o => Same M o ∧ ∀ e ∈ o, e.n ≤ 4611686018427387904
  | none => BadM M
theorem addAll_same {xs : List Ed} : ∀ {M : List (Ek × Nat)} {out : List Ed}, Same M out → (∀ e ∈ out, e.n ≤ 4611686018427387904) → AllSaid (addAll xs out) (mgAll xs M) := by
  induction xs with
  | nil => intro M out h hf; exact ⟨h, hf⟩
  | cons x xs ih =>
    intro M out h hf
    rw [addAll, addE_flag h.st]
    by_cases ho : edNum out (edK x) + x.n ≤ 4611686018427387904
    · rw [if_pos (decide_eq_true ho)]
      refine ih (h.step ho) fun e he => ?_
      rcases (addE_mem h.st ho e).1 he with ⟨h1, _⟩ | h1
      · exact hf e h1
      · rw [h1]; exact ho
    · rw [if_neg (by simp; omega)]
      show BadM (mgAll xs (addK (edK x) x.n M))
      exact mgAll_bad (mgPut_nodup h.nd) (h.bad ho)
/-- Sorted, and the map's: the list. -/
theorem Same.sorted {M : List (Ek × Nat)} {out l : List Ed} (h : Same M out) (hp : l.Perm (M.map mkEd)) (hs : SortEd l) : l = out := by
  have hkl : (l.map edK).Perm (M.map (·.1)) := by
    have := hp.map edK
    rw [List.map_map] at this
    exact this
  have hnd : (l.map edK).Nodup := hkl.nodup_iff.2 h.nd
  have hstr : StrEd l := by
    have h1 := List.pairwise_map.1 hnd
    refine (List.Pairwise.and hs h1).imp ?_
    rintro a b ⟨h2, h3⟩
    rw [edLt_cmp]
    have r := ekCmp_cmp.rng (edK a) (edK b)
    have : ekCmp (edK a) (edK b) ≠ 0 := fun e => h3 ((ekCmp_cmp.eq _ _).1 e)
    omega
  have hnl : l.Nodup := hstr.imp fun h e => by rw [e, edLt_irr] at h; cases h
  have hno : out.Nodup := h.st.imp fun h e => by rw [e, edLt_irr] at h; cases h
  have hperm : l.Perm out := (List.perm_ext_iff_of_nodup hnl hno).2 fun e => by
    rw [hp.mem_iff, List.mem_map]
    constructor
    · rintro ⟨p, h1, rfl⟩
      exact (h.mem p).1 h1
    · intro h1
      exact ⟨(edK e, e.n), (h.mem _).2 h1, rfl⟩
  exact List.Perm.eq_of_pairwise (le := fun a b => edLt a b = true) (fun a b _ _ h1 h2 => by
    have := edLt_tr h1 h2
    rw [edLt_irr] at this
    cases this) hstr h.st hperm
end Go.Proofs.Ythaiplhjekkooaa

/- deps: Check. -/
namespace Go.Proofs.Ythaiplhjekkooaa
open Go.RowKit
theorem loadEd_shutQ (a : Addr) : loadVar 47 a = loadK 47 a := rfl
attribute [local go_sem ↓] loadEd_shutQ

def edFine (e : Ed) : Bool := decide (e.f ≠ ⟨#[]⟩) && decide (e.t ≠ ⟨#[]⟩) && decide (e.f ≠ e.t) && txtB e.f && txtB e.t && decide (1 ≤ e.n)
def edWrong (l : List Ed) (i : Nat) : Bool := match l[i]? with
  | some x => !edFine x || (match i with | 0 => false | k + 1 => match l[k]? with | some p => decide (0 ≤ ekCmp (edK p) (edK x)) | none => false)
  | none => false
def edWrongTo (l : List Ed) (i : Nat) : Bool := (List.range i).any (edWrong l)
theorem edWrongTo_succ (l : List Ed) (i : Nat) : edWrongTo l (i + 1) = (edWrongTo l i || edWrong l i) := by simp [edWrongTo, List.range_succ]
/-- What Check tells. -/
def edChk (l : List Ed) : Nat := if edWrongTo l l.length = true then 2 else 0
theorem edWrong_fall {l : List Ed} {i : Nat} {x : Ed} (hx : l[i]? = some x) (hf : edFine x = false) : edWrongTo l l.length = true := by
  have hl := (List.getElem?_eq_some_iff.1 hx).1
  have h1 : edWrongTo l (i + 1) = true := by rw [edWrongTo_succ, edWrong, hx]; simp [hf]
  rw [edWrongTo, List.any_eq_true] at h1 ⊢
  obtain ⟨j, hj, hw⟩ := h1
  exact ⟨j, List.mem_range.2 (by have := List.mem_range.1 hj; omega), hw⟩
theorem edWrong_at {l : List Ed} {i : Nat} (h : edWrong l i = true) (hi : i < l.length) : edWrongTo l l.length = true := by
  rw [edWrongTo, List.any_eq_true]
  exact ⟨i, List.mem_range.2 hi, h⟩
set_option maxRecDepth 100000 in
set_option maxHeartbeats 8000000 in
theorem deCheck {A : Option Addr} {n c B : Nat} (l : List Ed) (w : World) (h : RbD w B A l) (hn : l.length = n) (hB : B ≤ w.heap.size) (hnl : n ≤ 9223372036854775807) :
    Calls Try.prog 16 #[.slice A n c] w fun e w' => e = .returned (.int .i64 (edChk l)) ∧ Below w.heap.size w w' := by
  obtain ⟨r, hr⟩ : ∃ r, edChk l = r := ⟨_, rfl⟩
  rw [hr]
  rw [edChk] at hr
  have HR := Lib.hid hr
  have HN := Lib.hid hn
  have HH := Lib.hid h
  clear hr hn h
  go_enter Try.func16, Try.ntmps16
  go_wp2_with fail
  go_loopw [8] (fun i_ wr => ∃ i : Nat, i ≤ n ∧ i_ = .int .i64 i ∧ Hid (edWrongTo l i = false) ∧ Hid (Below w.heap.size w wr)) (fun i_ _ => n - (intOf i_).toNat)
  case atStart => exact ⟨0, by omega, rfl, Lib.hid rfl, Lib.hid (Below.refl _ _)⟩
  case round =>
    obtain ⟨i, hi, rfl, HG, HB⟩ := hrel
    by_cases hlt : i < n
    · have hlt' : (i : Int) < (n : Int) := by omega
      obtain ⟨x, hx⟩ : ∃ x, l[i]? = some x := ⟨_, List.getElem?_eq_getElem (by rw [HN.out]; exact hlt)⟩
      obtain ⟨b1, o1, eA, hbb, hc1⟩ := RbD.at (Rd.below HH.out (HB.out.mono hB)) hx
      subst eA
      have hld := loadK_ed hc1
      have hbA := (Below.refl wr.heap.size wr).alloc (Nat.le_refl _) (.cells (edA x) 47)
      have HB2 := Lib.hid (HB.out.alloc HB.out.size (.cells (edA x) 47))
      have HX := Lib.hid hx
      have HFALL := Lib.hid (fun hf : edFine x = false => show r = 2 by rw [← HR.out, if_pos (edWrong_fall hx hf)])
      clear hc1
      obtain ⟨xb, xf, xt, xn⟩ := x
      have hcond : edFine ⟨xb, xf, xt, xn⟩ = (decide (xf ≠ ⟨#[]⟩) && decide (xt ≠ ⟨#[]⟩) && decide (xf ≠ xt) && txtB xf && txtB xt && decide (1 ≤ xn)) := rfl
      obtain ⟨fb, hfb⟩ : ∃ fb, edFine ⟨xb, xf, xt, xn⟩ = fb := ⟨_, rfl⟩
      rw [hfb] at hcond
      have HFB := Lib.hid hfb
      have HC := Lib.hid hcond
      clear hcond hfb hx
      have e0 : (⟨#[]⟩ : ByteArray).toList = [] := by rw [ByteArray.toList_eq]
      have t1 := fun W => spText W xf
      have t2 := fun W => spText W xt
      obtain ⟨b4, hb4⟩ : ∃ b4, txtB xf = b4 := ⟨_, rfl⟩
      obtain ⟨b5, hb5⟩ : ∃ b5, txtB xt = b5 := ⟨_, rfl⟩
      simp only [hb4] at t1
      simp only [hb5] at t2
      have HCC := Lib.hid (show fb = (decide (xf ≠ ⟨#[]⟩) && decide (xt ≠ ⟨#[]⟩) && decide (xf ≠ xt) && b4 && b5 && decide (1 ≤ xn)) by rw [← hb4, ← hb5]; exact HC.out)
      have HFALL2 := Lib.hid (fun h : fb = false => HFALL.out (HFB.out.trans h))
      clear hb4 hb5 HC HFALL
      by_cases h1 : xf = ⟨#[]⟩
      · have hr2 : r = 2 := HFALL2.out (by rw [HCC.out]; simp [h1])
        subst h1
        have h1' : ((⟨#[]⟩ : ByteArray).toList == []) = true := by rw [e0]; rfl
        have h1'' : ((⟨#[]⟩ : ByteArray).toList != []) = false := by rw [e0]; rfl
        subst hr2
        go_wp2_with fail
        go_quiet (fail)
        go_wp2_with fail
        go_ret
        exact ⟨rfl, below_drewN HB2.out _⟩
      have h1' : (xf.toList == []) = false := by rw [← e0, strEq_of', decide_eq_false h1]
      have h1'' : (xf.toList != []) = true := by rw [bne, h1']; rfl
      by_cases h2 : xt = ⟨#[]⟩
      · have hr2 : r = 2 := HFALL2.out (by rw [HCC.out]; simp [h2])
        subst h2
        have h2' : ((⟨#[]⟩ : ByteArray).toList == []) = true := by rw [e0]; rfl
        have h2'' : ((⟨#[]⟩ : ByteArray).toList != []) = false := by rw [e0]; rfl
        subst hr2
        go_wp2_with fail
        go_quiet (fail)
        go_wp2_with fail
        go_ret
        exact ⟨rfl, below_drewN HB2.out _⟩
      have h2' : (xt.toList == []) = false := by rw [← e0, strEq_of', decide_eq_false h2]
      have h2'' : (xt.toList != []) = true := by rw [bne, h2']; rfl
      by_cases h3 : xf = xt
      · subst h3
        have hr2 : r = 2 := HFALL2.out (by rw [HCC.out]; simp)
        subst hr2
        go_wp2_with fail
        go_quiet (fail)
        go_wp2_with fail
        go_ret
        exact ⟨rfl, below_drewN HB2.out _⟩
      have h3' : (xf.toList == xt.toList) = false := by rw [strEq_of', decide_eq_false h3]
      have h3'' : (xf.toList != xt.toList) = true := by rw [bne, h3']; rfl
      cases b4 with
      | false =>
        have hr2 : r = 2 := HFALL2.out (by rw [HCC.out]; simp)
        subst hr2
        go_wp2_with fail
        refine (t1 _).mono ?_
        rintro en w5 ⟨rfl, hw5⟩
        rw [hw5]
        clear hw5
        go_wp2_with fail
        go_quiet (fail)
        go_wp2_with fail
        go_ret
        exact ⟨rfl, below_drewN HB2.out _⟩
      | true =>
      cases b5 with
      | false =>
        have hr2 : r = 2 := HFALL2.out (by rw [HCC.out]; simp)
        subst hr2
        go_wp2_with fail
        refine (t1 _).mono ?_
        rintro en w5 ⟨rfl, hw5⟩
        rw [hw5]
        clear hw5
        go_wp2_with fail
        refine (t2 _).mono ?_
        rintro en w5 ⟨rfl, hw5⟩
        rw [hw5]
        clear hw5
        go_wp2_with fail
        go_quiet (fail)
        go_wp2_with fail
        go_ret
        exact ⟨rfl, below_drewN HB2.out _⟩
      | true =>
      by_cases h6 : 1 ≤ xn
      · have h6' : decide ((1 : Int) ≤ (xn : Int)) = true := by simp; omega
        have hfb : fb = true := by rw [HCC.out]; simp [h1, h2, h3, h6]
        subst hfb
        go_wp2_with fail
        refine (t1 _).mono ?_
        rintro en w5 ⟨rfl, hw5⟩
        rw [hw5]
        clear hw5
        go_wp2_with fail
        refine (t2 _).mono ?_
        rintro en w5 ⟨rfl, hw5⟩
        rw [hw5]
        clear hw5
        go_wp2_with fail
        rcases Nat.eq_zero_or_pos i with h0 | h0
        · subst h0
          go_quiet (fail)
          go_wp2_with fail
          exact ⟨⟨1, by omega, rfl, Lib.hid (by rw [edWrongTo_succ, HG.out, edWrong, HX.out]; simp [HFB.out]), Lib.hid (below_drewN HB2.out _)⟩, by simp only [intOf]; omega⟩
        · obtain ⟨k, hk⟩ : ∃ k, i = k + 1 := ⟨i - 1, by omega⟩
          obtain ⟨p, hp⟩ : ∃ p, l[k]? = some p := ⟨_, List.getElem?_eq_getElem (by rw [HN.out]; omega)⟩
          obtain ⟨b1', o1', e1, -, hc2⟩ := RbD.at (Rd.below HH.out (HB2.out.mono hB)) hp
          cases e1
          have lp := loadK_ed hc2
          have lp2 : (loadK 47 ⟨b1, o1 + k * 4, none⟩).run Try.prog (wr.alloc (.cells (edA ⟨xb, xf, xt, xn⟩) 47)).drew = .ok (edV p) (wr.alloc (.cells (edA ⟨xb, xf, xt, xn⟩) 47)).drew := loadK_ed (w := (wr.alloc (.cells (edA ⟨xb, xf, xt, xn⟩) 47)).drew) hc2
          have bk := Bk.new wr 47 (edA ⟨xb, xf, xt, xn⟩)
          have lx2 : (loadK 47 ⟨wr.heap.size, 0, none⟩).run Try.prog (wr.alloc (.cells (edA ⟨xb, xf, xt, xn⟩) 47)).drew = .ok (edV ⟨xb, xf, xt, xn⟩) (wr.alloc (.cells (edA ⟨xb, xf, xt, xn⟩) 47)).drew := loadK_edB (w := (wr.alloc (.cells (edA ⟨xb, xf, xt, xn⟩) 47)).drew) bk
          have cc := deCompare p ⟨xb, xf, xt, xn⟩ (wr.alloc (.cells (edA ⟨xb, xf, xt, xn⟩) 47)).drew
          have HB3 := Lib.hid (below_drewN HB2.out 1)
          have h1i : (0 : Int) < (i : Int) := by omega
          have hlt1 : (k : Int) < (n : Int) := by omega
          have h1j : (1 : Int) ≤ (i : Int) := by omega
          have h2i : (i : Int) - 1 < (n : Int) := by omega
          have h3i : (0 : Int) ≤ (i : Int) - 1 := by omega
          have h4i : ((i : Int) - 1).toNat = k := by omega
          have hw : IntKind.i64.wrap ((i : Int) - 1) = (i : Int) - 1 := IntWalk.i64_in _ ⟨by omega, by omega⟩
          have hew : edWrong l i = decide (0 ≤ ekCmp (edK p) (edK ⟨xb, xf, xt, xn⟩)) := by
            rw [edWrong, HX.out]
            subst hk
            simp only [HFB.out, hp, Bool.not_true, Bool.false_or]
          have CLA : Hid (∀ W, Below (wr.alloc (.cells (edA ⟨xb, xf, xt, xn⟩) 47)).drew.heap.size (wr.alloc (.cells (edA ⟨xb, xf, xt, xn⟩) 47)).drew W → (loadK 47 ⟨b1, o1 + k * 4, none⟩).run Try.prog W = .ok (edV p) W ∧ (loadK 47 ⟨wr.heap.size, 0, none⟩).run Try.prog W = .ok (edV ⟨xb, xf, xt, xn⟩) W) := Lib.hid fun W hW =>
            ⟨loadK_ed fun j hj => (hW.cell (Nat.lt_of_lt_of_le hbb (Nat.le_trans hB HB2.out.size))).trans (hc2 j hj), loadK_edB ((show Bk (wr.alloc (.cells (edA ⟨xb, xf, xt, xn⟩) 47)).drew wr.heap.size _ _ from bk).below hW bk.lt)⟩
          obtain ⟨ct, hct⟩ : ∃ ct, ekCmp (edK p) (edK ⟨xb, xf, xt, xn⟩) = ct := ⟨_, rfl⟩
          rw [hct] at cc hew
          have HEW := Lib.hid hew
          have HK := Lib.hid hk
          have HCC2 := Lib.hid cc
          clear hew hk hp hc2 lp bk hct HB2 hld cc
          obtain ⟨W4, hW4⟩ : ∃ W4, wr.alloc (.cells (edA ⟨xb, xf, xt, xn⟩) 47) = W4 := ⟨_, rfl⟩
          obtain ⟨g4, hg4⟩ : ∃ g4, wr.heap.size = g4 := ⟨_, rfl⟩
          rw [hW4] at lp2 lx2 HCC2 HB3 CLA ⊢
          rw [hg4] at lx2 CLA ⊢
          clear hW4 hg4
          by_cases hct0 : 0 ≤ ct
          · have hr2 : r = 2 := by
              rw [← HR.out, if_pos (edWrong_at (i := i) (by rw [HEW.out]; simp [hct0]) (by rw [HN.out]; exact hlt))]
            subst hr2
            have hd : decide ((0 : Int) ≤ ct) = true := by simp [hct0]
            go_wp2_with fail
            go_region_held3 (fun w' => (loadK 47 ⟨b1, o1 + k * 4, none⟩).run Try.prog w' = .ok (edV p) w' ∧ (loadK 47 ⟨g4, 0, none⟩).run Try.prog w' = .ok (edV ⟨xb, xf, xt, xn⟩) w') (go_keep)
              (first
                | (go_at_call 42
                   refine HCC2.out.mono ?_
                   rintro en w3 ⟨rfl, hb3, -⟩
                   obtain ⟨s1, s2⟩ := CLA.out w3 hb3)
                | fail)
            go_wp2_with fail
            go_ret
            exact ⟨rfl, HB3.out.trans (hb3.mono HB3.out.size)⟩
          · have hd : decide ((0 : Int) ≤ ct) = false := by simp; omega
            have hct1 : ct < 0 := by omega
            go_wp2_with fail
            go_region_held3 (fun w' => (loadK 47 ⟨b1, o1 + k * 4, none⟩).run Try.prog w' = .ok (edV p) w' ∧ (loadK 47 ⟨g4, 0, none⟩).run Try.prog w' = .ok (edV ⟨xb, xf, xt, xn⟩) w') (go_keep)
              (first
                | (go_at_call 42
                   refine HCC2.out.mono ?_
                   rintro en w3 ⟨rfl, hb3, -⟩
                   obtain ⟨s1, s2⟩ := CLA.out w3 hb3)
                | fail)
            go_wp2_with fail
            exact ⟨⟨i + 1, by omega, by go_num, Lib.hid (by rw [edWrongTo_succ, HG.out, HEW.out]; simp; omega), Lib.hid (HB3.out.trans (hb3.mono HB3.out.size))⟩, by simp only [intOf]; omega⟩
      · have h6' : decide ((1 : Int) ≤ (xn : Int)) = false := by simp; omega
        have hr2 : r = 2 := HFALL2.out (by rw [HCC.out]; simp [h6])
        subst hr2
        go_wp2_with fail
        refine (t1 _).mono ?_
        rintro en w5 ⟨rfl, hw5⟩
        rw [hw5]
        clear hw5
        go_wp2_with fail
        refine (t2 _).mono ?_
        rintro en w5 ⟨rfl, hw5⟩
        rw [hw5]
        clear hw5
        go_wp2_with fail
        go_quiet (fail)
        go_wp2_with fail
        go_ret
        exact ⟨rfl, below_drewN HB2.out _⟩
    · have hlt' : decide ((i : Int) < (n : Int)) = false := by simp; omega
      obtain rfl : i = n := by omega
      have hr0 : r = 0 := by rw [← HR.out, HN.out, if_neg (by rw [HG.out]; simp)]
      subst hr0
      go_wp2_with fail
      go_ret
      exact ⟨rfl, HB.out⟩
end Go.Proofs.Ythaiplhjekkooaa

/- A region that draws its order, whose callees make memory, walked once. -/
namespace Go.Proofs.Ythaiplhjekkooaa
open Go.RowKit

/-- A world behind W, what lay there as it was. -/
structure BelowBy (W : World) where
  w : World
  h : Below W.heap.size W w
instance (W : World) : Inhabited (BelowBy W) := ⟨⟨W, Below.refl _ _⟩⟩
theorem wp_region_quiet_below {P : Program} {id : Nat} {Q : Exit → Act → World → Prop} {a : Act} {w : World} {l : List Oper} (hm : P.follows .mixedOrders = true) (hB : Region.lexB .any l.toArray = true)
    (h : wpQuiet P l.toArray (fun w' => ∃ p : BelowBy w, w' = p.w) (fun a' => ∀ w', (∃ p : BelowBy w, w' = p.w) → Q .normal a' w') l a) : (Code.region id l.toArray true).wp P Q a w :=
  wp_region_quiet (C := fun w' => ∃ p : BelowBy w, w' = p.w) hm hB ⟨⟨w.drew, below_drewN (Below.refl _ w) 1⟩, rfl⟩ (by simpa using h)
theorem calls_belowBy {P : Program} {f : FuncId} {args : Array Value} {W : World} {v : Value} (p : BelowBy W) (h : Calls P f args p.w fun e w' => e = .returned v ∧ Below p.w.heap.size p.w w') :
    Calls P f args p.w fun e w'' => e = .returned v ∧ ∃ p' : BelowBy W, w'' = p'.w := h.mono fun _ w' ⟨he, hb⟩ => ⟨he, ⟨w', p.h.trans (hb.mono p.h.size)⟩, rfl⟩
end Go.Proofs.Ythaiplhjekkooaa

/- deps: is a span ahead of all time? slices.ContainsFunc with Edges' closure. -/
namespace Go.Proofs.Ythaiplhjekkooaa
open Go.RowKit
theorem loadAd_shutN (a : Addr) : loadVar 45 a = loadK 45 a := rfl
attribute [local go_sem ↓] loadAd_shutN

def negA (e : AE) : Bool := decide (e.a.s.start < 0)
/-- The first that p tells, or -1. -/
def idxA (p : AE → Bool) (l : List AE) : Int := match l.findIdx? p with | some i => (i : Int) | none => -1
theorem idxA_hit {p : AE → Bool} {l : List AE} {j : Nat} {x : AE} (h : (l.take j).any p = false) (hx : l[j]? = some x) (hp : p x = true) : idxA p l = j := by
  have hj := (List.getElem?_eq_some_iff.1 hx).1
  have : l.findIdx? p = some j := by
    rw [List.findIdx?_eq_some_iff_getElem]
    refine ⟨hj, by rw [(List.getElem?_eq_some_iff.1 hx).2]; exact hp, fun i hi => ?_⟩
    have h1 := List.any_eq_false.1 h (l[i]'(by omega)) (List.mem_of_getElem? (i := i) (by rw [List.getElem?_take, if_pos hi]; exact List.getElem?_eq_getElem _))
    simpa using h1
  rw [idxA, this]
theorem idxA_none {p : AE → Bool} {l : List AE} (h : l.any p = false) : idxA p l = -1 := by
  have : l.findIdx? p = none := by
    rw [List.findIdx?_eq_none_iff]
    intro x hx
    have := List.any_eq_false.1 h x hx
    simpa using this
  rw [idxA, this]
theorem idxA_any (p : AE → Bool) (l : List AE) : decide (0 ≤ idxA p l) = l.any p := by
  by_cases h : l.any p = true
  · rw [h, decide_eq_true_iff, idxA]
    cases hf : l.findIdx? p with
    | none =>
      rw [List.findIdx?_eq_none_iff] at hf
      obtain ⟨x, hx, hp⟩ := List.any_eq_true.1 h
      rw [hf x hx] at hp
      cases hp
    | some i => simp only; omega
  · have h : l.any p = false := by simpa using h
    rw [h, idxA_none h]
    rfl
theorem deNeg (e : AE) (w : World) : Calls Try.prog 33 #[adV e.a e.A e.n e.c] w fun en w' => en = .returned (.bool (negA e)) ∧ Below w.heap.size w w' := by
  have hb0 : Below w.heap.size w (w.alloc (.cells (adC e.a e.A e.n e.c) 45)) := (Below.refl _ w).alloc (Nat.le_refl _) _
  have HB := Lib.hid hb0
  clear hb0
  go_enter Try.func33, Try.ntmps33
  go_wp2_with fail
  go_ret
  exact ⟨rfl, HB.out⟩
set_option maxHeartbeats 1000000 in
theorem deIndexNeg {A : Option Addr} {c n B : Nat} {l : List AE} (w : World) (hf : RbA w B A l) (hn : l.length = n) (hB : B ≤ w.heap.size) (hnl : n ≤ 9223372036854775807) :
    Calls Try.prog 49 #[.slice A n c, .func (.func 33) #[] #[]] w fun e w' => e = .returned (.int .i64 (idxA negA l)) ∧ Below w.heap.size w w' := by
  have HN := Lib.hid hn
  obtain ⟨q, hq⟩ : ∃ q, idxA negA l = q := ⟨_, rfl⟩
  rw [hq]
  have HQ := Lib.hid hq
  have HF := Lib.hid hf
  clear hn hq hf
  go_enter Try.func49, Try.ntmps49
  go_wp2_with fail
  go_loopw [8] (fun iv_ wr => ∃ j : Nat, j ≤ n ∧ iv_ = .int .i64 j ∧ Hid ((l.take j).any negA = false) ∧ Below w.heap.size w wr) (fun i _ => n - (intOf i).toNat)
  case atStart => exact ⟨0, by omega, rfl, Lib.hid rfl, Below.refl _ _⟩
  case round =>
    obtain ⟨j, hj, rfl, HA, hb⟩ := hrel
    by_cases hlt : j < n
    · have hlt' : (j : Int) < (n : Int) := by omega
      obtain ⟨x, hx⟩ : ∃ x, l[j]? = some x := ⟨_, List.getElem?_eq_getElem (by rw [HN.out]; exact hlt)⟩
      obtain ⟨b, o, rfl, hbb, h1, h2⟩ := (HF.out.below (hb.mono hB)).get hx
      have hld := loadK_ae h1
      have HX := Lib.hid hx
      have hcl := deNeg x wr
      obtain ⟨t, ht⟩ : ∃ t, negA x = t := ⟨_, rfl⟩
      rw [ht] at hcl
      have HT := Lib.hid ht
      clear hx h1 h2 ht
      cases t with
      | true =>
        go_wp2_with (go_at_call 33; refine hcl.mono ?_; rintro e w' ⟨rfl, hb'⟩)
        go_ret
        have hqt : q = (j : Int) := by
          rw [← HQ.out]
          exact idxA_hit HA.out HX.out HT.out
        exact ⟨by rw [hqt]; rfl, hb.trans (hb'.mono hb.size)⟩
      | false =>
        go_wp2_with (go_at_call 33; refine hcl.mono ?_; rintro e w' ⟨rfl, hb'⟩)
        exact ⟨⟨j + 1, by omega, by go_num, Lib.hid (by rw [take_snoc HX.out, List.any_append, HA.out]; simp [HT.out]), hb.trans (hb'.mono hb.size)⟩, by simp only [intOf]; omega⟩
    · have hlt' : decide ((j : Int) < (n : Int)) = false := by simp; omega
      go_wp2_with fail
      go_ret
      have : q = -1 := by
        rw [← HQ.out]
        have h1 := HA.out
        rw [List.take_of_length_le (by rw [HN.out]; omega)] at h1
        exact idxA_none h1
      exact ⟨by rw [this]; rfl, hb⟩
theorem deHasNeg {A : Option Addr} {c n B : Nat} {l : List AE} (w : World) (hf : RbA w B A l) (hn : l.length = n) (hB : B ≤ w.heap.size) (hnl : n ≤ 9223372036854775807) :
    Calls Try.prog 32 #[.slice A n c, .func (.func 33) #[] #[]] w fun e w' => e = .returned (.bool (l.any negA)) ∧ Below w.heap.size w w' := by
  have hc := deIndexNeg (c := c) w hf hn hB hnl
  have ha := idxA_any negA l
  obtain ⟨q, hq⟩ : ∃ q, idxA negA l = q := ⟨_, rfl⟩
  rw [hq] at hc ha
  rw [← ha]
  have HC := Lib.hid hc
  clear hc hq ha
  go_enter Try.func32, Try.ntmps32
  go_wp2_with (go_at_call 49; refine HC.out.mono ?_; rintro e w' ⟨rfl, hb'⟩)
  go_ret
  exact ⟨rfl, hb'⟩
end Go.Proofs.Ythaiplhjekkooaa

/- deps: what Edges of the code does, plain. -/
namespace Go.Proofs.Ythaiplhjekkooaa
open Go.RowKit

abbrev idV (n : Nat) : Value := .int .u64 n
abbrev spvE (e : AE) : Value := spV e.a.s e.A e.n e.c
/-- The spans by their IDs. -/
def atTo (l : List AE) : List (Nat × AE) := l.foldl (fun M e => mgPut e.a.s.id e M) []
theorem atTo_snoc (l : List AE) (e : AE) : atTo (l ++ [e]) = mgPut e.a.s.id e (atTo l) := by simp [atTo]
/-- A span's call. -/
def callC (size : Int) (M : List (Nat × AE)) (x : AE) : Option Ed :=
  match mgGet x.a.up M with
  | some y => if y.a.s.service ≠ x.a.s.service then some ⟨(bktOf x.a.s.start size).1, y.a.s.service, x.a.s.service, 1⟩ else none
  | none => none
def callsC (size : Int) (l : List AE) : List Ed := l.filterMap (callC size (atTo l))
theorem callC_one {size : Int} {M : List (Nat × AE)} {x : AE} {e : Ed} (h : callC size M x = some e) : e.n = 1 := by
  unfold callC at h
  split at h
  · split at h
    · injection h with h; rw [← h]
    · cases h
  · cases h
theorem mgAll_few {xs : List Ed} : ∀ {M : List (Ek × Nat)} {c : Nat}, (∀ x ∈ xs, x.n = 1) → (∀ p ∈ M, p.2 ≤ c) → (M.map (·.1)).Nodup → ∀ p ∈ mgAll xs M, p.2 ≤ c + xs.length := by
  induction xs with
  | nil => intro M c _ h _ p hp; exact h p hp
  | cons x xs ih =>
    intro M c h1 h2 hn p hp
    have h3 : ∀ p ∈ addK (edK x) x.n M, p.2 ≤ c + 1 := fun p hp => by
      rcases (mgPut_mem hn p).1 hp with ⟨h4, _⟩ | rfl
      · have := h2 p h4; omega
      · show min ((mgGet (edK x) M).getD 0) 4611686018427387905 + min x.n 4611686018427387905 ≤ c + 1
        have h5 := h1 x (List.mem_cons_self ..)
        have h6 : (mgGet (edK x) M).getD 0 ≤ c := by
          cases hg : mgGet (edK x) M with
          | none => exact Nat.zero_le _
          | some v => exact h2 _ (mgGet_mem hg)
        omega
    have := ih (fun y hy => h1 y (List.mem_cons_of_mem _ hy)) h3 (mgPut_nodup hn) p hp
    simp only [List.length_cons]
    omega
/-- What Edges of the code hands back. -/
def EdgC (l : List AE) (size : Int) (w : World) (e : Ending) (w' : World) : Prop :=
  Below w.heap.size w w' ∧
  ((size < 1 ∨ (atTo l).length ≠ l.length ∨ l.any negA = true) ∧ e = .returned (.tuple #[.slice none 0 0, .int .i64 2]) ∨
   ¬ (size < 1 ∨ (atTo l).length ≠ l.length ∨ l.any negA = true) ∧
    (spErr (l.map (·.a.s)) ≠ 0 ∧ e = .returned (.tuple #[.slice none 0 0, .int .i64 (spErr (l.map (·.a.s)))]) ∨
     spErr (l.map (·.a.s)) = 0 ∧ ∃ A c n out, out.Perm ((mgAll (callsC size l) []).map mkEd) ∧ SortEd out ∧ out.length = n ∧ e = .returned (.tuple #[.slice A n c, .int .i64 0]) ∧ w'.ownsRow w.heap.size 47 4 (.slice A n c) n (eds out)))
end Go.Proofs.Ythaiplhjekkooaa

/- Spans: Check of a span whose head is not right; Check of any span. -/
namespace Go.Proofs.Ythaiplhjekkooaa
open Go.RowKit

set_option maxRecDepth 100000 in
set_option maxHeartbeats 8000000 in
/-- Check of a span that is not too long and whose head is not right. -/
theorem spCheck0 {A : Option Addr} {c n B : Nat} (s : Sp) (w : World) (hf : RbT w B A s.tags) (hn : s.tags.length = n) (hB : B ≤ w.heap.size) (hnl : n ≤ 9223372036854775807) (hlong : longB s = false) (hhead : headB s = false) :
    Calls Try.prog 34 #[spV s A n c] w fun e w' => e = .returned (.int .i64 2) ∧ Below w.heap.size w w' := by
  have hb0 : Below w.heap.size w (w.alloc (.cells (spC s A n c) 43)) := (Below.refl _ w).alloc (Nat.le_refl _) _
  have hf1 := Rd.alloc hf hB (.cells (spC s A n c) 43)
  have bk := Bk.new w 43 (spC s A n c)
  have hs1 : (w.alloc (.cells (spC s A n c) 43)).heap.size = w.heap.size + 1 := by simp
  obtain ⟨w1, hw1⟩ : ∃ w1, w.alloc (.cells (spC s A n c) 43) = w1 := ⟨_, rfl⟩
  rw [hw1] at hb0 hf1 bk hs1
  have HW := Lib.hid hw1
  have hc := spLong (c := c) s w1 hf1 hn (by omega) hnl
  rw [hlong] at hc
  have HC := Lib.hid hc
  have HN := Lib.hid hn
  clear hw1 hc hn hlong
  have hcase : (s.hi = 0 ∧ s.lo = 0) ∨ ((s.hi ≠ 0 ∨ s.lo ≠ 0) ∧ (s.id = 0 ∨ s.id ≠ 0 ∧ (nameB s.service = false ∨ nameB s.service = true ∧ (nameB s.name = false ∨ nameB s.name = true ∧ (decide (0 ≤ s.kind) = false ∨ 0 ≤ s.kind ∧ (decide (s.kind ≤ 5) = false ∨ s.kind ≤ 5 ∧
      (decide (0 ≤ s.start) = false ∨ 0 ≤ s.start ∧ (decide (0 ≤ s.length) = false ∨ 0 ≤ s.length ∧ (decide (s.start ≤ 4611686018427387903) = false ∨ s.start ≤ 4611686018427387903 ∧ decide (s.length ≤ 4611686018427387903 - s.start) = false))))))))) := by
    by_cases a0 : s.hi = 0 ∧ s.lo = 0
    · exact .inl a0
    refine .inr ⟨by omega, ?_⟩
    by_cases a1 : s.id = 0
    · exact .inl a1
    refine .inr ⟨a1, ?_⟩
    cases a2 : nameB s.service with
    | false => exact .inl rfl
    | true =>
    refine .inr ⟨rfl, ?_⟩
    cases a3 : nameB s.name with
    | false => exact .inl rfl
    | true =>
    refine .inr ⟨rfl, ?_⟩
    by_cases a4 : 0 ≤ s.kind
    case neg => exact .inl (by simpa using a4)
    refine .inr ⟨a4, ?_⟩
    by_cases a5 : s.kind ≤ 5
    case neg => exact .inl (by simpa using a5)
    refine .inr ⟨a5, ?_⟩
    by_cases a6 : 0 ≤ s.start
    case neg => exact .inl (by simpa using a6)
    refine .inr ⟨a6, ?_⟩
    by_cases a7 : 0 ≤ s.length
    case neg => exact .inl (by simpa using a7)
    refine .inr ⟨a7, ?_⟩
    by_cases a8 : s.start ≤ 4611686018427387903
    case neg => exact .inl (by simpa using a8)
    refine .inr ⟨a8, ?_⟩
    by_cases a9 : s.length ≤ 4611686018427387903 - s.start
    case neg => simpa using a9
    have : headB s = true := by
      simp only [headB, a2, a3, Bool.and_eq_true, Bool.or_eq_true, decide_eq_true_eq, ne_eq]
      exact ⟨⟨⟨⟨⟨⟨⟨⟨⟨by omega, a1⟩, trivial⟩, trivial⟩, a4⟩, a5⟩, a6⟩, a7⟩, a8⟩, a9⟩
    rw [hhead] at this
    cases this
  have HCASE := Lib.hid hcase
  clear hcase hhead
  go_enter Try.func34, Try.ntmps34
  go_wp2_with fail
  rw [HW.out]
  refine HC.out.mono ?_
  rintro e w2 ⟨rfl, hb2⟩
  have hs2 := hb2.size
  have hb02 := hb0.trans (hb2.mono (by omega))
  have hf2 := (Rd.below hf1 (hb2.mono (by omega))).more (show B ≤ w2.heap.size by omega)
  have bk2 := bk.below hb2 (by omega)
  obtain ⟨g, hg⟩ : ∃ g, w.heap.size = g := ⟨_, rfl⟩
  rw [hg] at bk2 ⊢
  have k0 : w2.cell? ⟨g, 0, none⟩ = some (.int .u64 s.hi) := bk2.cell 0
  have k1 : w2.cell? ⟨g, 1, none⟩ = some (.int .u64 s.lo) := bk2.cell 1
  have k2 : w2.cell? ⟨g, 2, none⟩ = some (.int .u64 s.id) := bk2.cell 2
  have k4 : w2.cell? ⟨g, 4, none⟩ = some (.string s.service) := bk2.cell 4
  have k5 : w2.cell? ⟨g, 5, none⟩ = some (.string s.name) := bk2.cell 5
  have k6 : w2.cell? ⟨g, 6, none⟩ = some (.int .i64 s.kind) := bk2.cell 6
  have k7 : w2.cell? ⟨g, 7, none⟩ = some (.int .i64 s.start) := bk2.cell 7
  have k8 : w2.cell? ⟨g, 8, none⟩ = some (.int .i64 s.length) := bk2.cell 8
  have k10 : w2.cell? ⟨g, 10, none⟩ = some (.slice A n c) := bk2.cell 10
  clear bk hf1 hb0 HW
  have HHS := Lib.hid hs2
  have HH1 := Lib.hid hs1
  have HHB := Lib.hid hB
  have HHG := Lib.hid hg
  have HB02 := Lib.hid hb02
  have HF2 := Lib.hid hf2
  have HBK := Lib.hid bk2
  clear hs2 hs1 hB hg hb02 hf2 bk2 hf hb2
  have hcase := HCASE.out
  clear HCASE
  rcases hcase with ⟨a0, a0'⟩ | ⟨a0, a1 | ⟨a1, a2 | ⟨a2, a3 | ⟨a3, a4 | ⟨a4, a5 | ⟨a5, a6 | ⟨a6, a7 | ⟨a7, a8 | ⟨a8, a9⟩⟩⟩⟩⟩⟩⟩⟩⟩
  all_goals first
    | (have d1 : ((s.id : Int) != 0) = true := by rw [bne_iff_ne]; omega)
    | (have d1 : ((s.id : Int) != 0) = false := by rw [a1]; rfl)
    | skip
  all_goals go_wp2_with (first
    | (go_at_call 51; refine (spName _ _).mono ?_; rintro e w' ⟨rfl, hw⟩; rw [hw]; clear hw w'; first | rw [a2] | rw [a3]))
  all_goals
    go_loopw [3, 63] (fun fv iv_ wr => ∃ j : Nat, j ≤ n ∧ iv_ = .int .i64 j ∧ fv = .bool false ∧ Below w2.heap.size w2 wr) (fun _ i _ => n - (intOf i).toNat)
    case atStart => exact ⟨0, by omega, rfl, rfl, Below.refl _ _⟩
    case round =>
      obtain ⟨j, hj, rfl, rfl, hb⟩ := hrel
      have hgl : g < w2.heap.size := by have := HHG.out; have := HHS.out; have := HH1.out; omega
      by_cases hlt : j < n
      · have hlt' : (j : Int) < (n : Int) := by omega
        obtain ⟨x, hx⟩ : ∃ x, s.tags[j]? = some x := ⟨_, List.getElem?_eq_getElem (by rw [HN.out]; exact hlt)⟩
        have hRb : Rd wr w2.heap.size A (tgs s.tags) := (Rd.more HF2.out (Nat.le_refl _)).below hb
        obtain ⟨b, o, rfl, hbb, c1, c2⟩ := RbT.get hRb hx
        have k10' : wr.cell? ⟨g, 10, none⟩ = some (.slice (some ⟨b, o, none⟩) n c) := (hb.cell (p := ⟨g, 10, none⟩) hgl).trans k10
        have HX := Lib.hid hx
        clear hx
        go_wp2_with fail
        have hbW := hb.alloc hb.size (.cells #[.string x.key, .string x.val] 90)
        obtain ⟨W, hW⟩ : ∃ W, wr.alloc (.cells #[.string x.key, .string x.val] 90) = W := ⟨_, rfl⟩
        rw [hW] at hbW ⊢
        have HBW := Lib.hid hbW
        clear hW hbW hRb hb hgl c1 c2 k10'
        go_quiet (fail)
        go_wp2
        go_roundw
        case rel => exact ⟨j + 1, by omega, by go_num, rfl, below_drewN HBW.out _⟩
        case measure => simp [intOf]; omega
      · have hlt' : decide ((j : Int) < (n : Int)) = false := by simp; omega
        go_wp2
        go_ret
        exact ⟨rfl, HB02.out.trans (hb.mono (by have := HHS.out; have := HH1.out; omega))⟩

set_option maxHeartbeats 400000 in
/-- Check of any span. -/
theorem spCheck {A : Option Addr} {c n B : Nat} (s : Sp) (w : World) (hf : RbT w B A s.tags) (hn : s.tags.length = n) (hB : B ≤ w.heap.size) (hnl : n ≤ 9223372036854775807) :
    Calls Try.prog 34 #[spV s A n c] w fun e w' => e = .returned (.int .i64 (spChk s)) ∧ Below w.heap.size w w' := by
  cases hl : longB s with
  | true =>
    have hr : spChk s = 3 := by rw [spChk, if_pos hl]
    rw [hr]
    have hf1 := Rd.alloc hf hB (.cells (spC s A n c) 43)
    have hb0 : Below w.heap.size w (w.alloc (.cells (spC s A n c) 43)) := (Below.refl _ w).alloc (Nat.le_refl _) _
    have hc := spLong (c := c) s _ hf1 hn (by simp; omega) hnl
    rw [hl] at hc
    have HC := Lib.hid hc
    clear hc hl
    go_enter Try.func34, Try.ntmps34
    go_wp2_with fail
    refine HC.out.mono ?_
    rintro e w2 ⟨rfl, hb2⟩
    go_wp2
    go_ret
    exact ⟨rfl, hb0.trans (hb2.mono (by simp))⟩
  | false =>
    cases hh : headB s with
    | false =>
      have hr : spChk s = 2 := by rw [spChk, hl, hh]; rfl
      rw [hr]
      exact spCheck0 s w hf hn hB hnl hl hh
    | true =>
      have hr : spChk s = if tagsOk s.tags n = true then 0 else 2 := by rw [spChk, hl, hh, hn]; rfl
      rw [hr]
      exact spCheck1 s w hf hn hB hnl hl hh
end Go.Proofs.Ythaiplhjekkooaa
