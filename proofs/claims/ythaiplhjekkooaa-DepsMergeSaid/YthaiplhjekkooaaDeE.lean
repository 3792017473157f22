/- Edges: the document's Edges. -/
import Derived.BigRegion
import Derived.Test.YthaiplhjekkooaaDeD
import Derived.Test.YthaiplhjekkooaaRaA
import Derived.Test.YthaiplhjekkooaaAeP
import Derived.Test.YthaiplhjekkooaaSrB
namespace Go.Proofs.Ythaiplhjekkooaa
open Go.RowKit
theorem loadSp_shutE (a : Addr) : loadVar 43 a = loadK 43 a := rfl
attribute [local go_sem ↓] loadSp_shutE

set_option maxRecDepth 100000 in
theorem loadK_aeSpD {w : World} {b o i : Nat} {e : AE} (h : ∀ j, j < 14 → w.cell? ⟨b, o + (i * 14 + j), none⟩ = (aeC e)[j]?) : (loadK 43 ⟨b, o + i * 14, none⟩).run Try.prog w = .ok (spV e.a.s e.A e.n e.c) w :=
  run_loadVar_cells w _ _ ⟨b, o + i * 14, none⟩ (spC e.a.s e.A e.n e.c).toList Try.underlying43 rfl (by rfl) (fun j v hv => by
    have hj : j < 11 := (List.getElem?_eq_some_iff.1 hv).1
    rw [Addr.add_lit, Nat.add_assoc, h j (by omega), ← hv]
    have h14 : ∀ j, j < 11 → (aeC e)[j]? = (spC e.a.s e.A e.n e.c).toList[j]? := by
      intro j hj
      have : j = 0 ∨ j = 1 ∨ j = 2 ∨ j = 3 ∨ j = 4 ∨ j = 5 ∨ j = 6 ∨ j = 7 ∨ j = 8 ∨ j = 9 ∨ j = 10 := by omega
      rcases this with rfl | rfl | rfl | rfl | rfl | rfl | rfl | rfl | rfl | rfl | rfl <;> rfl
    exact h14 j hj)
theorem spErr_dropD {l : List Sp} {k : Nat} {x : Sp} (h : l[k]? = some x) : spErr (l.drop k) = if spChk x ≠ 0 then spChk x else spErr (l.drop (k + 1)) := by
  obtain ⟨hk, rfl⟩ := List.getElem?_eq_some_iff.1 h
  rw [List.drop_eq_getElem_cons hk, spErr]
def ads (l : List AE) : List Ad := l.map (·.a)
theorem ads_get {l : List AE} {i : Nat} {e : AE} (h : l[i]? = some e) : (ads l)[i]? = some e.a := by simp [ads, h]
theorem ads_len (l : List AE) : (ads l).length = l.length := by simp [ads]
/-- Has one of the first k the ID of x? -/
def dupTo (l : List Ad) (x : Ad) (k : Nat) : Bool := (List.range k).any fun j => match l[j]? with | some y => decide (y.s.id = x.s.id) | none => false
def edBadAt (l : List Ad) (i : Nat) : Bool := match l[i]? with | some x => decide (x.s.start < 0) || dupTo l x i | none => false
def edBadTo (l : List Ad) (i : Nat) : Bool := (List.range i).any (edBadAt l)
/-- A span's call of another service. -/
def edStep (size : Int) (x y : Ad) (out : List Ed) : List Ed :=
  if x.up ≠ 0 ∧ y.s.id = x.up ∧ y.s.service ≠ x.s.service then (addE ⟨(bktOf x.s.start size).1, y.s.service, x.s.service, 1⟩ out).1 else out
def edAt (size : Int) (l : List Ad) (x : Ad) (out : List Ed) (k : Nat) : List Ed := match l[k]? with | some y => edStep size x y out | none => out
def edRow (size : Int) (l : List Ad) (out : List Ed) (i : Nat) : List Ed := match l[i]? with | some x => (List.range l.length).foldl (edAt size l x) out | none => out
/-- What Edges answers. -/
def edOut (l : List Ad) (size : Int) : List Ed × Nat :=
  if size < 1 then ([], 2) else if edBadTo l l.length = true then ([], 2) else if spErr (l.map (·.s)) ≠ 0 then ([], spErr (l.map (·.s))) else ((List.range l.length).foldl (edRow size l) [], 0)
theorem dupTo_succ {l : List Ad} {x y : Ad} {k : Nat} (h : l[k]? = some y) : dupTo l x (k + 1) = (dupTo l x k || decide (y.s.id = x.s.id)) := by simp [dupTo, List.range_succ, h]
theorem edBadTo_succ (l : List Ad) (i : Nat) : edBadTo l (i + 1) = (edBadTo l i || edBadAt l i) := by simp [edBadTo, List.range_succ]
theorem any_le {f : Nat → Bool} {i n : Nat} (h : i ≤ n) (hi : (List.range i).any f = true) : (List.range n).any f = true := by
  rw [List.any_eq_true] at hi ⊢
  obtain ⟨j, hj, hf⟩ := hi
  exact ⟨j, List.mem_range.2 (by have := List.mem_range.1 hj; omega), hf⟩
/-- Numbers that stay small. -/
def EdFew (l : List Ed) : Prop := ∀ y ∈ l, y.n ≤ 4611686018427387904
theorem addE_few {x : Ed} {l : List Ed} (hx : x.n ≤ 4611686018427387904) (h : EdFew l) : EdFew (addE x l).1 ∧ (addE x l).1.length ≤ l.length + 1 := by
  have hins : EdFew (l.take (addPos x l) ++ x :: l.drop (addPos x l)) ∧ (l.take (addPos x l) ++ x :: l.drop (addPos x l)).length ≤ l.length + 1 := by
    refine ⟨fun y hy => ?_, by simp only [List.length_append, List.length_cons, List.length_take, List.length_drop]; omega⟩
    rcases List.mem_append.1 hy with hy | hy
    · exact h y (List.mem_of_mem_take hy)
    · rcases List.mem_cons.1 hy with rfl | hy
      · exact hx
      · exact h y (List.mem_of_mem_drop hy)
  unfold addE
  cases hy : l[addPos x l]? with
  | none => exact hins
  | some y =>
    simp only []
    by_cases h1 : edLt x y = true
    · rw [if_pos h1]; exact hins
    · rw [if_neg h1]
      by_cases h2 : 4611686018427387904 < x.n ∨ 4611686018427387904 - x.n < y.n
      · rw [if_pos h2]; exact ⟨h, Nat.le_succ _⟩
      · rw [if_neg h2]
        refine ⟨fun z hz => ?_, by rw [List.length_set]; exact Nat.le_succ _⟩
        rcases List.mem_or_eq_of_mem_set hz with hz | rfl
        · exact h z hz
        · show y.n + x.n ≤ _; omega
/-- What Edges hands back. -/
def EdsPost (w : World) (r : List Ed × Nat) (e : Ending) (w' : World) : Prop :=
  ∃ A' c', e = .returned (.tuple #[.slice A' r.1.length c', .int .i64 r.2]) ∧ w'.ownsRow w.heap.size 47 4 (.slice A' r.1.length c') r.1.length (eds r.1) ∧ Below w.heap.size w w'
theorem EdsPost.no {w w' : World} {q : Nat} (hb : Below w.heap.size w w') : EdsPost w ([], q) (.returned (.tuple #[.slice none 0 0, .int .i64 q])) w' := ⟨none, 0, rfl, World.ownsRow_nil _ _ _ _, hb⟩
set_option maxRecDepth 100000 in
set_option maxHeartbeats 8000000 in
theorem rDeEdges {A : Option Addr} {n c B : Nat} (l : List AE) (size : Int) (w : World) (h : RbA w B A l) (hn : l.length = n) (hB : B ≤ w.heap.size) (hnl : n ≤ 200) (hs0 : -9223372036854775808 ≤ size) (hs1 : size ≤ 9223372036854775807)
    (hst : ∀ e ∈ l, e.a.s.start ≤ 9223372036854775807 ∧ -9223372036854775808 ≤ e.a.s.start) :
    Calls Try.prog 11 #[.slice A n c, .int .i64 size] w (EdsPost w (edOut (ads l) size)) := by
  obtain ⟨r, hr⟩ : ∃ r, edOut (ads l) size = r := ⟨_, rfl⟩
  rw [hr]
  by_cases hz : size < 1
  · have hz' : decide (size < 1) = true := by simp [hz]
    have hre : r = ([], 2) := by rw [← hr, edOut, if_pos hz]
    subst hre
    go_enter Try.func11, Try.ntmps11
    go_wp2_with fail
    go_ret2
    exact EdsPost.no (Below.refl _ _)
  have hz' : decide (size < 1) = false := by simp; omega
  have hr1 : r = if edBadTo (ads l) n = true then ([], 2) else if spErr ((ads l).map (·.s)) ≠ 0 then ([], spErr ((ads l).map (·.s))) else ((List.range n).foldl (edRow size (ads l)) [], 0) := by
    rw [← hr, edOut, if_neg hz, ads_len, hn]
  have HR := Lib.hid hr1
  have HN := Lib.hid hn
  have HST := Lib.hid hst
  have HH := Lib.hid h
  clear hr hr1 hn hst h
  go_enter Try.func11, Try.ntmps11
  go_wp2_with fail
  go_loopw [6] (fun i_ wr => ∃ i : Nat, i ≤ n ∧ i_ = .int .i64 i ∧ Hid (edBadTo (ads l) i = false) ∧ Below w.heap.size w wr) (fun i_ _ => n - (intOf i_).toNat)
  case atStart => exact ⟨0, by omega, rfl, Lib.hid rfl, Below.refl _ _⟩
  case round =>
    obtain ⟨i, hi, rfl, HG, hb⟩ := hrel
    by_cases hlt : i < n
    · have hlt' : (i : Int) < (n : Int) := by omega
      obtain ⟨x, hx⟩ : ∃ x, l[i]? = some x := ⟨_, List.getElem?_eq_getElem (by rw [HN.out]; exact hlt)⟩
      obtain ⟨b, o, eA, hbb, hc, -⟩ := (HH.out.below (hb.mono hB)).get hx
      subst eA
      have cs : wr.cell? ⟨b, o + i * 14 + 7, none⟩ = some (.int .i64 x.a.s.start) := by rw [Nat.add_assoc]; exact hc 7 (by omega)
      have cid : Hid (∀ W, Below w.heap.size w W → ∀ (k : Nat) (y : AE), l[k]? = some y → W.cell? ⟨b, o + k * 14 + 2, none⟩ = some (.int .u64 y.a.s.id)) := Lib.hid fun W hW k y hy => by
        obtain ⟨b', o', e', -, hc', -⟩ := (HH.out.below (hW.mono hB)).get hy
        cases e'
        rw [Nat.add_assoc]
        exact hc' 2 (by omega)
      obtain ⟨sa, hsa⟩ : ∃ sa, x.a.s.start = sa := ⟨_, rfl⟩
      rw [hsa] at cs
      have HX := Lib.hid hx
      have HSA := Lib.hid hsa
      have hbs := edBadTo_succ (ads l) i
      rw [HG.out, Bool.false_or, edBadAt, ads_get hx] at hbs
      simp only [hsa] at hbs
      have HBS := Lib.hid hbs
      clear hbs hx hsa hc
      by_cases h0 : sa < 0
      · have h0' : decide (sa < 0) = true := by simp [h0]
        have hre : r = ([], 2) := by
          have h1 : edBadTo (ads l) n = true := any_le (show i + 1 ≤ n by omega) (by have := HBS.out; rw [h0', Bool.true_or] at this; exact this)
          rw [HR.out, if_pos h1]
        subst hre
        go_wp2_with fail
        go_ret2
        exact EdsPost.no hb
      · have h0' : decide (sa < 0) = false := by simp; omega
        have hbs := HBS.out
        rw [h0', Bool.false_or] at hbs
        have HBS2 := Lib.hid hbs
        clear hbs HBS
        go_wp2_with fail
        have HBO := Lib.hid hb
        obtain ⟨wO, hwO⟩ : ∃ wO, wO = wr := ⟨_, rfl⟩
        subst hwO
        go_loopw [7] (fun k_ wr2 => ∃ k : Nat, k ≤ i ∧ k_ = .int .i64 k ∧ Hid (dupTo (ads l) x.a k = false) ∧ Below w.heap.size w wr2) (fun k_ _ => i - (intOf k_).toNat)
        case atStart => exact ⟨0, by omega, rfl, Lib.hid rfl, hb⟩
        case round =>
          obtain ⟨k, hk, rfl, HD, hb2⟩ := hrel
          by_cases hki : k < i
          · have hki' : (k : Int) < (i : Int) := by omega
            have hkn : (k : Int) < (n : Int) := by omega
            obtain ⟨y, hy⟩ : ∃ y, l[k]? = some y := ⟨_, List.getElem?_eq_getElem (by rw [HN.out]; omega)⟩
            have c1 := cid.out wr hb2 k y hy
            have c2 := cid.out wr hb2 i x HX.out
            obtain ⟨yi, hyi⟩ : ∃ yi, y.a.s.id = yi := ⟨_, rfl⟩
            obtain ⟨xi, hxi⟩ : ∃ xi, x.a.s.id = xi := ⟨_, rfl⟩
            rw [hyi] at c1
            rw [hxi] at c2
            have hds := dupTo_succ (x := x.a) (ads_get hy)
            rw [HD.out, Bool.false_or, hyi, hxi] at hds
            have HDS := Lib.hid hds
            clear hds hy hyi hxi HD
            by_cases he : yi = xi
            · have he' : ((yi : Int) == (xi : Int)) = true := by simp; omega
              have hre : r = ([], 2) := by
                have h2 : dupTo (ads l) x.a i = true := any_le (show k + 1 ≤ i by omega) (by have := HDS.out; rw [decide_eq_true he] at this; exact this)
                have h1 : edBadTo (ads l) n = true := any_le (show i + 1 ≤ n by omega) (by have := HBS2.out; rw [h2] at this; exact this)
                rw [HR.out, if_pos h1]
              subst hre
              go_wp2_with fail
              go_quiet (fail)
              go_wp2_with fail
              go_ret2
              exact EdsPost.no (below_drewN hb2 _)
            · have he' : ((yi : Int) == (xi : Int)) = false := by simp; omega
              go_wp2_with fail
              go_quiet (fail)
              go_wp2_with fail
              exact ⟨⟨k + 1, by omega, by go_num, Lib.hid (by rw [HDS.out, decide_eq_false he]), below_drewN hb2 _⟩, by simp only [intOf]; omega⟩
          · have hki' : decide ((k : Int) < (i : Int)) = false := by simp; omega
            obtain rfl : k = i := by omega
            go_wp2_with fail
            exact ⟨⟨k + 1, by omega, by go_num, Lib.hid (by rw [HBS2.out]; exact HD.out), hb2⟩, by simp only [intOf]; omega⟩
    · have hlt' : decide ((i : Int) < (n : Int)) = false := by simp; omega
      obtain rfl : i = n := by omega
      have HGOOD := Lib.hid (show edBadTo (ads l) i = false from HG.out)
      have HBO := Lib.hid hb
      clear HG hlt hlt' hi hb
      go_wp2_with fail
      go_loopw [8] (fun i_ wr2 => ∃ j : Nat, j ≤ i ∧ i_ = .int .i64 j ∧ Hid (spErr ((ads l).map (·.s)) = spErr (((ads l).map (·.s)).drop j)) ∧ Below w.heap.size w wr2) (fun i_ _ => i - (intOf i_).toNat)
      case atStart => exact ⟨0, by omega, rfl, Lib.hid rfl, HBO.out⟩
      case round =>
        obtain ⟨j, hj, rfl, HS, hb⟩ := hrel
        by_cases hlt : j < i
        · have hlt' : (j : Int) < (i : Int) := by omega
          obtain ⟨x, hx⟩ : ∃ x, l[j]? = some x := ⟨_, List.getElem?_eq_getElem (by rw [HN.out]; exact hlt)⟩
          obtain ⟨b, o, eA, hbb, hc, hok⟩ := (HH.out.below (hb.mono hB)).get hx
          subst eA
          have ls := loadK_aeSpD hc
          have hgx : ((ads l).map (·.s))[j]? = some x.a.s := by simp [ads_get hx]
          have hds := spErr_dropD hgx
          rw [← HS.out] at hds
          have cc := rSpCheck (c := x.c) x.a.s wr hok.rd hok.len (Nat.le_trans hB hb.size) hok.max
          obtain ⟨ck, hck⟩ : ∃ ck, spChk x.a.s = ck := ⟨_, rfl⟩
          rw [hck] at cc hds
          have HDS := Lib.hid hds
          clear hds hck hx hgx hok hc HS
          go_wp2_with fail
          refine cc.mono ?_
          rintro en w3 ⟨rfl, hb3⟩
          have hb4 := hb.trans (hb3.mono hb.size)
          by_cases h0 : ck = 0
          · subst h0
            go_wp2_with fail
            exact ⟨⟨j + 1, by omega, by go_num, Lib.hid (by rw [HDS.out]; simp), hb4⟩, by simp only [intOf]; omega⟩
          · have h0' : ((ck : Int) != 0) = true := by simp; omega
            have hre : r = ([], ck) := by rw [HR.out, HGOOD.out, if_neg (by simp), HDS.out, if_pos h0, if_pos h0]
            subst hre
            go_wp2_with fail
            go_ret2
            exact EdsPost.no hb4
        · have hlt' : decide ((j : Int) < (i : Int)) = false := by simp; omega
          have hz0 : spErr ((ads l).map (·.s)) = 0 := by rw [HS.out, List.drop_eq_nil_of_le (by rw [List.length_map, ads_len, HN.out]; omega)]; rfl
          have hre : r = ((List.range i).foldl (edRow size (ads l)) [], 0) := by rw [HR.out, HGOOD.out, if_neg (by simp), hz0, if_neg (by simp)]
          have HRE := Lib.hid hre
          clear hre hz0 HS HR HGOOD HBO
          go_wp2_with fail
          clear hlt hlt' hj
          go_loopw [10, 11] (fun out_ i_ wr3 => ∃ (q m c' : Nat) (A' : Option Addr) (out : List Ed), q ≤ i ∧ out_ = .slice A' m c' ∧ i_ = .int .i64 q ∧ m ≤ q * 200 ∧ Hid (out = (List.range q).foldl (edRow size (ads l)) [] ∧ out.length = m ∧ EdFew out) ∧ wr3.ownsRow w.heap.size 47 4 (.slice A' m c') m (eds out) ∧ Below w.heap.size w wr3) (fun _ i_ _ => i - (intOf i_).toNat)
          case atStart => exact ⟨0, 0, 0, none, [], by omega, rfl, rfl, by omega, Lib.hid ⟨rfl, rfl, fun y hy => by cases hy⟩, World.ownsRow_nil _ _ _ _, hb⟩
          case round =>
            obtain ⟨q, m, c', A', out, hq, rfl, rfl, hm, HO, hown, hbq⟩ := hrel
            by_cases hqi : q < i
            · have hqi' : (q : Int) < (i : Int) := by omega
              obtain ⟨x, hx⟩ : ∃ x, l[q]? = some x := ⟨_, List.getElem?_eq_getElem (by rw [HN.out]; exact hqi)⟩
              have HX := Lib.hid hx
              obtain ⟨b, o, eA, -, -, -⟩ := HH.out.get hx
              subst eA
              have HC : Hid (∀ W, Below w.heap.size w W → ∀ (k : Nat) (y : AE), l[k]? = some y → W.cell? ⟨b, o + k * 14 + 2, none⟩ = some (.int .u64 y.a.s.id) ∧ W.cell? ⟨b, o + k * 14 + 4, none⟩ = some (.string y.a.s.service) ∧ W.cell? ⟨b, o + k * 14 + 7, none⟩ = some (.int .i64 y.a.s.start) ∧ W.cell? ⟨b, o + k * 14 + 11, none⟩ = some (.int .u64 y.a.up)) := Lib.hid fun W hW k y hy => by
                obtain ⟨b', o', e', -, hc', -⟩ := (HH.out.below (hW.mono hB)).get hy
                cases e'
                rw [Nat.add_assoc, Nat.add_assoc, Nat.add_assoc, Nat.add_assoc]
                exact ⟨hc' 2 (by omega), hc' 4 (by omega), hc' 7 (by omega), hc' 11 (by omega)⟩
              clear hx
              go_wp2_with fail
              have HOWN := Lib.hid hown
              obtain ⟨wO, hwO⟩ : ∃ wO, wO = wr := ⟨_, rfl⟩
              subst hwO
              go_loopw [10, 12] (fun out_ k_ wr4 => ∃ (k m2 c2 : Nat) (A2 : Option Addr) (out2 : List Ed), k ≤ i ∧ out_ = .slice A2 m2 c2 ∧ k_ = .int .i64 k ∧ m2 ≤ q * 200 + k ∧ Hid (out2 = (List.range k).foldl (edAt size (ads l) x.a) out ∧ out2.length = m2 ∧ EdFew out2) ∧ wr4.ownsRow w.heap.size 47 4 (.slice A2 m2 c2) m2 (eds out2) ∧ Below w.heap.size w wr4) (fun _ k_ _ => i - (intOf k_).toNat)
              case atStart => exact ⟨0, m, c', A', out, by omega, rfl, rfl, by omega, Lib.hid ⟨rfl, HO.out.2.1, HO.out.2.2⟩, HOWN.out, hbq⟩
              case round =>
                obtain ⟨k, m2, c2, A2, out2, hk, rfl, rfl, hm2, HO2, hown2, hbk⟩ := hrel
                by_cases hki : k < i
                · have hki' : (k : Int) < (i : Int) := by omega
                  obtain ⟨y, hy⟩ : ∃ y, l[k]? = some y := ⟨_, List.getElem?_eq_getElem (by rw [HN.out]; exact hki)⟩
                  obtain ⟨-, cxs, cxt, cxu⟩ := HC.out wr hbk q x HX.out
                  obtain ⟨cyi, cys, -, -⟩ := HC.out wr hbk k y hy
                  have hstp : ∀ o2, o2 = edStep size x.a y.a out2 → o2 = (List.range (k + 1)).foldl (edAt size (ads l) x.a) out := fun o2 ho => by
                    rw [List.range_succ, List.foldl_append, ← HO2.out.1]
                    show o2 = edAt size (ads l) x.a out2 k
                    rw [edAt, ads_get hy]
                    exact ho
                  have HSTP := Lib.hid hstp
                  have HY := Lib.hid hy
                  have HOWN2 := Lib.hid hown2
                  clear hstp hy hown2
                  obtain ⟨up, hup⟩ : ∃ up, x.a.up = up := ⟨_, rfl⟩
                  obtain ⟨yi, hyi⟩ : ∃ yi, y.a.s.id = yi := ⟨_, rfl⟩
                  obtain ⟨xs, hxs⟩ : ∃ xs, x.a.s.service = xs := ⟨_, rfl⟩
                  obtain ⟨ys, hys⟩ : ∃ ys, y.a.s.service = ys := ⟨_, rfl⟩
                  rw [hup] at cxu
                  rw [hyi] at cyi
                  rw [hxs] at cxs
                  rw [hys] at cys
                  have hes : ∀ o2, o2 = (if up ≠ 0 ∧ yi = up ∧ ys ≠ xs then (addE ⟨(bktOf x.a.s.start size).1, ys, xs, 1⟩ out2).1 else out2) → o2 = (List.range (k + 1)).foldl (edAt size (ads l) x.a) out := fun o2 ho => HSTP.out o2 (by rw [edStep, hup, hyi, hxs, hys]; exact ho)
                  have HES := Lib.hid hes
                  have HXS := Lib.hid hxs
                  have HYS := Lib.hid hys
                  clear hes HSTP hup hyi hxs hys
                  by_cases h1 : up = 0
                  · have h1' : ((up : Int) != 0) = false := by simp; omega
                    go_wp2_with fail
                    go_quiet (fail)
                    go_wp2_with fail
                    have hbz := below_drewN (Below.refl wr.heap.size wr) nq
                    exact ⟨⟨k + 1, m2, c2, A2, out2, by omega, rfl, by go_num, by omega, Lib.hid ⟨HES.out _ (by rw [if_neg (fun h => h.1 h1)]), HO2.out.2.1, HO2.out.2.2⟩, ((App.refl HOWN2.out).later hbz).own, hbk.trans (hbz.mono hbk.size)⟩, by simp only [intOf]; omega⟩
                  have h1' : ((up : Int) != 0) = true := by simp; omega
                  by_cases h2 : yi = up
                  · have h2' : ((yi : Int) == (up : Int)) = true := by simp; omega
                    by_cases h3 : ys = xs
                    · subst h3
                      go_wp2_with fail
                      go_quiet (fail)
                      go_wp2_with fail
                      have hbz := below_drewN (Below.refl wr.heap.size wr) nq
                      exact ⟨⟨k + 1, m2, c2, A2, out2, by omega, rfl, by go_num, by omega, Lib.hid ⟨HES.out _ (by rw [if_neg (fun h => h.2.2 rfl)]), HO2.out.2.1, HO2.out.2.2⟩, ((App.refl HOWN2.out).later hbz).own, hbk.trans (hbz.mono hbk.size)⟩, by simp only [intOf]; omega⟩
                    · have h3' : (ys.toList == xs.toList) = false := by rw [strEq_of', decide_eq_false h3]
                      have h3'' : (ys.toList != xs.toList) = true := by rw [bne, h3']; rfl
                      go_wp2_with fail
                      go_quiet (fail)
                      have hbz := below_drewN (Below.refl wr.heap.size wr) nq
                      have hb0 := hbk.trans (hbz.mono hbk.size)
                      obtain ⟨W0, hW0⟩ : ∃ W0, wr.drewN nq = W0 := ⟨_, rfl⟩
                      rw [hW0] at hbz hb0 ⊢
                      clear hW0 cxs cxt cxu cyi cys
                      have cxt := (HC.out W0 hb0 q x HX.out).2.2.1
                      have hstx := HST.out x (List.mem_of_getElem? HX.out)
                      have cb := rDeBucket x.a.s.start size W0 hstx.2 hstx.1 hs0 hs1
                      obtain ⟨bn, hbn⟩ : ∃ bn, (bktOf x.a.s.start size).1 = bn := ⟨_, rfl⟩
                      have hes2 := fun o2 ho => HES.out o2 ho
                      rw [hbn] at cb hes2
                      have HES2 := Lib.hid (hes2 _ rfl)
                      have own0 := ((App.refl HOWN2.out).later hbz).own
                      have hb01 := below_drewN (Below.refl W0.heap.size W0) 1
                      have own1 := ((App.refl own0).later hb01).own
                      have hfew := HO2.out.2.2
                      have cadd := rDeAdd (base := w.heap.size) out2 ⟨bn, ys, xs, 1⟩ W0.drew own1 HO2.out.2.1 (by omega) (by have := hb0.size; exact this) (by show (1 : Nat) < _; omega) (fun z hz => by have := hfew z hz; omega)
                      have haf := addE_few (x := ⟨bn, ys, xs, 1⟩) (by show (1 : Nat) ≤ _; omega) hfew
                      obtain ⟨R2, hR2⟩ : ∃ R2, addE ⟨bn, ys, xs, 1⟩ out2 = R2 := ⟨_, rfl⟩
                      rw [hR2] at cadd haf HES2
                      rw [if_pos ⟨h1, h2, h3⟩] at HES2
                      have HADD := Lib.hid cadd
                      have HAF := Lib.hid haf
                      have HOL := Lib.hid HO2.out.2.1
                      have hcd := HC.out W0.drew (hb0.trans (hb01.mono hb0.size))
                      have cxs : W0.drew.cell? ⟨b, o + q * 14 + 4, none⟩ = some (.string xs) := by rw [(hcd q x HX.out).2.1, HXS.out]
                      have cys : W0.drew.cell? ⟨b, o + k * 14 + 4, none⟩ = some (.string ys) := by rw [(hcd k y HY.out).2.1, HYS.out]
                      clear cadd haf hR2 hbn hes2 hcd hfew own0 own1
                      go_wp2_with fail
                      refine cb.mono ?_
                      rintro en w5 ⟨rfl, hw5⟩
                      rw [hw5]
                      clear hw5 cxt cb
                      go_wp2_with fail
                      go_region_held3 (fun w' => w'.cell? ⟨b, o + q * 14 + 4, none⟩ = some (.string xs) ∧ w'.cell? ⟨b, o + k * 14 + 4, none⟩ = some (.string ys))
                        (first | exact ⟨cxs, cys⟩ | exact ⟨cxs6, cys6⟩)
                        (first
                          | (go_at_call 38
                             refine HADD.out.mono ?_
                             rintro en w6 ⟨A6, c6, n6, rfl, hn6, own6, hb6⟩
                             have hb06 := (hb0.trans (hb01.mono hb0.size)).trans hb6
                             have hcd6 := HC.out w6 hb06
                             have cxs6 : w6.cell? ⟨b, o + q * 14 + 4, none⟩ = some (.string xs) := by rw [(hcd6 q x HX.out).2.1, HXS.out]
                             have cys6 : w6.cell? ⟨b, o + k * 14 + 4, none⟩ = some (.string ys) := by rw [(hcd6 k y HY.out).2.1, HYS.out])
                          | fail)
                      go_wp2_with fail
                      exact ⟨⟨k + 1, n6, c6, A6, R2.1, by omega, rfl, by go_num, by have h1 := HAF.out.2; have h2 := HOL.out; omega, Lib.hid ⟨HES2.out, hn6, HAF.out.1⟩, own6, hb06⟩, by simp only [intOf]; omega⟩
                  · have h2' : ((yi : Int) == (up : Int)) = false := by simp; omega
                    go_wp2_with fail
                    go_quiet (fail)
                    go_wp2_with fail
                    have hbz := below_drewN (Below.refl wr.heap.size wr) nq
                    exact ⟨⟨k + 1, m2, c2, A2, out2, by omega, rfl, by go_num, by omega, Lib.hid ⟨HES.out _ (by rw [if_neg (fun h => h2 h.2.1)]), HO2.out.2.1, HO2.out.2.2⟩, ((App.refl HOWN2.out).later hbz).own, hbk.trans (hbz.mono hbk.size)⟩, by simp only [intOf]; omega⟩
                · have hki' : decide ((k : Int) < (i : Int)) = false := by simp; omega
                  obtain rfl : k = i := by omega
                  go_wp2_with fail
                  exact ⟨⟨q + 1, m2, c2, A2, out2, by omega, rfl, by go_num, by omega, Lib.hid ⟨by rw [List.range_succ, List.foldl_append, ← HO.out.1]; show out2 = edRow size (ads l) out q; rw [edRow, ads_get HX.out, ads_len, HN.out]; exact HO2.out.1, HO2.out.2.1, HO2.out.2.2⟩, hown2, hbk⟩, by simp only [intOf]; omega⟩
            · have hqi' : decide ((q : Int) < (i : Int)) = false := by simp; omega
              obtain rfl : q = i := by omega
              go_wp2_with fail
              go_ret2
              have hre := HRE.out
              rw [← HO.out.1] at hre
              subst hre
              exact ⟨A', c', by show _ = Ending.returned (.tuple #[.slice A' out.length c', .int .i64 0]); rw [HO.out.2.1]; rfl, by show wr.ownsRow _ _ _ (.slice A' out.length c') out.length _; rw [HO.out.2.1]; exact hown, hbq⟩
end Go.Proofs.Ythaiplhjekkooaa
