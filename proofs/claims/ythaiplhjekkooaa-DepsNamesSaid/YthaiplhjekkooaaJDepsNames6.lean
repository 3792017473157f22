/- Texts of the proof of DepsNamesSaid, joined: DeQ DeR DeS DeU DfC Qb DeV DeW. -/
import Derived.Test.YthaiplhjekkooaaJDepsNames1
import Derived.Deep.RegionHeld3
import Derived.Test.YthaiplhjekkooaaJDepsNames3
import Derived.Test.YthaiplhjekkooaaJDepsNames5
import Derived.Deep.QuietTactic
import Derived.BigQuiet
import Derived.BigRegion
import Derived.Test.YthaiplhjekkooaaJDepsNames4
/- deps: Check. -/
namespace Go.Proofs.Ythaiplhjekkooaa
open Go.RowKit
theorem loadEd_shutQ (a : Addr) : loadVar 47 a = loadK 47 a := rfl
attribute [local go_sem ↓] loadEd_shutQ

def edFine (e : Ed) : Bool := decide (e.f ≠ ⟨#[]⟩) && decide (e.t ≠ ⟨#[]⟩) && decide (e.f ≠ e.t) && txtB e.f && txtB e.t && decide (1 ≤ e.n)
def edWrong (l : List Ed) (i : Nat) : Bool := match l[i]? with
  | some x => !edFine x || (match i with | 0 => false | k + 1 => match l[k]? with | some p => decide (0 ≤ ekCmp (edK p) (edK x)) | none => false)
  | none => false
def edWrongTo (l : List Ed) (i : Nat) : Bool := (List.range i).any (edWrong l)
theorem edWrongTo_succ (l : List Ed) (i : Nat) : edWrongTo l (i + 1) = (edWrongTo l i || edWrong l i) := by simp [edWrongTo, List.range_succ]
/-- What Check tells. -/
def edChk (l : List Ed) : Nat := if edWrongTo l l.length = true then 2 else 0
theorem edWrong_fall {l : List Ed} {i : Nat} {x : Ed} (hx : l[i]? = some x) (hf : edFine x = false) : edWrongTo l l.length = true := by
  have hl := (List.getElem?_eq_some_iff.1 hx).1
  have h1 : edWrongTo l (i + 1) = true := by rw [edWrongTo_succ, edWrong, hx]; simp [hf]
  rw [edWrongTo, List.any_eq_true] at h1 ⊢
  obtain ⟨j, hj, hw⟩ := h1
  exact ⟨j, List.mem_range.2 (by have := List.mem_range.1 hj; omega), hw⟩
theorem edWrong_at {l : List Ed} {i : Nat} (h : edWrong l i = true) (hi : i < l.length) : edWrongTo l l.length = true := by
  rw [edWrongTo, List.any_eq_true]
  exact ⟨i, List.mem_range.2 hi, h⟩
set_option maxRecDepth 100000 in
set_option maxHeartbeats 8000000 in
theorem deCheck {A : Option Addr} {n c B : Nat} (l : List Ed) (w : World) (h : RbD w B A l) (hn : l.length = n) (hB : B ≤ w.heap.size) (hnl : n ≤ 9223372036854775807) :
    Calls Try.prog 16 #[.slice A n c] w fun e w' => e = .returned (.int .i64 (edChk l)) ∧ Below w.heap.size w w' := by
  obtain ⟨r, hr⟩ : ∃ r, edChk l = r := ⟨_, rfl⟩
  rw [hr]
  rw [edChk] at hr
  have HR := Lib.hid hr
  have HN := Lib.hid hn
  have HH := Lib.hid h
  clear hr hn h
  go_enter Try.func16, Try.ntmps16
  go_wp2_with fail
  go_loopw [8] (fun i_ wr => ∃ i : Nat, i ≤ n ∧ i_ = .int .i64 i ∧ Hid (edWrongTo l i = false) ∧ Hid (Below w.heap.size w wr)) (fun i_ _ => n - (intOf i_).toNat)
  case atStart => exact ⟨0, by omega, rfl, Lib.hid rfl, Lib.hid (Below.refl _ _)⟩
  case round =>
    obtain ⟨i, hi, rfl, HG, HB⟩ := hrel
    by_cases hlt : i < n
    · have hlt' : (i : Int) < (n : Int) := by omega
      obtain ⟨x, hx⟩ : ∃ x, l[i]? = some x := ⟨_, List.getElem?_eq_getElem (by rw [HN.out]; exact hlt)⟩
      obtain ⟨b1, o1, eA, hbb, hc1⟩ := RbD.at (Rd.below HH.out (HB.out.mono hB)) hx
      subst eA
      have hld := loadK_ed hc1
      have hbA := (Below.refl wr.heap.size wr).alloc (Nat.le_refl _) (.cells (edA x) 47)
      have HB2 := Lib.hid (HB.out.alloc HB.out.size (.cells (edA x) 47))
      have HX := Lib.hid hx
      have HFALL := Lib.hid (fun hf : edFine x = false => show r = 2 by rw [← HR.out, if_pos (edWrong_fall hx hf)])
      clear hc1
      obtain ⟨xb, xf, xt, xn⟩ := x
      have hcond : edFine ⟨xb, xf, xt, xn⟩ = (decide (xf ≠ ⟨#[]⟩) && decide (xt ≠ ⟨#[]⟩) && decide (xf ≠ xt) && txtB xf && txtB xt && decide (1 ≤ xn)) := rfl
      obtain ⟨fb, hfb⟩ : ∃ fb, edFine ⟨xb, xf, xt, xn⟩ = fb := ⟨_, rfl⟩
      rw [hfb] at hcond
      have HFB := Lib.hid hfb
      have HC := Lib.hid hcond
      clear hcond hfb hx
      have e0 : (⟨#[]⟩ : ByteArray).toList = [] := by rw [ByteArray.toList_eq]
      have t1 := fun W => spText W xf
      have t2 := fun W => spText W xt
      obtain ⟨b4, hb4⟩ : ∃ b4, txtB xf = b4 := ⟨_, rfl⟩
      obtain ⟨b5, hb5⟩ : ∃ b5, txtB xt = b5 := ⟨_, rfl⟩
      simp only [hb4] at t1
      simp only [hb5] at t2
      have HCC := Lib.hid (show fb = (decide (xf ≠ ⟨#[]⟩) && decide (xt ≠ ⟨#[]⟩) && decide (xf ≠ xt) && b4 && b5 && decide (1 ≤ xn)) by rw [← hb4, ← hb5]; exact HC.out)
      have HFALL2 := Lib.hid (fun h : fb = false => HFALL.out (HFB.out.trans h))
      clear hb4 hb5 HC HFALL
      by_cases h1 : xf = ⟨#[]⟩
      · have hr2 : r = 2 := HFALL2.out (by rw [HCC.out]; simp [h1])
        subst h1
        have h1' : ((⟨#[]⟩ : ByteArray).toList == []) = true := by rw [e0]; rfl
        have h1'' : ((⟨#[]⟩ : ByteArray).toList != []) = false := by rw [e0]; rfl
        subst hr2
        go_wp2_with fail
        go_quiet (fail)
        go_wp2_with fail
        go_ret
        exact ⟨rfl, below_drewN HB2.out _⟩
      have h1' : (xf.toList == []) = false := by rw [← e0, strEq_of', decide_eq_false h1]
      have h1'' : (xf.toList != []) = true := by rw [bne, h1']; rfl
      by_cases h2 : xt = ⟨#[]⟩
      · have hr2 : r = 2 := HFALL2.out (by rw [HCC.out]; simp [h2])
        subst h2
        have h2' : ((⟨#[]⟩ : ByteArray).toList == []) = true := by rw [e0]; rfl
        have h2'' : ((⟨#[]⟩ : ByteArray).toList != []) = false := by rw [e0]; rfl
        subst hr2
        go_wp2_with fail
        go_quiet (fail)
        go_wp2_with fail
        go_ret
        exact ⟨rfl, below_drewN HB2.out _⟩
      have h2' : (xt.toList == []) = false := by rw [← e0, strEq_of', decide_eq_false h2]
      have h2'' : (xt.toList != []) = true := by rw [bne, h2']; rfl
      by_cases h3 : xf = xt
      · subst h3
        have hr2 : r = 2 := HFALL2.out (by rw [HCC.out]; simp)
        subst hr2
        go_wp2_with fail
        go_quiet (fail)
        go_wp2_with fail
        go_ret
        exact ⟨rfl, below_drewN HB2.out _⟩
      have h3' : (xf.toList == xt.toList) = false := by rw [strEq_of', decide_eq_false h3]
      have h3'' : (xf.toList != xt.toList) = true := by rw [bne, h3']; rfl
      cases b4 with
      | false =>
        have hr2 : r = 2 := HFALL2.out (by rw [HCC.out]; simp)
        subst hr2
        go_wp2_with fail
        refine (t1 _).mono ?_
        rintro en w5 ⟨rfl, hw5⟩
        rw [hw5]
        clear hw5
        go_wp2_with fail
        go_quiet (fail)
        go_wp2_with fail
        go_ret
        exact ⟨rfl, below_drewN HB2.out _⟩
      | true =>
      cases b5 with
      | false =>
        have hr2 : r = 2 := HFALL2.out (by rw [HCC.out]; simp)
        subst hr2
        go_wp2_with fail
        refine (t1 _).mono ?_
        rintro en w5 ⟨rfl, hw5⟩
        rw [hw5]
        clear hw5
        go_wp2_with fail
        refine (t2 _).mono ?_
        rintro en w5 ⟨rfl, hw5⟩
        rw [hw5]
        clear hw5
        go_wp2_with fail
        go_quiet (fail)
        go_wp2_with fail
        go_ret
        exact ⟨rfl, below_drewN HB2.out _⟩
      | true =>
      by_cases h6 : 1 ≤ xn
      · have h6' : decide ((1 : Int) ≤ (xn : Int)) = true := by simp; omega
        have hfb : fb = true := by rw [HCC.out]; simp [h1, h2, h3, h6]
        subst hfb
        go_wp2_with fail
        refine (t1 _).mono ?_
        rintro en w5 ⟨rfl, hw5⟩
        rw [hw5]
        clear hw5
        go_wp2_with fail
        refine (t2 _).mono ?_
        rintro en w5 ⟨rfl, hw5⟩
        rw [hw5]
        clear hw5
        go_wp2_with fail
        rcases Nat.eq_zero_or_pos i with h0 | h0
        · subst h0
          go_quiet (fail)
          go_wp2_with fail
          exact ⟨⟨1, by omega, rfl, Lib.hid (by rw [edWrongTo_succ, HG.out, edWrong, HX.out]; simp [HFB.out]), Lib.hid (below_drewN HB2.out _)⟩, by simp only [intOf]; omega⟩
        · obtain ⟨k, hk⟩ : ∃ k, i = k + 1 := ⟨i - 1, by omega⟩
          obtain ⟨p, hp⟩ : ∃ p, l[k]? = some p := ⟨_, List.getElem?_eq_getElem (by rw [HN.out]; omega)⟩
          obtain ⟨b1', o1', e1, -, hc2⟩ := RbD.at (Rd.below HH.out (HB2.out.mono hB)) hp
          cases e1
          have lp := loadK_ed hc2
          have lp2 : (loadK 47 ⟨b1, o1 + k * 4, none⟩).run Try.prog (wr.alloc (.cells (edA ⟨xb, xf, xt, xn⟩) 47)).drew = .ok (edV p) (wr.alloc (.cells (edA ⟨xb, xf, xt, xn⟩) 47)).drew := loadK_ed (w := (wr.alloc (.cells (edA ⟨xb, xf, xt, xn⟩) 47)).drew) hc2
          have bk := Bk.new wr 47 (edA ⟨xb, xf, xt, xn⟩)
          have lx2 : (loadK 47 ⟨wr.heap.size, 0, none⟩).run Try.prog (wr.alloc (.cells (edA ⟨xb, xf, xt, xn⟩) 47)).drew = .ok (edV ⟨xb, xf, xt, xn⟩) (wr.alloc (.cells (edA ⟨xb, xf, xt, xn⟩) 47)).drew := loadK_edB (w := (wr.alloc (.cells (edA ⟨xb, xf, xt, xn⟩) 47)).drew) bk
          have cc := deCompare p ⟨xb, xf, xt, xn⟩ (wr.alloc (.cells (edA ⟨xb, xf, xt, xn⟩) 47)).drew
          have HB3 := Lib.hid (below_drewN HB2.out 1)
          have h1i : (0 : Int) < (i : Int) := by omega
          have hlt1 : (k : Int) < (n : Int) := by omega
          have h1j : (1 : Int) ≤ (i : Int) := by omega
          have h2i : (i : Int) - 1 < (n : Int) := by omega
          have h3i : (0 : Int) ≤ (i : Int) - 1 := by omega
          have h4i : ((i : Int) - 1).toNat = k := by omega
          have hw : IntKind.i64.wrap ((i : Int) - 1) = (i : Int) - 1 := IntWalk.i64_in _ ⟨by omega, by omega⟩
          have hew : edWrong l i = decide (0 ≤ ekCmp (edK p) (edK ⟨xb, xf, xt, xn⟩)) := by
            rw [edWrong, HX.out]
            subst hk
            simp only [HFB.out, hp, Bool.not_true, Bool.false_or]
          have CLA : Hid (∀ W, Below (wr.alloc (.cells (edA ⟨xb, xf, xt, xn⟩) 47)).drew.heap.size (wr.alloc (.cells (edA ⟨xb, xf, xt, xn⟩) 47)).drew W → (loadK 47 ⟨b1, o1 + k * 4, none⟩).run Try.prog W = .ok (edV p) W ∧ (loadK 47 ⟨wr.heap.size, 0, none⟩).run Try.prog W = .ok (edV ⟨xb, xf, xt, xn⟩) W) := Lib.hid fun W hW =>
            ⟨loadK_ed fun j hj => (hW.cell (Nat.lt_of_lt_of_le hbb (Nat.le_trans hB HB2.out.size))).trans (hc2 j hj), loadK_edB ((show Bk (wr.alloc (.cells (edA ⟨xb, xf, xt, xn⟩) 47)).drew wr.heap.size _ _ from bk).below hW bk.lt)⟩
          obtain ⟨ct, hct⟩ : ∃ ct, ekCmp (edK p) (edK ⟨xb, xf, xt, xn⟩) = ct := ⟨_, rfl⟩
          rw [hct] at cc hew
          have HEW := Lib.hid hew
          have HK := Lib.hid hk
          have HCC2 := Lib.hid cc
          clear hew hk hp hc2 lp bk hct HB2 hld cc
          obtain ⟨W4, hW4⟩ : ∃ W4, wr.alloc (.cells (edA ⟨xb, xf, xt, xn⟩) 47) = W4 := ⟨_, rfl⟩
          obtain ⟨g4, hg4⟩ : ∃ g4, wr.heap.size = g4 := ⟨_, rfl⟩
          rw [hW4] at lp2 lx2 HCC2 HB3 CLA ⊢
          rw [hg4] at lx2 CLA ⊢
          clear hW4 hg4
          by_cases hct0 : 0 ≤ ct
          · have hr2 : r = 2 := by
              rw [← HR.out, if_pos (edWrong_at (i := i) (by rw [HEW.out]; simp [hct0]) (by rw [HN.out]; exact hlt))]
            subst hr2
            have hd : decide ((0 : Int) ≤ ct) = true := by simp [hct0]
            go_wp2_with fail
            go_region_held3 (fun w' => (loadK 47 ⟨b1, o1 + k * 4, none⟩).run Try.prog w' = .ok (edV p) w' ∧ (loadK 47 ⟨g4, 0, none⟩).run Try.prog w' = .ok (edV ⟨xb, xf, xt, xn⟩) w') (go_keep)
              (first
                | (go_at_call 42
                   refine HCC2.out.mono ?_
                   rintro en w3 ⟨rfl, hb3, -⟩
                   obtain ⟨s1, s2⟩ := CLA.out w3 hb3)
                | fail)
            go_wp2_with fail
            go_ret
            exact ⟨rfl, HB3.out.trans (hb3.mono HB3.out.size)⟩
          · have hd : decide ((0 : Int) ≤ ct) = false := by simp; omega
            have hct1 : ct < 0 := by omega
            go_wp2_with fail
            go_region_held3 (fun w' => (loadK 47 ⟨b1, o1 + k * 4, none⟩).run Try.prog w' = .ok (edV p) w' ∧ (loadK 47 ⟨g4, 0, none⟩).run Try.prog w' = .ok (edV ⟨xb, xf, xt, xn⟩) w') (go_keep)
              (first
                | (go_at_call 42
                   refine HCC2.out.mono ?_
                   rintro en w3 ⟨rfl, hb3, -⟩
                   obtain ⟨s1, s2⟩ := CLA.out w3 hb3)
                | fail)
            go_wp2_with fail
            exact ⟨⟨i + 1, by omega, by go_num, Lib.hid (by rw [edWrongTo_succ, HG.out, HEW.out]; simp; omega), Lib.hid (HB3.out.trans (hb3.mono HB3.out.size))⟩, by simp only [intOf]; omega⟩
      · have h6' : decide ((1 : Int) ≤ (xn : Int)) = false := by simp; omega
        have hr2 : r = 2 := HFALL2.out (by rw [HCC.out]; simp [h6])
        subst hr2
        go_wp2_with fail
        refine (t1 _).mono ?_
        rintro en w5 ⟨rfl, hw5⟩
        rw [hw5]
        clear hw5
        go_wp2_with fail
        refine (t2 _).mono ?_
        rintro en w5 ⟨rfl, hw5⟩
        rw [hw5]
        clear hw5
        go_wp2_with fail
        go_quiet (fail)
        go_wp2_with fail
        go_ret
        exact ⟨rfl, below_drewN HB2.out _⟩
    · have hlt' : decide ((i : Int) < (n : Int)) = false := by simp; omega
      obtain rfl : i = n := by omega
      have hr0 : r = 0 := by rw [← HR.out, HN.out, if_neg (by rw [HG.out]; simp)]
      subst hr0
      go_wp2_with fail
      go_ret
      exact ⟨rfl, HB.out⟩
end Go.Proofs.Ythaiplhjekkooaa

/- deps: what adding edges in turn tells; Merge. -/
namespace Go.Proofs.Ythaiplhjekkooaa
open Go.RowKit Go.MapKept
theorem loadEd_shutR (a : Addr) : loadVar 47 a = loadK 47 a := rfl
attribute [local go_sem ↓] loadEd_shutR

/-- What adding edges in turn tells. -/
def addOut (xs : List Ed) : List Ed × Nat := match addAll xs [] with | some o => (o, 0) | none => ([], 3)
theorem addOut_bad {xs : List Ed} (h : ∃ p ∈ mgAll xs [], 4611686018427387904 < p.2) : addOut xs = ([], 3) := by
  have hs := addAll_same (xs := xs) Same.nil (fun e he => by cases he)
  unfold addOut
  cases ha : addAll xs [] with
  | none => rfl
  | some o =>
    rw [ha] at hs
    obtain ⟨p, hp, hlt⟩ := h
    have h1 := hs.2 _ ((hs.1.mem p).1 hp)
    have h2 : (mkEd p).n = p.2 := rfl
    omega
theorem addOut_ok {xs l : List Ed} (h : ∀ p ∈ mgAll xs [], p.2 ≤ 4611686018427387904) (hp : l.Perm ((mgAll xs []).map mkEd)) (hs : SortEd l) : addOut xs = (l, 0) := by
  have hsm := addAll_same (xs := xs) Same.nil (fun e he => by cases he)
  unfold addOut
  cases ha : addAll xs [] with
  | none =>
    rw [ha] at hsm
    obtain ⟨p, hp, hlt⟩ := hsm
    have := h p hp
    omega
  | some o =>
    rw [ha] at hsm
    rw [hsm.1.sorted hp hs]
theorem edChk_two (l : List Ed) : edChk l = 0 ∨ edChk l = 2 := by
  unfold edChk
  split
  · exact .inr rfl
  · exact .inl rfl
/-- What Merge answers. -/
def mergeOut (a b : List Ed) : List Ed × Nat := if edChk a ≠ 0 then ([], 2) else if edChk b ≠ 0 then ([], 2) else addOut (a ++ b)
theorem mergeOut_l {a b : List Ed} (h : edChk a ≠ 0) : mergeOut a b = ([], 2) := if_pos h
theorem mergeOut_r {a b : List Ed} (h : edChk b ≠ 0) : mergeOut a b = ([], 2) := by
  unfold mergeOut
  by_cases h1 : edChk a ≠ 0
  · rw [if_pos h1]
  · rw [if_neg h1, if_pos h]
theorem mergeOut_ok {a b : List Ed} (h : edChk a = 0) (h' : edChk b = 0) : mergeOut a b = addOut (a ++ b) := by
  unfold mergeOut
  rw [if_neg (by simp [h]), if_neg (by simp [h'])]
def catE (a b : List Ed) : Nat → List Ed
  | 0 => []
  | 1 => a
  | _ => a ++ b
def nthE (a b : List Ed) : Nat → List Ed
  | 0 => a
  | _ => b
theorem catE_succ (a b : List Ed) {j : Nat} (h : j < 2) : catE a b (j + 1) = catE a b j ++ nthE a b j := by
  match j, h with
  | 0, _ => simp [catE, nthE]
  | 1, _ => rfl
set_option maxRecDepth 100000 in
set_option maxHeartbeats 8000000 in
theorem deMerge {A1 A2 : Option Addr} {n1 c1 n2 c2 B : Nat} (l1 l2 : List Ed) (w : World) (h1 : RbD w B A1 l1) (h2 : RbD w B A2 l2) (hn1 : l1.length = n1) (hn2 : l2.length = n2) (hB : B ≤ w.heap.size) (hs1 : n1 ≤ 10000) (hs2 : n2 ≤ 10000) :
    Calls Try.prog 20 #[.slice A1 n1 c1, .slice A2 n2 c2] w (EdsPost w (mergeOut l1 l2)) := by
  obtain ⟨r, hr⟩ : ∃ r, mergeOut l1 l2 = r := ⟨_, rfl⟩
  rw [hr]
  have HBAD : Hid (∀ j, j < 2 → edChk (nthE l1 l2 j) ≠ 0 → r = ([], 2)) := Lib.hid fun j hj hne => by
    match j, hj with
    | 0, _ => rw [← hr]; exact mergeOut_l hne
    | 1, _ => rw [← hr]; exact mergeOut_r hne
  have HOK : Hid ((∀ j, j < 2 → edChk (nthE l1 l2 j) = 0) → r = addOut (catE l1 l2 2)) := Lib.hid fun h => by
    rw [← hr]
    exact mergeOut_ok (h 0 (by omega)) (h 1 (by omega))
  have HLL : Hid (∀ j, j < 2 → ∃ Aj nj cj, (#[.slice A1 n1 c1, .slice A2 n2 c2] : Array Value)[j]? = some (.slice Aj nj cj) ∧ (nthE l1 l2 j).length = nj ∧ nj ≤ 10000 ∧ RbD w B Aj (nthE l1 l2 j)) := Lib.hid fun j hj => by
    match j, hj with
    | 0, _ => exact ⟨A1, n1, c1, rfl, hn1, hs1, h1⟩
    | 1, _ => exact ⟨A2, n2, c2, rfl, hn2, hs2, h2⟩
  have HCL : Hid ((catE l1 l2 2).length ≤ 20000) := Lib.hid (by show (l1 ++ l2).length ≤ _; rw [List.length_append]; omega)
  have m0 := Mg.new (kv := ekV) (vv := uvV) w
  have hb0 := (Below.refl w.heap.size w).alloc (Nat.le_refl _) (.map #[] 0)
  obtain ⟨b, hb⟩ : ∃ b, w.heap.size = b := ⟨_, rfl⟩
  obtain ⟨w1, hw1⟩ : ∃ w1, w.alloc (.map #[] 0) = w1 := ⟨_, rfl⟩
  rw [hw1] at m0 hb0
  have hb1 := hb0.alloc hb0.size (.cells #[.slice A1 n1 c1, .slice A2 n2 c2] 25)
  have m1 := m0.alloc (.cells #[.slice A1 n1 c1, .slice A2 n2 c2] 25)
  have bk1 := Bk.new w1 25 #[.slice A1 n1 c1, .slice A2 n2 c2]
  rw [hb] at m1
  have hbg : b < w1.heap.size := by have := m0.lt; rw [hb] at this; exact this
  obtain ⟨g, hg⟩ : ∃ g, w1.heap.size = g := ⟨_, rfl⟩
  have HG2 := Lib.hid (show b + 1 = g by rw [← hg, ← hw1, World.size_alloc, hb])
  obtain ⟨w2, hw2⟩ : ∃ w2, w1.alloc (.cells #[.slice A1 n1 c1, .slice A2 n2 c2] 25) = w2 := ⟨_, rfl⟩
  rw [hw2] at hb1 m1 bk1
  rw [hg] at bk1 hbg
  have HW1 := Lib.hid hw1
  have HW2 := Lib.hid hw2
  have HG := Lib.hid hg
  have HBN := Lib.hid hb
  have HM1 := Lib.hid m1
  have HB1 := Lib.hid hb1
  have HK1 := Lib.hid bk1
  have hwb : w.heap.size ≤ b := by omega
  clear hw1 hw2 hg hb m0 m1 hb0 hb1 bk1 hr h1 h2 hn1 hn2 hs1 hs2
  have hmm := @run_makeMap Try.prog
  go_enter Try.func20, Try.ntmps20
  go_wp2_with fail
  rw [HW1.out, HBN.out, HG2.out, HW2.out]
  go_loopw [19] (fun i_ wr => ∃ j : Nat, j ≤ 2 ∧ i_ = .int .i64 j ∧ Hid (Mg ekV uvV wr b (mgAll (catE l1 l2 j) [])) ∧ Hid (Bk wr g 25 #[.slice A1 n1 c1, .slice A2 n2 c2]) ∧ Hid (Below w.heap.size w wr) ∧ Hid (∀ i, i < j → edChk (nthE l1 l2 i) = 0)) (fun i_ _ => 2 - (intOf i_).toNat)
  case atStart => exact ⟨0, by omega, rfl, HM1, HK1, HB1, Lib.hid (fun i hi => by omega)⟩
  case round =>
    obtain ⟨j, hj, rfl, HM, HK, HB, HC⟩ := hrel
    by_cases hlt : j < 2
    · have hlt' : (j : Int) < 2 := by omega
      obtain ⟨Aj, nj, cj, hcj, hnj, hsj, hrd⟩ := HLL.out j hlt
      have hcell : wr.cell? ⟨g, j, none⟩ = some (.slice Aj nj cj) := by rw [HK.out.cell j]; exact hcj
      have cc := deCheck (c := cj) (nthE l1 l2 j) wr (Rd.below hrd (HB.out.mono hB)) hnj (Nat.le_trans hB HB.out.size) (by omega)
      have hbadj := HBAD.out j hlt
      have hcat := catE_succ l1 l2 hlt
      have HC2 := Lib.hid (fun (h0 : edChk (nthE l1 l2 j) = 0) i (hi : i < j + 1) => show edChk (nthE l1 l2 i) = 0 by
        rcases Nat.lt_succ_iff_lt_or_eq.1 hi with h | rfl
        · exact HC.out i h
        · exact h0)
      obtain ⟨lj, hlj⟩ : ∃ lj, nthE l1 l2 j = lj := ⟨_, rfl⟩
      rw [hlj] at cc hnj hrd hbadj hcat
      have HCAT := Lib.hid hcat
      have HBJ := Lib.hid hbadj
      have HRD := Lib.hid hrd
      have HNJ := Lib.hid hnj
      have HLJ := Lib.hid hlj
      obtain ⟨ck, hck⟩ : ∃ ck, edChk lj = ck := ⟨_, rfl⟩
      rw [hck] at cc
      have HCK := Lib.hid hck
      clear hcat hbadj hrd hnj hcj hlj hck HC
      go_wp2_with fail
      refine cc.mono ?_
      rintro en w5 ⟨rfl, hb5⟩
      have HB5 := Lib.hid (HB.out.trans (hb5.mono HB.out.size))
      have HM5 := Lib.hid (HM.out.bS hb5)
      have HK5 := Lib.hid (HK.out.below hb5 HK.out.lt)
      clear hb5 cc hcell HB HM HK
      by_cases h0 : ck = 0
      · subst h0
        go_wp2_with fail
        go_loopw [30] (fun i_ wr2 => ∃ i : Nat, i ≤ nj ∧ i_ = .int .i64 i ∧ Hid (Mg ekV uvV wr2 b (mgAll (catE l1 l2 j ++ lj.take i) [])) ∧ Hid (Bk wr2 g 25 #[.slice A1 n1 c1, .slice A2 n2 c2]) ∧ Hid (Below w.heap.size w wr2)) (fun i_ _ => nj - (intOf i_).toNat)
        case atStart => exact ⟨0, by omega, rfl, Lib.hid (by rw [List.take_zero, List.append_nil]; exact HM5.out), HK5, HB5⟩
        case round =>
          obtain ⟨i, hi, rfl, HM, HK, HB⟩ := hrel
          by_cases hij : i < nj
          · have hij' : (i : Int) < (nj : Int) := by omega
            obtain ⟨x, hx⟩ : ∃ x, lj[i]? = some x := ⟨_, List.getElem?_eq_getElem (by rw [HNJ.out]; exact hij)⟩
            obtain ⟨ob, oo, eA, hbb, hcl⟩ := RbD.at (Rd.below HRD.out (HB.out.mono hB)) hx
            subst eA
            have hld := loadK_ed hcl
            have HB6 := Lib.hid (HB.out.alloc HB.out.size (.cells (edA x) 47))
            have HM6 := Lib.hid (HM.out.alloc (.cells (edA x) 47))
            have HK6 := Lib.hid (HK.out.alloc (.cells (edA x) 47))
            have HX := Lib.hid hx
            have hst : mgAll (catE l1 l2 j ++ lj.take (i + 1)) [] = addK (edK x) x.n (mgAll (catE l1 l2 j ++ lj.take i) []) := by
              rw [take_snoc hx, ← List.append_assoc, mgAll_snoc]
            have HST := Lib.hid hst
            clear hx hcl hst HB HM HK
            go_wp2_with fail
            refine (deAdd ⟨x.b, x.f, x.t⟩ x.n _ HM6.out).mono ?_
            rintro en w9 ⟨rfl, hE9, hg9, hs9⟩
            go_wp2_with fail
            exact ⟨⟨i + 1, by omega, by go_num, Lib.hid (by rw [HST.out]; exact hE9), Lib.hid ((hg9.block g (HK6.out.lt) (fun e => by have := Option.some.inj e; omega)).trans HK6.out), Lib.hid (HB6.out.trans (below_grownJ hg9 HB6.out.size (fun k hk => by have := Option.some.inj hk; omega)))⟩, by simp only [intOf]; omega⟩
          · have hij' : decide ((i : Int) < (nj : Int)) = false := by simp; omega
            obtain rfl : i = nj := by omega
            have hm := HM.out
            rw [List.take_of_length_le (by rw [HNJ.out]; exact Nat.le_refl _), ← HCAT.out] at hm
            have HMM := Lib.hid hm
            clear hm HM
            go_wp2_with fail
            exact ⟨⟨j + 1, by omega, by go_num, HMM, HK, HB, Lib.hid (HC2.out (by rw [HLJ.out]; exact HCK.out))⟩, by simp only [intOf]; omega⟩
      · have h0' : ((ck : Int) != 0) = true := by simp; omega
        have hre : r = ([], ck) := by
          rcases edChk_two lj with h | h
          · exact absurd (HCK.out.symm.trans h) h0
          · rw [HCK.out] at h
            rw [h]
            exact HBJ.out (by rw [HCK.out]; exact h0)
        subst hre
        go_wp2_with fail
        go_ret2
        exact EdsPost.no HB5.out
    · have hlt' : decide ((j : Int) < 2) = false := by simp; omega
      obtain rfl : j = 2 := by omega
      have hro := HOK.out HC.out
      have HRO := Lib.hid hro
      have hll : (mgAll (catE l1 l2 2) []).length ≤ 20000 := by
        have h1 := mgAll_len (catE l1 l2 2) []
        have h2 := HCL.out
        simp at h1
        omega
      have hli := deList wr HM.out (by omega)
      clear hro hll HM HC
      obtain ⟨xs, hxs⟩ : ∃ xs, catE l1 l2 2 = xs := ⟨_, rfl⟩
      rw [hxs] at HRO hli
      clear hxs hlt hlt'
      go_wp2_with fail
      refine hli.mono ?_
      rintro en w8 (⟨hbad, rfl, hb8⟩ | ⟨hok, A8, c8, n8, out, hperm, hsort, hlen8, rfl, hown, hb8⟩)
      · have hre : r = ([], 3) := by rw [HRO.out]; exact addOut_bad hbad
        subst hre
        go_wp2_with fail
        go_ret2
        exact EdsPost.no (HB.out.trans (hb8.mono HB.out.size))
      · have hre : r = (out, 0) := by rw [HRO.out]; exact addOut_ok hok hperm hsort
        subst hre
        go_wp2_with fail
        go_ret2
        subst hlen8
        exact ⟨A8, c8, rfl, own_baseJ hown HB.out.size, HB.out.trans (hb8.mono HB.out.size)⟩
end Go.Proofs.Ythaiplhjekkooaa

/- deps: Between. -/
namespace Go.Proofs.Ythaiplhjekkooaa
open Go.RowKit Go.MapKept
theorem loadEd_shutS (a : Addr) : loadVar 47 a = loadK 47 a := rfl
attribute [local go_sem ↓] loadEd_shutS

/-- An edge over some buckets. -/
def betE (p q : Nat) (x : Ed) : Option Ed := if p ≤ x.b ∧ x.b ≤ q then some ⟨0, x.f, x.t, x.n⟩ else none
/-- What Between answers. -/
def betOut (l : List Ed) (p q : Nat) : List Ed × Nat := if edChk l ≠ 0 then ([], 2) else addOut (l.filterMap (betE p q))
set_option maxRecDepth 100000 in
set_option maxHeartbeats 8000000 in
theorem deBetween {A : Option Addr} {n c B : Nat} (l : List Ed) (p q : Nat) (w : World) (h : RbD w B A l) (hn : l.length = n) (hB : B ≤ w.heap.size) (hs : n ≤ 10000) :
    Calls Try.prog 21 #[.slice A n c, .int .u64 p, .int .u64 q] w (EdsPost w (betOut l p q)) := by
  have cc := deCheck (c := c) l w h hn hB (by omega)
  obtain ⟨r, hr⟩ : ∃ r, betOut l p q = r := ⟨_, rfl⟩
  rw [hr]
  rw [betOut] at hr
  have h2 := edChk_two l
  obtain ⟨ck, hck⟩ : ∃ ck, edChk l = ck := ⟨_, rfl⟩
  rw [hck] at cc hr h2
  have HR := Lib.hid hr
  have HN := Lib.hid hn
  have HH := Lib.hid h
  clear hr hn h hck
  have hmm := @run_makeMap Try.prog
  go_enter Try.func21, Try.ntmps21
  go_wp2_with fail
  refine cc.mono ?_
  rintro en w5 ⟨rfl, hb5⟩
  by_cases h0 : ck = 0
  · subst h0
    have HRO := Lib.hid (show addOut (l.filterMap (betE p q)) = r by rw [← HR.out, if_neg (by simp)])
    have m0 := Mg.new (kv := ekV) (vv := uvV) w5
    have hb0 := hb5.alloc hb5.size (.map #[] 0)
    obtain ⟨b, hb⟩ : ∃ b, w5.heap.size = b := ⟨_, rfl⟩
    have hwb : w.heap.size ≤ b := by rw [← hb]; exact hb5.size
    obtain ⟨w1, hw1⟩ : ∃ w1, w5.alloc (.map #[] 0) = w1 := ⟨_, rfl⟩
    rw [hw1] at m0 hb0
    rw [hb] at m0
    have HW1 := Lib.hid hw1
    have HBN := Lib.hid hb
    have HM0 := Lib.hid m0
    have HB0 := Lib.hid hb0
    clear hw1 hb m0 hb0 HR h2 cc hb5
    go_wp2_with fail
    rw [HW1.out, HBN.out]
    go_loopw [22] (fun i_ wr => ∃ i : Nat, i ≤ n ∧ i_ = .int .i64 i ∧ Hid (Mg ekV uvV wr b (mgAll ((l.take i).filterMap (betE p q)) [])) ∧ Hid (Below w.heap.size w wr)) (fun i_ _ => n - (intOf i_).toNat)
    case atStart => exact ⟨0, by omega, rfl, HM0, HB0⟩
    case round =>
      obtain ⟨i, hi, rfl, HM, HB⟩ := hrel
      by_cases hij : i < n
      · have hij' : (i : Int) < (n : Int) := by omega
        obtain ⟨x, hx⟩ : ∃ x, l[i]? = some x := ⟨_, List.getElem?_eq_getElem (by rw [HN.out]; exact hij)⟩
        obtain ⟨ob, oo, eA, hbb, hcl⟩ := RbD.at (Rd.below HH.out (HB.out.mono hB)) hx
        subst eA
        have hld := loadK_ed hcl
        have HB6 := Lib.hid (HB.out.alloc HB.out.size (.cells (edA x) 47))
        have HM6 := Lib.hid (HM.out.alloc (.cells (edA x) 47))
        have hst : ∀ o, betE p q x = o → mgAll ((l.take (i + 1)).filterMap (betE p q)) [] = match o with | some e => addK (edK e) e.n (mgAll ((l.take i).filterMap (betE p q)) []) | none => mgAll ((l.take i).filterMap (betE p q)) [] := fun o ho => by
          rw [take_snoc hx, List.filterMap_append]
          cases o with
          | none => rw [show [x].filterMap (betE p q) = [] by simp [ho], List.append_nil]
          | some e => rw [show [x].filterMap (betE p q) = [e] by simp [ho], mgAll_snoc]
        have HST := Lib.hid hst
        clear hx hcl hst HB HM
        by_cases h1 : p ≤ x.b
        · have h1' : (p : Int) ≤ (x.b : Int) := by omega
          by_cases h2 : x.b ≤ q
          · have h2' : (x.b : Int) ≤ (q : Int) := by omega
            have HS2 := Lib.hid (HST.out (some ⟨0, x.f, x.t, x.n⟩) (by rw [betE, if_pos ⟨h1, h2⟩]))
            go_wp2_with fail
            refine (deAdd ⟨0, x.f, x.t⟩ x.n _ HM6.out).mono ?_
            rintro en w9 ⟨rfl, hE9, hg9, hs9⟩
            go_wp2_with fail
            exact ⟨⟨i + 1, by omega, by go_num, Lib.hid (by rw [HS2.out]; exact hE9), Lib.hid (HB6.out.trans (below_grownJ hg9 HB6.out.size (fun k hk => by have := Option.some.inj hk; omega)))⟩, by simp only [intOf]; omega⟩
          · have h2' : decide ((x.b : Int) ≤ (q : Int)) = false := by simp; omega
            have HS2 := Lib.hid (HST.out none (by rw [betE, if_neg (fun h => h2 h.2)]))
            go_wp2_with fail
            exact ⟨⟨i + 1, by omega, by go_num, Lib.hid (by rw [HS2.out]; exact HM6.out), HB6⟩, by simp only [intOf]; omega⟩
        · have h1' : decide ((p : Int) ≤ (x.b : Int)) = false := by simp; omega
          have HS2 := Lib.hid (HST.out none (by rw [betE, if_neg (fun h => h1 h.1)]))
          go_wp2_with fail
          exact ⟨⟨i + 1, by omega, by go_num, Lib.hid (by rw [HS2.out]; exact HM6.out), HB6⟩, by simp only [intOf]; omega⟩
      · have hij' : decide ((i : Int) < (n : Int)) = false := by simp; omega
        obtain rfl : i = n := by omega
        have hm := HM.out
        rw [List.take_of_length_le (by rw [HN.out]; exact Nat.le_refl _)] at hm
        have hfl : (l.filterMap (betE p q)).length ≤ 10000 := Nat.le_trans (List.length_filterMap_le _ _) (by rw [HN.out]; omega)
        obtain ⟨xs, hxs⟩ : ∃ xs, l.filterMap (betE p q) = xs := ⟨_, rfl⟩
        rw [hxs] at HRO hm hfl
        have hll := mgAll_len xs []
        simp at hll
        have hli := deList wr hm (by omega)
        clear hm hll hfl hxs hij hij' HM
        go_wp2_with fail
        refine hli.mono ?_
        rintro en w8 (⟨hbad, rfl, hb8⟩ | ⟨hok, A8, c8, n8, out, hperm, hsort, hlen8, rfl, hown, hb8⟩)
        · have hre : r = ([], 3) := by rw [← HRO.out]; exact addOut_bad hbad
          subst hre
          go_wp2_with fail
          go_ret2
          exact EdsPost.no (HB.out.trans (hb8.mono HB.out.size))
        · have hre : r = (out, 0) := by rw [← HRO.out]; exact addOut_ok hok hperm hsort
          subst hre
          go_wp2_with fail
          go_ret2
          subst hlen8
          exact ⟨A8, c8, rfl, own_baseJ hown HB.out.size, HB.out.trans (hb8.mono HB.out.size)⟩
  · have h0' : ((ck : Int) != 0) = true := by simp; omega
    have hre : r = ([], ck) := by
      rcases h2 with h | h
      · exact absurd h h0
      · rw [← HR.out, if_pos h0, h]
    subst hre
    go_wp2_with fail
    go_ret2
    exact EdsPost.no hb5
end Go.Proofs.Ythaiplhjekkooaa

/- Edges merged, plain: sums over keys; what Merge and Between of edges that may be tell. -/
namespace Go.Proofs.Ythaiplhjekkooaa

/-- The calls at the keys that P takes. -/
def totP (P : Ek → Bool) : List Ed → Nat
  | [] => 0
  | e :: l => (if P (edK e) = true then e.n else 0) + totP P l
abbrev tot (l : List Ed) : Nat := totP (fun _ => true) l
theorem totP_append (P : Ek → Bool) : ∀ (a b : List Ed), totP P (a ++ b) = totP P a + totP P b
  | [], b => by simp [totP]
  | e :: a, b => by rw [List.cons_append, totP, totP, totP_append P a b, Nat.add_assoc]
theorem totP_le (P : Ek → Bool) : ∀ (l : List Ed), totP P l ≤ tot l
  | [] => Nat.le_refl _
  | e :: l => by
    have := totP_le P l
    show (if P (edK e) = true then e.n else 0) + totP P l ≤ (if true = true then e.n else 0) + tot l
    rw [if_pos rfl]
    split <;> omega
theorem edNum_le : ∀ (l : List Ed) (k : Ek), edNum l k ≤ tot l
  | [], k => by simp [edNum]
  | e :: l, k => by
    have := edNum_le l k
    rw [edNum_cons]
    show _ ≤ (if true = true then e.n else 0) + tot l
    rw [if_pos rfl]
    split <;> omega
theorem totP_add {P : Ek → Bool} {x : Ed} : ∀ {l : List Ed}, StrEd l → edNum l (edK x) + x.n ≤ 4611686018427387904 → totP P (addE x l).1 = totP P l + (if P (edK x) = true then x.n else 0)
  | [], _, _ => by
    rw [show (addE x []).1 = [x] from rfl]
    simp [totP]
  | a :: l, hs, hn => by
    have hs2 := (List.pairwise_cons.1 hs).2
    rw [addE_cons]
    by_cases h1 : edLt a x = true
    · rw [if_pos h1]
      have hne := edLt_ne h1
      rw [edNum_cons, if_neg hne] at hn
      have ih := totP_add (P := P) hs2 hn
      show totP P (a :: (addE x l).1) = _
      rw [totP, ih, totP]
      omega
    · rw [if_neg h1]
      by_cases h2 : edLt x a = true
      · rw [if_pos h2]
        show totP P (x :: a :: l) = _
        rw [totP, Nat.add_comm]
      · rw [if_neg h2]
        have hk := edLt_tri (a := a) (b := x) (by simpa using h1) (by simpa using h2)
        rw [edNum_cons, if_pos hk] at hn
        rw [if_neg (by omega)]
        show totP P (⟨a.b, a.f, a.t, a.n + x.n⟩ :: l) = _
        rw [totP, totP, show edK ⟨a.b, a.f, a.t, a.n + x.n⟩ = edK a from rfl, hk]
        show (if P (edK x) = true then a.n + x.n else 0) + _ = _
        split <;> omega
def keys (l : List Ed) : List Ek := l.map edK
theorem addE_keys {x : Ed} {l : List Ed} (hs : StrEd l) (hn : edNum l (edK x) + x.n ≤ 4611686018427387904) (k : Ek) : k ∈ keys (addE x l).1 ↔ k ∈ keys l ∨ k = edK x := by
  unfold keys
  rw [List.mem_map, List.mem_map]
  constructor
  · rintro ⟨e, he, rfl⟩
    rcases (addE_mem hs hn e).1 he with ⟨h1, _⟩ | h1
    · exact .inl ⟨e, h1, rfl⟩
    · exact .inr (by rw [h1]; rfl)
  · intro h
    by_cases hk : k = edK x
    · exact ⟨_, (addE_mem hs hn _).2 (.inr rfl), by rw [hk]; rfl⟩
    · rcases h with ⟨e, he, rfl⟩ | h
      · exact ⟨e, (addE_mem hs hn e).2 (.inl ⟨he, hk⟩), rfl⟩
      · exact absurd h hk
theorem addE_lenU (x : Ed) (l : List Ed) : (addE x l).1.length ≤ l.length + 1 := by
  have h1 : (l.take (addPos x l) ++ x :: l.drop (addPos x l)).length ≤ l.length + 1 := by
    simp only [List.length_append, List.length_cons, List.length_take, List.length_drop]; omega
  unfold addE
  cases hy : l[addPos x l]? with
  | none => exact h1
  | some y =>
    simp only []
    split
    · exact h1
    · split
      · exact Nat.le_succ _
      · rw [List.length_set]; exact Nat.le_succ _
theorem addAll_tot : ∀ {xs out : List Ed}, StrEd out → tot out + tot xs ≤ 4611686018427387904 →
    ∃ o, addAll xs out = some o ∧ StrEd o ∧ (∀ P, totP P o = totP P out + totP P xs) ∧ (∀ k, k ∈ keys o ↔ k ∈ keys out ∨ k ∈ keys xs) ∧ o.length ≤ out.length + xs.length
  | [], out, hs, _ => ⟨out, rfl, hs, fun P => rfl, fun k => by simp [keys], Nat.le_refl _⟩
  | x :: xs, out, hs, ht => by
    have htx : tot (x :: xs) = x.n + tot xs := by show (if true = true then x.n else 0) + tot xs = _; rw [if_pos rfl]
    have hn : edNum out (edK x) + x.n ≤ 4611686018427387904 := by have := edNum_le out (edK x); omega
    have hadd := fun P => totP_add (P := P) hs hn
    have h2 : tot (addE x out).1 + tot xs ≤ 4611686018427387904 := by
      have := hadd (fun _ => true)
      rw [if_pos rfl] at this
      have e : tot (addE x out).1 = tot out + x.n := this
      omega
    obtain ⟨o, h3, h4, h5, h6, h7⟩ := addAll_tot (xs := xs) (addE_str hs hn) h2
    refine ⟨o, by rw [addAll, addE_flag hs, if_pos (decide_eq_true hn), h3], h4, fun P => ?_, fun k => ?_, ?_⟩
    · rw [h5, hadd, totP]
      omega
    · rw [h6, addE_keys hs hn]
      unfold keys
      rw [List.map_cons, List.mem_cons]
      constructor
      · rintro ((h | h) | h)
        · exact .inl h
        · exact .inr (.inl h)
        · exact .inr (.inr h)
      · rintro (h | h | h)
        · exact .inl (.inl h)
        · exact .inl (.inr h)
        · exact .inr h
    · have := addE_lenU x out
      rw [List.length_cons]
      omega
theorem totP_key : ∀ {l : List Ed}, StrEd l → ∀ k, totP (fun j => decide (j = k)) l = edNum l k
  | [], _, k => by simp [totP, edNum]
  | a :: l, hs, k => by
    obtain ⟨h1, h2⟩ := List.pairwise_cons.1 hs
    rw [totP, edNum_cons, totP_key h2]
    by_cases hk : edK a = k
    · rw [if_pos (decide_eq_true hk), if_pos hk]
      have : edNum l k = 0 := edNum_none fun e he h => edLt_ne (h1 e he) (hk.trans h.symm)
      omega
    · rw [if_neg (by simp [hk]), if_neg hk]
      omega
/-- Sorted lists of the same keys and sums are the same. -/
theorem same_of {l m : List Ed} (hl : StrEd l) (hm : StrEd m) (hk : ∀ k, k ∈ keys l ↔ k ∈ keys m) (ht : ∀ P, totP P l = totP P m) : l = m := by
  have hin : ∀ {l m : List Ed}, StrEd l → StrEd m → (∀ k, k ∈ keys l → k ∈ keys m) → (∀ P, totP P l = totP P m) → ∀ e ∈ l, e ∈ m := by
    intro l m hl hm hk ht e he
    obtain ⟨e', he', hke⟩ := List.mem_map.1 (hk (edK e) (List.mem_map.2 ⟨e, he, rfl⟩))
    have h1 := edNum_mem hl he
    have h2 := edNum_mem hm he'
    have h3 := ht (fun j => decide (j = edK e))
    rw [totP_key hl, totP_key hm] at h3
    rw [hke] at h2
    have h4 : e.n = e'.n := by omega
    rw [← mk_un e, h4, ← hke, mk_un]
    exact he'
  have hnl : l.Nodup := hl.imp fun h e => by rw [e, edLt_irr] at h; cases h
  have hnm : m.Nodup := hm.imp fun h e => by rw [e, edLt_irr] at h; cases h
  have hperm : l.Perm m := (List.perm_ext_iff_of_nodup hnl hnm).2 fun e => ⟨hin hl hm (fun k => (hk k).1) ht e, hin hm hl (fun k => (hk k).2) (fun P => (ht P).symm) e⟩
  exact List.Perm.eq_of_pairwise (le := fun a b => edLt a b = true) (fun a b _ _ h1 h2 => by
    have := edLt_tr h1 h2
    rw [edLt_irr] at this
    cases this) hl hm hperm
theorem edWrong_iff {l : List Ed} {i : Nat} {x : Ed} (hx : l[i]? = some x) : edWrong l i = false ↔ edFine x = true ∧ ∀ k p, i = k + 1 → l[k]? = some p → edLt p x = true := by
  rw [edWrong, hx]
  simp only [Bool.or_eq_false_iff, Bool.not_eq_false']
  refine and_congr Iff.rfl ?_
  cases i with
  | zero => exact ⟨fun _ k p h => (by cases h), fun _ => rfl⟩
  | succ k =>
    simp only []
    constructor
    · intro h k' p hk hp
      cases hk
      rw [hp] at h
      simp only [decide_eq_false_iff_not] at h
      rw [edLt_cmp]
      have := ekCmp_cmp.rng (edK p) (edK x)
      omega
    · intro h
      cases hp : l[k]? with
      | none => rfl
      | some p =>
        have := (edLt_cmp p x).1 (h k p rfl hp)
        simp only [decide_eq_false_iff_not]
        omega
/-- Edges that may be. -/
theorem edChk_iff (l : List Ed) : edChk l = 0 ↔ (∀ e ∈ l, edFine e = true) ∧ StrEd l := by
  have h0 : edChk l = 0 ↔ ∀ i, i < l.length → edWrong l i = false := by
    unfold edChk
    constructor
    · intro h i hi
      cases hw : edWrong l i with
      | false => rfl
      | true => rw [if_pos (edWrong_at hw hi)] at h; cases h
    · intro h
      rw [if_neg]
      intro hw
      rw [edWrongTo, List.any_eq_true] at hw
      obtain ⟨j, hj, hw⟩ := hw
      rw [h j (List.mem_range.1 hj)] at hw
      cases hw
  rw [h0]
  constructor
  · intro h
    refine ⟨fun e he => ?_, ?_⟩
    · obtain ⟨i, hi, hx⟩ := List.getElem_of_mem he
      exact ((edWrong_iff (by rw [List.getElem?_eq_getElem hi, hx])).1 (h i hi)).1
    · have hcons : ∀ k (hk : k + 1 < l.length), edLt (l[k]'(by omega)) l[k + 1] = true := fun k hk =>
        ((edWrong_iff (List.getElem?_eq_getElem hk)).1 (h (k + 1) hk)).2 k _ rfl (List.getElem?_eq_getElem (by omega))
      have hall : ∀ d i (hi : i + d + 1 < l.length), edLt (l[i]'(by omega)) l[i + d + 1] = true := by
        intro d
        induction d with
        | zero => exact fun i hi => hcons i hi
        | succ d ih => exact fun i hi => edLt_tr (ih i (by omega)) (hcons (i + d + 1) hi)
      refine List.pairwise_iff_getElem.2 fun i j hi hj hij => ?_
      obtain ⟨d, rfl⟩ : ∃ d, j = i + d + 1 := ⟨j - i - 1, by omega⟩
      exact hall d i hj
  · rintro ⟨hf, hs⟩ i hi
    refine (edWrong_iff (List.getElem?_eq_getElem hi)).2 ⟨hf _ (List.getElem_mem hi), fun k p hk hp => ?_⟩
    subst hk
    obtain ⟨hk', rfl⟩ := List.getElem?_eq_some_iff.1 hp
    exact List.pairwise_iff_getElem.1 hs k (k + 1) hk' hi (by omega)
theorem edFine_key {x e : Ed} (hx : edFine x = true) (hf : e.f = x.f) (ht : e.t = x.t) (hn : 1 ≤ e.n) : edFine e = true := by
  unfold edFine at hx ⊢
  rw [hf, ht]
  simp only [Bool.and_eq_true, decide_eq_true_eq] at hx ⊢
  exact ⟨hx.1, hn⟩
theorem fine_pos {x : Ed} (hx : edFine x = true) : 1 ≤ x.n := by
  unfold edFine at hx
  simp only [Bool.and_eq_true, decide_eq_true_eq] at hx
  exact hx.2
theorem tot_mem {P : Ek → Bool} : ∀ {l : List Ed} {e : Ed}, e ∈ l → P (edK e) = true → e.n ≤ totP P l
  | [], e, h, _ => by cases h
  | a :: l, e, h, hP => by
    rw [totP]
    rcases List.mem_cons.1 h with rfl | h
    · rw [if_pos hP]; omega
    · have := tot_mem h hP
      omega
/-- All that addOut of fine edges of few calls tells. -/
theorem addOut_fine {xs : List Ed} (hf : ∀ e ∈ xs, edFine e = true) (ht : tot xs ≤ 4611686018427387904) :
    ∃ o, addOut xs = (o, 0) ∧ edChk o = 0 ∧ StrEd o ∧ (∀ P, totP P o = totP P xs) ∧ (∀ k, k ∈ keys o ↔ k ∈ keys xs) ∧ o.length ≤ xs.length := by
  obtain ⟨o, h1, h2, h3, h4, h5⟩ := addAll_tot (xs := xs) (out := []) List.Pairwise.nil (by simpa [totP] using ht)
  have h3' : ∀ P, totP P o = totP P xs := fun P => by rw [h3]; simp [totP]
  have h4' : ∀ k, k ∈ keys o ↔ k ∈ keys xs := fun k => by rw [h4]; simp [keys]
  refine ⟨o, by rw [addOut, h1], (edChk_iff o).2 ⟨fun e he => ?_, h2⟩, h2, h3', h4', by simpa using h5⟩
  obtain ⟨x, hx, hk⟩ := List.mem_map.1 ((h4' (edK e)).1 (List.mem_map.2 ⟨e, he, rfl⟩))
  have hfx := hf x hx
  refine edFine_key hfx (congrArg Ek.f hk).symm (congrArg Ek.t hk).symm ?_
  have e1 := edNum_mem h2 he
  have e2 := totP_key h2 (edK e)
  rw [h3'] at e2
  have e3 := tot_mem (P := fun j => decide (j = edK e)) hx (by rw [hk]; simp)
  have e4 := fine_pos hfx
  omega
/-- Edges that may be, of T calls at most. -/
structure Okl (l : List Ed) (T : Nat) : Prop where
  chk : edChk l = 0
  few : tot l ≤ T
theorem Okl.fine {l : List Ed} {T : Nat} (h : Okl l T) : ∀ e ∈ l, edFine e = true := ((edChk_iff l).1 h.chk).1
theorem Okl.str {l : List Ed} {T : Nat} (h : Okl l T) : StrEd l := ((edChk_iff l).1 h.chk).2
theorem merge_ok {a b : List Ed} {S T : Nat} (ha : Okl a S) (hb : Okl b T) (hst : S + T ≤ 4611686018427387904) :
    ∃ x, mergeOut a b = (x, 0) ∧ Okl x (S + T) ∧ (∀ P, totP P x = totP P a + totP P b) ∧ (∀ k, k ∈ keys x ↔ k ∈ keys a ∨ k ∈ keys b) ∧ x.length ≤ a.length + b.length := by
  have h1 := ha.few
  have h2 := hb.few
  obtain ⟨x, e1, e2, e3, e4, e5, e6⟩ := addOut_fine (xs := a ++ b) (fun e he => (List.mem_append.1 he).elim (ha.fine e) (hb.fine e)) (by rw [tot, totP_append]; simp only [tot] at h1 h2; omega)
  refine ⟨x, by rw [mergeOut_ok ha.chk hb.chk, e1], ⟨e2, by rw [tot, e4, totP_append]; simp only [tot] at h1 h2; omega⟩, fun P => by rw [e4, totP_append], fun k => by rw [e5]; simp [keys], by simpa using e6⟩
def inB (p q : Nat) (k : Ek) : Bool := decide (p ≤ k.b) && decide (k.b ≤ q)
theorem tot_bet (p q : Nat) : ∀ (l : List Ed), tot (l.filterMap (betE p q)) = totP (inB p q) l
  | [] => rfl
  | e :: l => by
    have ih := tot_bet p q l
    by_cases h : p ≤ e.b ∧ e.b ≤ q
    · have hb : inB p q (edK e) = true := by simp [inB, edK, h]
      rw [List.filterMap_cons, betE, if_pos h]
      show (if true = true then e.n else 0) + tot (l.filterMap (betE p q)) = (if inB p q (edK e) = true then e.n else 0) + totP (inB p q) l
      rw [ih, if_pos rfl, if_pos hb]
    · have hb : ¬ inB p q (edK e) = true := by
        intro hc
        rw [inB, Bool.and_eq_true, decide_eq_true_eq, decide_eq_true_eq] at hc
        exact h hc
      rw [List.filterMap_cons, betE, if_neg h]
      show tot (l.filterMap (betE p q)) = (if inB p q (edK e) = true then e.n else 0) + totP (inB p q) l
      rw [ih, if_neg hb, Nat.zero_add]
theorem bet_ok {l : List Ed} {T p q : Nat} (h : Okl l T) (hT : T ≤ 4611686018427387904) : ∃ m, betOut l p q = (m, 0) ∧ Okl m T ∧ tot m = totP (inB p q) l ∧ m.length ≤ l.length := by
  have hfm : ∀ e ∈ l.filterMap (betE p q), edFine e = true := fun e he => by
    obtain ⟨x, hx, hb⟩ := List.mem_filterMap.1 he
    unfold betE at hb
    split at hb
    · cases hb
      exact edFine_key (h.fine x hx) rfl rfl (fine_pos (h.fine x hx))
    · cases hb
  have h1 := tot_bet p q l
  have h2 := totP_le (inB p q) l
  have h3 := h.few
  obtain ⟨m, e1, e2, e3, e4, e5, e6⟩ := addOut_fine hfm (by rw [h1]; omega)
  refine ⟨m, by rw [betOut, if_neg (by simp [h.chk]), e1], ⟨e2, ?_⟩, ?_, Nat.le_trans e6 (List.length_filterMap_le _ _)⟩
  · have := e4 (fun _ => true)
    show totP _ m ≤ T
    rw [this]
    show tot _ ≤ T
    rw [h1]
    omega
  · rw [← h1]
    exact e4 _
theorem merge_comm {a b : List Ed} {S T : Nat} (ha : Okl a S) (hb : Okl b T) (hst : S + T ≤ 4611686018427387904) : mergeOut b a = mergeOut a b := by
  obtain ⟨x, e1, e2, e3, e4, -⟩ := merge_ok ha hb hst
  obtain ⟨y, f1, f2, f3, f4, -⟩ := merge_ok hb ha (by omega)
  rw [e1, f1, same_of f2.str e2.str (fun k => by rw [e4, f4]; exact or_comm) (fun P => by rw [e3, f3, Nat.add_comm])]
theorem merge_assoc {a b c x z : List Ed} {S T U : Nat} (ha : Okl a S) (hb : Okl b T) (hc : Okl c U) (hst : S + T + U ≤ 4611686018427387904) (hx : mergeOut a b = (x, 0)) (hz : mergeOut b c = (z, 0)) : mergeOut a z = mergeOut x c := by
  obtain ⟨x', e1, e2, e3, e4, -⟩ := merge_ok ha hb (by omega)
  obtain ⟨z', f1, f2, f3, f4, -⟩ := merge_ok hb hc (by omega)
  rw [hx] at e1
  rw [hz] at f1
  cases e1
  cases f1
  obtain ⟨p, g1, g2, g3, g4, -⟩ := merge_ok e2 hc (by omega)
  obtain ⟨q, h1, h2, h3, h4, -⟩ := merge_ok ha f2 (by omega)
  rw [g1, h1, same_of h2.str g2.str (fun k => by rw [h4, f4, g4, e4]; exact or_assoc.symm) (fun P => by rw [h3, f3, g3, e3, Nat.add_assoc])]
end Go.Proofs.Ythaiplhjekkooaa

/- deps: Calls. -/
namespace Go.Proofs.Ythaiplhjekkooaa
open Go.RowKit Go.MapKept
theorem loadEd_shutC2 (a : Addr) : loadVar 47 a = loadK 47 a := rfl
attribute [local go_sem ↓] loadEd_shutC2
attribute [local go_sem ↓] sliced_s
attribute [local go_sem ↓ high] sliced_s0

/-- What Calls hands back. -/
def CallsPost (w : World) (l : List Ed) (s : ByteArray) (e : Ending) (w' : World) : Prop :=
  edChk l ≠ 0 ∧ e = .returned (.tuple #[.slice none 0 0, .int .i64 2]) ∧ Below w.heap.size w w' ∨
  edChk l = 0 ∧ ∃ A c out, CallsIs l s out ∧ e = .returned (.tuple #[.slice A out.length c, .int .i64 0]) ∧ w'.ownsRow w.heap.size 9 1 (.slice A out.length c) out.length (out.map strV) ∧ Below w.heap.size w w'
def mapN (w : World) (b : Nat) : Nat := match w.heap[b]? with | some (.map es _) => es.size | _ => 0
theorem mapN_set {w : World} {b : Nat} {L : List ByteArray} (h : Mg strV boV w b (setL L)) : mapN w b = L.length := by
  rw [mapN, h.1]
  simp [mgE_length]
theorem mgGet_set {κ : ByteArray} : ∀ (L : List ByteArray), ((mgGet κ (setL L)).map boV).getD (.bool false) = .bool (hasT κ L)
  | [] => rfl
  | y :: L => by
    have ih := mgGet_set (κ := κ) L
    unfold mgGet setL hasT at *
    rw [List.map_cons, List.find?_cons, List.any_cons]
    by_cases h : y = κ
    · simp [h]
    · have e1 : decide (y = κ) = false := decide_eq_false h
      simp only [e1, Bool.false_or]
      exact ih
theorem mgPut_set {κ : ByteArray} {L : List ByteArray} (h : κ ∉ L) : mgPut κ true (setL L) = setL (L ++ [κ]) := by
  rw [mgPut_new (by rw [setL_keys]; exact h)]
  simp [setL]
theorem fine_size {e : Ed} (h : edFine e = true) : e.t.size ≤ 128 := by
  unfold edFine at h
  simp only [Bool.and_eq_true, decide_eq_true_eq] at h
  have := h.1.2
  unfold txtB at this
  simp only [Bool.and_eq_true, decide_eq_true_eq] at this
  exact this.1
set_option maxRecDepth 100000 in
set_option maxHeartbeats 8000000 in
theorem deCalls {A : Option Addr} {n c B : Nat} (l : List Ed) (s : ByteArray) (w : World) (h : RbD w B A l) (hn : l.length = n) (hB : B ≤ w.heap.size) (hs : n ≤ 10000) :
    Calls Try.prog 24 #[.slice A n c, .string s] w (CallsPost w l s) := by
  have cc := deCheck (c := c) l w h hn hB (by omega)
  have h2 := edChk_two l
  obtain ⟨ck, hck⟩ : ∃ ck, edChk l = ck := ⟨_, rfl⟩
  rw [hck] at cc h2
  have HCK := Lib.hid hck
  have HN := Lib.hid hn
  have HH := Lib.hid h
  clear hn h hck
  have hmm := @run_makeMap Try.prog
  go_enter Try.func24, Try.ntmps24
  go_wp2_with fail
  refine cc.mono ?_
  rintro en w5 ⟨rfl, hb5⟩
  by_cases h0 : ck = 0
  · subst h0
    have m0 := (Mg.new (kv := strV) (vv := boV) w5).alloc (.cells #[.string s] 9)
    have hb0 := (hb5.alloc hb5.size (.map #[] 0))
    have hb1 := hb0.alloc hb0.size (.cells #[.string s] 9)
    have q0 := Qu.one (w5.alloc (.map #[] 0)) s (base := w.heap.size) hb0.size
    rw [World.size_alloc] at q0
    obtain ⟨b, hb⟩ : ∃ b, w5.heap.size = b := ⟨_, rfl⟩
    have hwb : w.heap.size ≤ b := by rw [← hb]; exact hb5.size
    obtain ⟨w1, hw1⟩ : ∃ w1, (w5.alloc (.map #[] 0)).alloc (.cells #[.string s] 9) = w1 := ⟨_, rfl⟩
    rw [hw1] at m0 hb1 q0
    rw [hb] at m0 q0
    have HW1 := Lib.hid hw1
    have HBN := Lib.hid hb
    have HM0 := Lib.hid (show Mg strV boV w1 b (setL []) from m0)
    have HB1 := Lib.hid hb1
    have HQ0 := Lib.hid q0
    clear hw1 hb m0 hb0 hb1 q0 h2 cc hb5
    go_wp2_with fail
    rw [HW1.out, HBN.out]
    go_loopw [8] (fun wk_ wr => ∃ (m : Nat) (xs L : List ByteArray), Hid (Qu wr w.heap.size wk_ m xs) ∧ Hid (wk_.ownBlock ≠ some b) ∧ Hid (Mg strV boV wr b (setL L)) ∧ Hid (Below w.heap.size w wr) ∧ Hid (Bfs l s L xs) ∧ xs.length + (n - L.length) ≤ n + 1) (fun wk_ wr => sliceN wk_ + (n - mapN wr b))
    case atStart => exact ⟨1, [s], [], HQ0, Lib.hid (fun e => by have := Option.some.inj e; simp only at this; omega), HM0, HB1, Lib.hid (Bfs.start l s), by simp; omega⟩
    case round =>
      obtain ⟨m, xs, L, HQ, HNE, HM, HB, HI, hpot⟩ := hrel
      have hLn : L.length ≤ n := by rw [← HN.out]; exact Rch.len HI.out.nd HI.out.rch
      cases xs with
      | nil =>
        obtain ⟨g, off, cap, cur, rfl, -, -, -, -, hlen, -⟩ := HQ.out
        obtain rfl : m = 0 := by simpa using hlen.symm
        have ck := deKeys (some b) wr
        have hfull := HI.out.done
        have hsz : ∀ y ∈ L, y.size ≤ maxLen := fun y hy => by
          obtain ⟨e, he, rfl⟩ := List.mem_map.1 (rch_t (hfull.rch y hy))
          have := fine_size (((edChk_iff l).1 HCK.out).1 e he)
          simp only [maxLen]
          omega
        have cs := deSorted wr HM.out hsz (by omega)
        have HF := Lib.hid hfull
        have CK := Lib.hid ck
        have CS := Lib.hid cs
        have HB2 := Lib.hid (HB.out.alloc HB.out.size (.cells #[.map (some b)] 82))
        clear hfull hsz ck cs hlen
        go_wp2_with fail
        refine CK.out.mono ?_
        rintro en w' ⟨rfl, rfl⟩
        go_wp2_with fail
        refine CS.out.mono ?_
        rintro en w7 ⟨A7, c7, out, rfl, hso, hpe, hown, hb7⟩
        go_wp2_with fail
        go_ret2
        exact .inr ⟨HCK.out, A7, c7, out, ⟨hso, L, HF.out, hpe⟩, rfl, own_baseJ hown HB2.out.size, HB2.out.trans (hb7.mono HB2.out.size)⟩
      | cons x xs =>
        obtain ⟨g, off, cap, rfl, hmc, hm1, hcx, hq1, hob⟩ := HQ.out.first
        have hxl := HQ.out.len
        rw [List.length_cons] at hxl
        have hm0' : (0 : Int) < (m : Int) := by omega
        have hm0n : 0 < m := by omega
        have hmd : decide (0 < m) = true := by simp; omega
        have hm1' : (1 : Int) ≤ (m : Int) := by omega
        have hmc' : (m : Int) ≤ (cap : Int) := by omega
        rw [List.length_cons] at hpot
        have hM0 : mapN wr b = L.length := mapN_set HM.out
        obtain ⟨v1, hv1⟩ : ∃ v1, Value.slice (cutA (some ⟨g, off, none⟩) cap 1 1) (m - 1) (cap - 1) = v1 := ⟨_, rfl⟩
        rw [hv1] at hq1 hob
        have HV1 := Lib.hid hv1
        have HQ1 := Lib.hid hq1
        have HN1 := Lib.hid (show v1.ownBlock ≠ some b by rw [hob]; exact HNE.out)
        have HMID := Lib.hid HI.out.mid
        have HMS := Lib.hid (show sliceN (.slice (some ⟨g, off, none⟩) m cap) + (n - mapN wr b) = xs.length + 1 + (n - L.length) by rw [hM0, hxl]; rfl)
        obtain ⟨M0, hM⟩ : ∃ M0, xs.length + (n - L.length) = M0 := ⟨_, rfl⟩
        have hM0n : M0 ≤ n := by omega
        clear hq1 hob hv1 hM0 HQ HNE HI
        go_wp2_with fail
        rw [HV1.out]
        go_loopw [8, 30] (fun wk_ i_ wr2 => ∃ (i m2 : Nat) (xs2 L2 : List ByteArray), i ≤ n ∧ i_ = .int .i64 i ∧ Hid (Qu wr2 w.heap.size wk_ m2 xs2) ∧ Hid (wk_.ownBlock ≠ some b) ∧ Hid (Mg strV boV wr2 b (setL L2)) ∧ Hid (Below w.heap.size w wr2) ∧ Hid (Mid l s x i L2 xs2) ∧ xs2.length + (n - L2.length) = M0) (fun _ i_ _ => n - (intOf i_).toNat)
        case atStart => exact ⟨0, m - 1, xs, L, by omega, rfl, HQ1, HN1, HM, HB, HMID, hM⟩
        case round =>
          obtain ⟨i, m2, xs2, L2, hi, rfl, HQ, HNE, HM, HB, HI, hMM⟩ := hrel
          have hL2n : L2.length ≤ n := by rw [← HN.out]; exact Rch.len HI.out.nd HI.out.rch
          by_cases hij : i < n
          · have hij' : (i : Int) < (n : Int) := by omega
            obtain ⟨e, he⟩ : ∃ e, l[i]? = some e := ⟨_, List.getElem?_eq_getElem (by rw [HN.out]; exact hij)⟩
            obtain ⟨ob, oo, eA, hbb, hcl⟩ := RbD.at (Rd.below HH.out (HB.out.mono hB)) he
            subst eA
            have hld := loadK_ed hcl
            have HE := Lib.hid he
            have hal := (Below.refl wr.heap.size wr).alloc (Nat.le_refl _) (.cells (edA e) 47)
            have hlk := run_mgLook (z := .bool false) (e := 4) (strRun Try.underlying9) Try.underlying82 (by simp [Try.zeroValue4]) (HM.out.alloc (.cells (edA e) 47)) e.t false
            simp only [Bool.false_eq_true, if_false] at hlk
            rw [mgGet_set] at hlk
            have bk := Bk.new wr 47 (edA e)
            have HQ2 := Lib.hid (HQ.out.below hal)
            have HM2 := Lib.hid (HM.out.alloc (.cells (edA e) 47))
            have HB2 := Lib.hid (HB.out.alloc HB.out.size (.cells (edA e) 47))
            have hbw := HM.out.lt
            clear he hcl hal HQ HM HB
            by_cases h1 : e.f = x
            · have h1' : (e.f.toList == x.toList) = true := by rw [strEq_of', decide_eq_true h1]
              have H1 := Lib.hid h1
              clear h1
              by_cases h2 : e.t ∈ L2
              · rw [hasT_iff.2 h2] at hlk
                have HI2 := Lib.hid (HI.out.skip HE.out (.inr h2))
                clear bk
                go_wp2_with fail
                exact ⟨⟨i + 1, m2, xs2, L2, by omega, by go_num, HQ2, HNE, HM2, HB2, HI2, hMM⟩, by simp only [intOf]; omega⟩
              · have hf : hasT e.t L2 = false := by rw [← Bool.not_eq_true, hasT_iff]; exact h2
                rw [hf] at hlk
                have HI2 := Lib.hid (HI.out.push HE.out H1.out h2)
                have hL3 : (L2 ++ [e.t]).length ≤ n := by rw [← HN.out]; exact Rch.len HI2.out.nd HI2.out.rch
                rw [List.length_append, List.length_singleton] at hL3
                have hxs2 := HQ2.out.len
                have hm2 : m2 ≤ 20000 := by omega
                have HPS := Lib.hid (mgPut_set h2)
                have HBK := Lib.hid bk
                have HH2 := Lib.hid h2
                clear bk h2 hf
                go_upto_region 14 with (first
                  | (refine wpList_mgPut _ rfl (.tmp 45) (.tmp 47) (.const (.bool true)) 82 rfl (strRun Try.underlying9) Try.underlying82 b _ rfl HM2.out e.t true rfl rfl ?_
                     rintro w3 hm3 hg3 hs3)
                  | fail)
                rw [HPS.out] at hm3
                have hc3 : w3.cell? ⟨wr.heap.size, 2, none⟩ = some (.string e.t) := (HBK.out.grown hg3 (fun e1 => by have := Option.some.inj e1; omega)).cell 2
                have q3 := HQ2.out.grown hg3 HNE.out
                have q4 := q3.below ((Below.refl w3.heap.size w3).alloc (Nat.le_refl _) (.cells #[.string e.t] 9))
                have hb3 := HB2.out.trans (below_grownJ hg3 HB2.out.size (fun j hj => by have := Option.some.inj hj; omega))
                have hb4 := hb3.alloc hb3.size (.cells #[.string e.t] 9)
                have hm4 := hm3.alloc (.cells #[.string e.t] 9)
                have hcG : (w3.alloc (.cells #[.string e.t] 9)).cell? ⟨w3.heap.size, 0, none⟩ = some (.string e.t) := (Bk.new w3 9 #[.string e.t]).cell 0
                have HM4 := Lib.hid hm4
                have HB4 := Lib.hid hb4
                have HQ4 := Lib.hid q4
                have HCG := Lib.hid hcG
                have hlo := q4.lo
                have hbw4 := hm4.lt
                rw [World.size_alloc] at hbw4
                clear hs3 hg3 q3 q4 hb3 hb4 hm4 hm3 hcG HM2 HB2 HQ2 HBK
                go_wp2_with (at_builtin; go_loud (refine wpList_appQ _ rfl (.tmp 48) (.tmp 51) rfl w.heap.size _ m2 xs2 rfl HQ4.out e.t w3.heap.size 1 rfl HCG.out (by omega) HB4.out.size ?_))
                rintro v6 w6 k6 hq6 hg6 hk6
                have hm6 : Mg strV boV w6 b (setL (L2 ++ [e.t])) := HM4.out.grown hg6 (fun e1 => by
                  rcases hk6 with ⟨hk, -⟩ | ⟨hk, -⟩
                  · exact HNE.out (by rw [e1, hk])
                  · rw [hk] at e1; cases e1)
                have hb6 := HB4.out.trans (below_grownJ hg6 HB4.out.size (fun j hj => by
                  rcases hk6 with ⟨hk, -⟩ | ⟨hk, -⟩
                  · exact hlo j (by rw [← hk, hj])
                  · rw [hk] at hj; cases hj))
                have hne6 : v6.ownBlock ≠ some b := fun e1 => by
                  rcases hk6 with ⟨-, hk⟩ | ⟨-, g', hk, hge⟩
                  · exact HNE.out (by rw [← hk, e1])
                  · rw [hk] at e1
                    have := Option.some.inj e1
                    omega
                go_wp2_with fail
                exact ⟨⟨i + 1, m2 + 1, xs2 ++ [e.t], L2 ++ [e.t], by omega, by go_num, Lib.hid hq6, Lib.hid hne6, Lib.hid hm6, Lib.hid hb6, HI2, by simp; omega⟩, by simp only [intOf]; omega⟩
            · have h1' : (e.f.toList == x.toList) = false := by rw [strEq_of', decide_eq_false h1]
              have HI2 := Lib.hid (HI.out.skip HE.out (.inl h1))
              clear bk hlk
              go_wp2_with fail
              exact ⟨⟨i + 1, m2, xs2, L2, by omega, by go_num, HQ2, HNE, HM2, HB2, HI2, hMM⟩, by simp only [intOf]; omega⟩
          · have hij' : decide ((i : Int) < (n : Int)) = false := by simp; omega
            obtain rfl : i = n := by omega
            have HI2 := HI.out
            rw [← HN.out] at HI2
            have hms : mapN wr b = L2.length := mapN_set HM.out
            have hql := HQ.out.len
            obtain ⟨g2, off2, cap2, cur2, rfl, -⟩ := HQ.out
            go_wp2_with fail
            exact ⟨⟨m2, xs2, L2, HQ, HNE, HM, HB, Lib.hid HI2.done, by omega⟩, by rw [HMS.out, hms]; show m2 + (i - L2.length) < _; omega⟩
  · have h0' : ((ck : Int) != 0) = true := by simp; omega
    obtain rfl := h2.resolve_left h0
    go_wp2_with fail
    go_ret2
    exact .inl ⟨by rw [HCK.out]; exact h0, rfl, hb5⟩
end Go.Proofs.Ythaiplhjekkooaa

/- A region that draws its order, whose callees make memory, walked once. -/
namespace Go.Proofs.Ythaiplhjekkooaa
open Go.RowKit

/-- A world behind W, what lay there as it was. -/
structure BelowBy (W : World) where
  w : World
  h : Below W.heap.size W w
instance (W : World) : Inhabited (BelowBy W) := ⟨⟨W, Below.refl _ _⟩⟩
theorem wp_region_quiet_below {P : Program} {id : Nat} {Q : Exit → Act → World → Prop} {a : Act} {w : World} {l : List Oper} (hm : P.follows .mixedOrders = true) (hB : Region.lexB .any l.toArray = true)
    (h : wpQuiet P l.toArray (fun w' => ∃ p : BelowBy w, w' = p.w) (fun a' => ∀ w', (∃ p : BelowBy w, w' = p.w) → Q .normal a' w') l a) : (Code.region id l.toArray true).wp P Q a w :=
  wp_region_quiet (C := fun w' => ∃ p : BelowBy w, w' = p.w) hm hB ⟨⟨w.drew, below_drewN (Below.refl _ w) 1⟩, rfl⟩ (by simpa using h)
theorem calls_belowBy {P : Program} {f : FuncId} {args : Array Value} {W : World} {v : Value} (p : BelowBy W) (h : Calls P f args p.w fun e w' => e = .returned v ∧ Below p.w.heap.size p.w w') :
    Calls P f args p.w fun e w'' => e = .returned v ∧ ∃ p' : BelowBy W, w'' = p'.w := h.mono fun _ w' ⟨he, hb⟩ => ⟨he, ⟨w', p.h.trans (hb.mono p.h.size)⟩, rfl⟩
end Go.Proofs.Ythaiplhjekkooaa

/- deps: the law's few, small, calls. -/
namespace Go.Proofs.Ythaiplhjekkooaa
open Go.RowKit
theorem loadEd_shutV (a : Addr) : loadVar 47 a = loadK 47 a := rfl
attribute [local go_sem ↓] loadEd_shutV

theorem tot_all {M : Nat} : ∀ {l : List Ed}, (∀ e ∈ l, e.n ≤ M) → tot l ≤ l.length * M
  | [], _ => Nat.zero_le _
  | e :: l, h => by
    have h1 := tot_all (l := l) fun x hx => h x (List.mem_cons_of_mem _ hx)
    have h2 := h e (List.mem_cons_self ..)
    show (if true = true then e.n else 0) + tot l ≤ _
    rw [if_pos rfl, List.length_cons, Nat.add_mul]
    omega
theorem RbD.cells {w : World} {B : Nat} {A : Option Addr} {l : List Ed} (h : RbD w B A l) {i : Nat} {e : Ed} (hi : l[i]? = some e) :
    ∃ b o, A = some ⟨b, o, none⟩ ∧ w.cell? ⟨b, o + i * 4, none⟩ = some (.int .u64 e.b) ∧ w.cell? ⟨b, o + i * 4 + 1, none⟩ = some (.string e.f) ∧ w.cell? ⟨b, o + i * 4 + 2, none⟩ = some (.string e.t) ∧ w.cell? ⟨b, o + i * 4 + 3, none⟩ = some (.int .u64 e.n) := by
  obtain ⟨b, o, hA, -, hc⟩ := RbD.at h hi
  refine ⟨b, o, hA, hc 0 (by omega), ?_, ?_, ?_⟩ <;> rw [Nat.add_assoc]
  · exact hc 1 (by omega)
  · exact hc 2 (by omega)
  · exact hc 3 (by omega)
def SmallPost (n : Nat) (w : World) (e : Ending) (w' : World) : Prop := ∃ q, e = .returned (.bool q) ∧ w' = w ∧ (q = true → n ≤ 80)
set_option maxRecDepth 100000 in
set_option maxHeartbeats 2000000 in
theorem lawSmall {A : Option Addr} {n c B : Nat} (l : List Ed) (w : World) (h : RbD w B A l) (hn : l.length = n) (hnl : n ≤ 9223372036854775807) :
    Calls Try.prog 26 #[.slice A n c] w (SmallPost n w) := by
  have HN := Lib.hid hn
  have HH := Lib.hid h
  clear hn h
  go_enter Try.func26, Try.ntmps26
  go_wp2_with fail
  go_loopw [3] (fun i_ wr => ∃ i : Nat, i ≤ n ∧ i ≤ 81 ∧ i_ = .int .i64 i ∧ wr = w) (fun i_ _ => n - (intOf i_).toNat)
  case atStart => exact ⟨0, by omega, by omega, rfl, rfl⟩
  case round =>
    obtain ⟨i, hi, hi81, rfl, rfl⟩ := hrel
    have hfin : Hid (∀ q : Bool, q = decide ((n : Int) ≤ 80) → q = true → n ≤ 80) := Lib.hid fun q hq h => by rw [hq] at h; have := of_decide_eq_true h; omega
    by_cases hlt : i < n
    · have hlt' : (i : Int) < (n : Int) := by omega
      by_cases h80 : i ≤ 80
      · have h80' : (i : Int) ≤ 80 := by omega
        obtain ⟨x, hx⟩ : ∃ x, l[i]? = some x := ⟨_, List.getElem?_eq_getElem (by rw [HN.out]; exact hlt)⟩
        obtain ⟨b, o, eA, -, c1, c2, -⟩ := RbD.cells HH.out hx
        subst eA
        clear hx
        by_cases h1 : (1000 : Int) < (x.f.size : Int)
        · go_wp2_with fail
          go_ret
          exact ⟨false, rfl, rfl, fun h => by cases h⟩
        · have h1' : decide ((1000 : Int) < (x.f.size : Int)) = false := by simp; omega
          by_cases h2 : (1000 : Int) < (x.t.size : Int)
          · go_wp2_with fail
            go_ret
            exact ⟨false, rfl, rfl, fun h => by cases h⟩
          · have h2' : decide ((1000 : Int) < (x.t.size : Int)) = false := by simp; omega
            go_wp2_with fail
            exact ⟨⟨i + 1, by omega, by omega, by go_num, trivial⟩, by simp only [intOf]; omega⟩
      · have h80' : decide ((i : Int) ≤ 80) = false := by simp; omega
        go_wp2_with fail
        go_ret
        exact ⟨_, rfl, rfl, hfin.out _ rfl⟩
    · have hlt' : decide ((i : Int) < (n : Int)) = false := by simp; omega
      go_wp2_with fail
      go_ret
      exact ⟨_, rfl, rfl, hfin.out _ rfl⟩
def FewPost (l : List Ed) (w : World) (e : Ending) (w' : World) : Prop := ∃ q, e = .returned (.bool q) ∧ w' = w ∧ (q = true → l.length ≤ 80 ∧ ∀ e ∈ l, e.n ≤ 1099511627776)
set_option maxRecDepth 100000 in
set_option maxHeartbeats 2000000 in
theorem lawFew {A : Option Addr} {n c B : Nat} (l : List Ed) (w : World) (h : RbD w B A l) (hn : l.length = n) (hnl : n ≤ 9223372036854775807) :
    Calls Try.prog 19 #[.slice A n c] w (FewPost l w) := by
  have HN := Lib.hid hn
  have HH := Lib.hid h
  clear hn h
  go_enter Try.func19, Try.ntmps19
  go_wp2_with fail
  go_loopw [3] (fun i_ wr => ∃ i : Nat, i ≤ n ∧ i ≤ 81 ∧ i_ = .int .i64 i ∧ wr = w ∧ Hid (∀ e ∈ l.take i, e.n ≤ 1099511627776)) (fun i_ _ => n - (intOf i_).toNat)
  case atStart => exact ⟨0, by omega, by omega, rfl, rfl, Lib.hid (fun e he => by simp at he)⟩
  case round =>
    obtain ⟨i, hi, hi81, rfl, rfl, HF⟩ := hrel
    by_cases hlt : i < n
    · have hlt' : (i : Int) < (n : Int) := by omega
      by_cases h80 : i ≤ 80
      · have h80' : (i : Int) ≤ 80 := by omega
        obtain ⟨x, hx⟩ : ∃ x, l[i]? = some x := ⟨_, List.getElem?_eq_getElem (by rw [HN.out]; exact hlt)⟩
        obtain ⟨b, o, eA, -, -, -, c3⟩ := RbD.cells HH.out hx
        subst eA
        have HX := Lib.hid hx
        clear hx
        by_cases h1 : (1099511627776 : Int) < (x.n : Int)
        · go_wp2_with fail
          go_ret
          exact ⟨false, rfl, rfl, fun h => by cases h⟩
        · have h1' : decide ((1099511627776 : Int) < (x.n : Int)) = false := by simp; omega
          go_wp2_with fail
          exact ⟨⟨i + 1, by omega, by omega, by go_num, trivial, Lib.hid (fun e he => by
            rw [take_snoc HX.out] at he
            rcases List.mem_append.1 he with he | he
            · exact HF.out e he
            · rw [List.mem_singleton.1 he]; omega)⟩, by simp only [intOf]; omega⟩
      · have h80' : decide ((i : Int) ≤ 80) = false := by simp; omega
        have cs := lawSmall (c := c) l wr HH.out HN.out hnl
        go_wp2_with fail
        refine cs.mono ?_
        rintro en w2 ⟨q, rfl, rfl, hq⟩
        go_wp2_with fail
        go_ret
        exact ⟨q, rfl, rfl, fun h => absurd (hq h) (by omega)⟩
    · have hlt' : decide ((i : Int) < (n : Int)) = false := by simp; omega
      have cs := lawSmall (c := c) l wr HH.out HN.out hnl
      go_wp2_with fail
      refine cs.mono ?_
      rintro en w2 ⟨q, rfl, rfl, hq⟩
      go_wp2_with fail
      go_ret
      exact ⟨q, rfl, rfl, fun h => ⟨by rw [HN.out]; exact hq h, fun e he => HF.out e (by rw [List.take_of_length_le (by rw [HN.out]; omega)]; exact he)⟩⟩
theorem tot_snoc {l : List Ed} {i : Nat} {x : Ed} (h : l[i]? = some x) : tot (l.take (i + 1)) = tot (l.take i) + x.n := by
  rw [take_snoc h, tot, totP_append]
  show _ + ((if true = true then x.n else 0) + 0) = _
  rw [if_pos rfl]
  rfl
theorem tot_take (l : List Ed) (i : Nat) : tot (l.take i) ≤ tot l := by
  have h : tot (l.take i ++ l.drop i) = tot (l.take i) + tot (l.drop i) := totP_append _ _ _
  rw [List.take_append_drop] at h
  omega
set_option maxRecDepth 100000 in
set_option maxHeartbeats 2000000 in
theorem lawCalls {A : Option Addr} {n c B : Nat} (l : List Ed) (w : World) (h : RbD w B A l) (hn : l.length = n) (hnl : n ≤ 9223372036854775807) (ht : tot l ≤ 18446744073709551615) :
    Calls Try.prog 18 #[.slice A n c] w fun e w' => e = .returned (.int .u64 (tot l)) ∧ w' = w := by
  have HN := Lib.hid hn
  have HH := Lib.hid h
  obtain ⟨r, hr⟩ : ∃ r, tot l = r := ⟨_, rfl⟩
  have HTK := Lib.hid (fun i => show tot (l.take i) ≤ r by rw [← hr]; exact tot_take l i)
  rw [hr] at ht ⊢
  have HR := Lib.hid hr
  clear hn h hr
  go_enter Try.func18, Try.ntmps18
  go_wp2_with fail
  go_loopw [3, 4] (fun s_ i_ wr => ∃ i t : Nat, i ≤ n ∧ i_ = .int .i64 i ∧ s_ = .int .u64 t ∧ wr = w ∧ Hid (tot (l.take i) = t)) (fun _ i_ _ => n - (intOf i_).toNat)
  case atStart => exact ⟨0, 0, by omega, rfl, rfl, rfl, Lib.hid rfl⟩
  case round =>
    obtain ⟨i, t, hi, rfl, rfl, rfl, HT⟩ := hrel
    by_cases hlt : i < n
    · have hlt' : (i : Int) < (n : Int) := by omega
      obtain ⟨x, hx⟩ : ∃ x, l[i]? = some x := ⟨_, List.getElem?_eq_getElem (by rw [HN.out]; exact hlt)⟩
      obtain ⟨b, o, eA, -, -, -, c3⟩ := RbD.cells HH.out hx
      subst eA
      have hs := tot_snoc hx
      rw [HT.out] at hs
      have hk := HTK.out (i + 1)
      rw [hs] at hk
      have hw : IntKind.u64.wrap ((t : Int) + (x.n : Int)) = ((t + x.n : Nat) : Int) := by
        rw [show (t : Int) + (x.n : Int) = ((t + x.n : Nat) : Int) from by omega]
        exact IntWalk.u64_in _ ⟨by omega, by omega⟩
      have HS := Lib.hid hs
      clear hx hs hk
      go_wp2_with fail
      exact ⟨⟨i + 1, t + x.n, by omega, by go_num, rfl, trivial, HS⟩, by simp only [intOf]; omega⟩
    · have hlt' : decide ((i : Int) < (n : Int)) = false := by simp; omega
      obtain rfl : i = n := by omega
      obtain rfl : t = r := by
        have h1 := HT.out
        rw [List.take_of_length_le (by rw [HN.out]; exact Nat.le_refl _)] at h1
        rw [← h1, HR.out]
      go_wp2_with fail
      go_ret
      exact ⟨rfl, rfl⟩
end Go.Proofs.Ythaiplhjekkooaa

/- The document's Check of layer 24. (Printed by wip/tools/genDeW.py.) -/
namespace Go.Proofs.Ythaiplhjekkooaa
open Go.RowKit
theorem loadEd_shutW (a : Addr) : loadVar 47 a = loadK 47 a := rfl
attribute [local go_sem ↓] loadEd_shutW

theorem edWrong_lt {l : List Ed} {k : Nat} {x p : Ed} (hx : l[k + 1]? = some x) (hp : l[k]? = some p) (hf : edFine x = true) : edWrong l (k + 1) = !edLt p x := by
  rw [Bool.eq_iff_iff]
  have h := edWrong_iff hx
  rw [← Bool.not_eq_true] at h
  cases hl : edLt p x with
  | true =>
    have : edWrong l (k + 1) = false := (edWrong_iff hx).2 ⟨hf, fun k' p' hk hp' => by
      cases hk
      rw [hp] at hp'
      cases hp'
      exact hl⟩
    simp [this]
  | false =>
    cases hw : edWrong l (k + 1) with
    | true => simp
    | false =>
      have := ((edWrong_iff hx).1 hw).2 k p rfl hp
      rw [hl] at this
      cases this
set_option maxRecDepth 100000 in
set_option maxHeartbeats 8000000 in
theorem rDeCheck {A : Option Addr} {n c B : Nat} (l : List Ed) (w : World) (h : RbD w B A l) (hn : l.length = n) (hB : B ≤ w.heap.size) (hnl : n ≤ 9223372036854775807) :
    Calls Try.prog 30 #[.slice A n c] w fun e w' => e = .returned (.int .i64 (edChk l)) ∧ Below w.heap.size w w' := by
  obtain ⟨r, hr⟩ : ∃ r, edChk l = r := ⟨_, rfl⟩
  rw [hr]
  rw [edChk] at hr
  have HR := Lib.hid hr
  have HN := Lib.hid hn
  have HH := Lib.hid h
  clear hr hn h
  go_enter Try.func30, Try.ntmps30
  go_wp2_with fail
  go_loopw [3] (fun i_ wr => ∃ i : Nat, i ≤ n ∧ i_ = .int .i64 i ∧ Hid (edWrongTo l i = false) ∧ Hid (Below w.heap.size w wr)) (fun i_ _ => n - (intOf i_).toNat)
  case atStart => exact ⟨0, by omega, rfl, Lib.hid rfl, Lib.hid (Below.refl _ _)⟩
  case round =>
    obtain ⟨i, hi, rfl, HG, HB⟩ := hrel
    by_cases hlt : i < n
    · have hlt' : (i : Int) < (n : Int) := by omega
      obtain ⟨x, hx⟩ : ∃ x, l[i]? = some x := ⟨_, List.getElem?_eq_getElem (by rw [HN.out]; exact hlt)⟩
      obtain ⟨b1, o1, eA, hbb, hc1⟩ := RbD.at (Rd.below HH.out (HB.out.mono hB)) hx
      subst eA
      have hld := loadK_ed hc1
      have bk := Bk.new wr 47 (edA x)
      have hb2 := HB.out.alloc HB.out.size (.cells (edA x) 47)
      have HX := Lib.hid hx
      have HFALL := Lib.hid (fun hf : edFine x = false => show r = 2 by rw [← HR.out, if_pos (edWrong_fall hx hf)])
      clear hc1
      obtain ⟨W4, hW4⟩ : ∃ W4, wr.alloc (.cells (edA x) 47) = W4 := ⟨_, rfl⟩
      obtain ⟨g, hg⟩ : ∃ g, wr.heap.size = g := ⟨_, rfl⟩
      rw [hW4] at bk hb2
      rw [hg] at bk
      have HW4 := Lib.hid hW4
      have HG4 := Lib.hid hg
      obtain ⟨xb, xf, xt, xn⟩ := x
      have CL := Lib.hid (fun W (hW : Below W4.heap.size W4 W) => show W.cell? ⟨g, 1, none⟩ = some (.string xf) ∧ W.cell? ⟨g, 2, none⟩ = some (.string xt) ∧ W.cell? ⟨g, 3, none⟩ = some (.int .u64 xn) ∧ (loadK 47 ⟨g, 0, none⟩).run Try.prog W = .ok (edV ⟨xb, xf, xt, xn⟩) W by
        have bk2 := bk.below hW bk.lt
        exact ⟨bk2.cell 1, bk2.cell 2, bk2.cell 3, loadK_edB bk2⟩)
      have HB2 := Lib.hid hb2
      have HBD := Lib.hid (below_drewN (Below.refl W4.heap.size W4) 1)
      have hcond : edFine ⟨xb, xf, xt, xn⟩ = (decide (xf ≠ ⟨#[]⟩) && decide (xt ≠ ⟨#[]⟩) && decide (xf ≠ xt) && txtB xf && txtB xt && decide (1 ≤ xn)) := rfl
      obtain ⟨fb, hfb⟩ : ∃ fb, edFine ⟨xb, xf, xt, xn⟩ = fb := ⟨_, rfl⟩
      rw [hfb] at hcond
      have HFB := Lib.hid hfb
      have HC := Lib.hid hcond
      have e0 : (⟨#[]⟩ : ByteArray).toList = [] := by rw [ByteArray.toList_eq]
      have t1 := fun W => rTxt W xf
      have t2 := fun W => rTxt W xt
      obtain ⟨b4, hb4⟩ : ∃ b4, txtB xf = b4 := ⟨_, rfl⟩
      obtain ⟨b5, hb5⟩ : ∃ b5, txtB xt = b5 := ⟨_, rfl⟩
      simp only [hb4] at t1
      simp only [hb5] at t2
      have T1 := Lib.hid t1
      have T2 := Lib.hid t2
      have HCC := Lib.hid (show fb = (decide (xf ≠ ⟨#[]⟩) && decide (xt ≠ ⟨#[]⟩) && decide (xf ≠ xt) && b4 && b5 && decide (1 ≤ xn)) by rw [← hb4, ← hb5]; exact HC.out)
      have HFALL2 := Lib.hid (fun h : fb = false => HFALL.out (HFB.out.trans h))
      clear hb4 hb5 HC HFALL hcond hfb hx bk hb2 hW4 hg t1 t2
      go_upto_region 5 with fail
      rw [HW4.out, HG4.out]
      · obtain ⟨k1, k2, k3, -⟩ := CL.out _ (Below.refl _ _)
        by_cases h1 : xf = ⟨#[]⟩
        · have hr2 : r = 2 := HFALL2.out (by rw [HCC.out]; simp [h1])
          subst h1
          have h1' : ((⟨#[]⟩ : ByteArray).toList == []) = true := by rw [e0]; rfl
          subst hr2
          go_wp2_with fail
          go_quiet (fail)
          go_wp2_with fail
          go_ret
          exact ⟨rfl, below_drewN HB2.out _⟩
        have h1' : (xf.toList == []) = false := by rw [← e0, strEq_of', decide_eq_false h1]
        by_cases h2 : xt = ⟨#[]⟩
        · have hr2 : r = 2 := HFALL2.out (by rw [HCC.out]; simp [h2])
          subst h2
          have h2' : ((⟨#[]⟩ : ByteArray).toList == []) = true := by rw [e0]; rfl
          subst hr2
          go_wp2_with fail
          go_quiet (fail)
          go_wp2_with fail
          go_ret
          exact ⟨rfl, below_drewN HB2.out _⟩
        have h2' : (xt.toList == []) = false := by rw [← e0, strEq_of', decide_eq_false h2]
        cases b4 with
        | false =>
          have hr2 : r = 2 := HFALL2.out (by rw [HCC.out]; simp)
          subst hr2
          go_wp2_with fail
          go_quiet (first
            | (go_at_call_of 47 (Value.string xf); go_loud (exact Calls.quiet_of_same (T1.out _)))
            | (go_at_call_of 47 (Value.string xt); go_loud (exact Calls.quiet_of_same (T2.out _))))
          go_wp2_with fail
          go_ret
          exact ⟨rfl, below_drewN HB2.out _⟩
        | true =>
        cases b5 with
        | false =>
          have hr2 : r = 2 := HFALL2.out (by rw [HCC.out]; simp)
          subst hr2
          go_wp2_with fail
          go_quiet (first
            | (go_at_call_of 47 (Value.string xf); go_loud (exact Calls.quiet_of_same (T1.out _)))
            | (go_at_call_of 47 (Value.string xt); go_loud (exact Calls.quiet_of_same (T2.out _))))
          go_wp2_with fail
          go_ret
          exact ⟨rfl, below_drewN HB2.out _⟩
        | true =>
        by_cases h3 : xf = xt
        · have h3' : (xf.toList == xt.toList) = true := by rw [strEq_of', decide_eq_true h3]
          have hr2 : r = 2 := HFALL2.out (by rw [HCC.out]; simp [h3])
          subst hr2
          go_wp2_with fail
          go_quiet (first
            | (go_at_call_of 47 (Value.string xf); go_loud (exact Calls.quiet_of_same (T1.out _)))
            | (go_at_call_of 47 (Value.string xt); go_loud (exact Calls.quiet_of_same (T2.out _))))
          go_wp2_with fail
          go_ret
          exact ⟨rfl, below_drewN HB2.out _⟩
        have h3' : (xf.toList == xt.toList) = false := by rw [strEq_of', decide_eq_false h3]
        by_cases h6 : (xn : Int) < 1
        · have hr2 : r = 2 := HFALL2.out (by rw [HCC.out]; simp; omega)
          subst hr2
          go_wp2_with fail
          go_quiet (first
            | (go_at_call_of 47 (Value.string xf); go_loud (exact Calls.quiet_of_same (T1.out _)))
            | (go_at_call_of 47 (Value.string xt); go_loud (exact Calls.quiet_of_same (T2.out _))))
          go_wp2_with fail
          go_ret
          exact ⟨rfl, below_drewN HB2.out _⟩
        have h6' : decide ((xn : Int) < 1) = false := by simp; omega
        have hfb : fb = true := by rw [HCC.out]; simp [h1, h2, h3]; omega
        subst hfb
        rcases Nat.eq_zero_or_pos i with h0 | h0
        · subst h0
          rw [show ((0 : Nat) : Int) = 0 from rfl]
          go_wp2_with fail
          go_quiet (first
            | (go_at_call_of 47 (Value.string xf); go_loud (exact Calls.quiet_of_same (T1.out _)))
            | (go_at_call_of 47 (Value.string xt); go_loud (exact Calls.quiet_of_same (T2.out _))))
          go_wp2_with fail
          exact ⟨⟨1, by omega, rfl, Lib.hid (by rw [edWrongTo_succ, HG.out, edWrong, HX.out]; simp [HFB.out]), Lib.hid (below_drewN HB2.out _)⟩, by simp only [intOf]; omega⟩
        · obtain ⟨k, hk⟩ : ∃ k, i = k + 1 := ⟨i - 1, by omega⟩
          obtain ⟨p, hp⟩ : ∃ p, l[k]? = some p := ⟨_, List.getElem?_eq_getElem (by rw [HN.out]; omega)⟩
          obtain ⟨b1', o1', e1, -, hc2⟩ := RbD.at (Rd.below HH.out (HB2.out.mono hB)) hp
          cases e1
          have u1 : ∀ z : BelowBy W4, z.w.cell? ⟨g, 1, none⟩ = some (.string xf) := fun z => (CL.out z.w z.h).1
          have u2 : ∀ z : BelowBy W4, z.w.cell? ⟨g, 2, none⟩ = some (.string xt) := fun z => (CL.out z.w z.h).2.1
          have u3 : ∀ z : BelowBy W4, z.w.cell? ⟨g, 3, none⟩ = some (.int .u64 xn) := fun z => (CL.out z.w z.h).2.2.1
          have u4 : ∀ z : BelowBy W4, (loadK 47 ⟨g, 0, none⟩).run Try.prog z.w = .ok (edV ⟨xb, xf, xt, xn⟩) z.w := fun z => (CL.out z.w z.h).2.2.2
          have u5 : ∀ z : BelowBy W4, (loadK 47 ⟨b1, o1 + k * 4, none⟩).run Try.prog z.w = .ok (edV p) z.w := fun z => loadK_ed fun j hj => (z.h.cell (Nat.lt_of_lt_of_le hbb (Nat.le_trans hB HB2.out.size))).trans (hc2 j hj)
          have BT1 := Lib.hid (fun z : BelowBy W4 => calls_belowBy z ((T1.out z.w).mono fun _ _ h => ⟨h.1, by rw [h.2]; exact Below.refl _ _⟩))
          have BT2 := Lib.hid (fun z : BelowBy W4 => calls_belowBy z ((T2.out z.w).mono fun _ _ h => ⟨h.1, by rw [h.2]; exact Below.refl _ _⟩))
          have h1i : (0 : Int) < (i : Int) := by omega
          have hlt1 : (k : Int) < (n : Int) := by omega
          have h1j : (1 : Int) ≤ (i : Int) := by omega
          have h2i : (i : Int) - 1 < (n : Int) := by omega
          have h3i : (0 : Int) ≤ (i : Int) - 1 := by omega
          have h4i : ((i : Int) - 1).toNat = k := by omega
          have hw : IntKind.i64.wrap ((i : Int) - 1) = (i : Int) - 1 := IntWalk.i64_in _ ⟨by omega, by omega⟩
          have hew : edWrong l i = !edLt p ⟨xb, xf, xt, xn⟩ := by
            subst hk
            exact edWrong_lt HX.out hp HFB.out
          have hcb := fun z : BelowBy W4 => calls_belowBy z (rDeBefore p ⟨xb, xf, xt, xn⟩ z.w)
          obtain ⟨ct, hct⟩ : ∃ ct, edLt p ⟨xb, xf, xt, xn⟩ = ct := ⟨_, rfl⟩
          simp only [hct] at hcb
          rw [hct] at hew
          have HEW := Lib.hid hew
          have BC := Lib.hid hcb
          have HK := Lib.hid hk
          clear hew hk hp hc2 hct hcb
          cases ct with
          | false =>
            have hr2 : r = 2 := by
              rw [← HR.out, if_pos (edWrong_at (i := i) (by rw [HEW.out]; rfl) (by rw [HN.out]; exact hlt))]
            subst hr2
            refine wp_region_quiet_below (by kernel_rfl) (by kernel_rfl) ?_
            repeat (first
              | go_big_quiet_step ((first
                  | (go_at_call_of 47 (Value.string xf); with_reducible exact BT1.out _)
                  | (go_at_call_of 47 (Value.string xt); with_reducible exact BT2.out _)
                  | (go_at_call 48; with_reducible exact BC.out _)))
              | quiet_step ((first
                  | (go_at_call_of 47 (Value.string xf); with_reducible exact BT1.out _)
                  | (go_at_call_of 47 (Value.string xt); with_reducible exact BT2.out _)
                  | (go_at_call 48; with_reducible exact BC.out _))))
            refine wpQuiet_nil ?_
            rintro _ ⟨pq, rfl⟩
            go_wp2_with fail
            go_ret
            exact ⟨rfl, HB2.out.trans (pq.h.mono HB2.out.size)⟩
          | true =>
            refine wp_region_quiet_below (by kernel_rfl) (by kernel_rfl) ?_
            repeat (first
              | go_big_quiet_step ((first
                  | (go_at_call_of 47 (Value.string xf); with_reducible exact BT1.out _)
                  | (go_at_call_of 47 (Value.string xt); with_reducible exact BT2.out _)
                  | (go_at_call 48; with_reducible exact BC.out _)))
              | quiet_step ((first
                  | (go_at_call_of 47 (Value.string xf); with_reducible exact BT1.out _)
                  | (go_at_call_of 47 (Value.string xt); with_reducible exact BT2.out _)
                  | (go_at_call 48; with_reducible exact BC.out _))))
            refine wpQuiet_nil ?_
            rintro _ ⟨pq, rfl⟩
            go_wp2_with fail
            exact ⟨⟨i + 1, by omega, by go_num, Lib.hid (by rw [edWrongTo_succ, HG.out, HEW.out]; rfl), Lib.hid (HB2.out.trans (pq.h.mono HB2.out.size))⟩, by simp only [intOf]; omega⟩
    · have hlt' : decide ((i : Int) < (n : Int)) = false := by simp; omega
      obtain rfl : i = n := by omega
      have hr0 : r = 0 := by rw [← HR.out, HN.out, if_neg (by rw [HG.out]; simp)]
      subst hr0
      go_wp2_with fail
      go_ret
      exact ⟨rfl, HB.out⟩
end Go.Proofs.Ythaiplhjekkooaa
