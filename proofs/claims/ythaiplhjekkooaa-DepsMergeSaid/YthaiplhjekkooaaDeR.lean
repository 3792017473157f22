/- deps: what adding edges in turn tells; Merge. -/
import Derived.Test.YthaiplhjekkooaaDeE
import Derived.Test.YthaiplhjekkooaaDeJ
import Derived.Test.YthaiplhjekkooaaDeQ
namespace Go.Proofs.Ythaiplhjekkooaa
open Go.RowKit Go.MapKept
theorem loadEd_shutR (a : Addr) : loadVar 47 a = loadK 47 a := rfl
attribute [local go_sem ↓] loadEd_shutR

/-- What adding edges in turn tells. -/
def addOut (xs : List Ed) : List Ed × Nat := match addAll xs [] with | some o => (o, 0) | none => ([], 3)
theorem addOut_bad {xs : List Ed} (h : ∃ p ∈ mgAll xs [], 4611686018427387904 < p.2) : addOut xs = ([], 3) := by
  have hs := addAll_same (xs := xs) Same.nil (fun e he => by cases he)
  unfold addOut
  cases ha : addAll xs [] with
  | none => rfl
  | some o =>
    rw [ha] at hs
    obtain ⟨p, hp, hlt⟩ := h
    have h1 := hs.2 _ ((hs.1.mem p).1 hp)
    have h2 : (mkEd p).n = p.2 := rfl
    omega
theorem addOut_ok {xs l : List Ed} (h : ∀ p ∈ mgAll xs [], p.2 ≤ 4611686018427387904) (hp : l.Perm ((mgAll xs []).map mkEd)) (hs : SortEd l) : addOut xs = (l, 0) := by
  have hsm := addAll_same (xs := xs) Same.nil (fun e he => by cases he)
  unfold addOut
  cases ha : addAll xs [] with
  | none =>
    rw [ha] at hsm
    obtain ⟨p, hp, hlt⟩ := hsm
    have := h p hp
    omega
  | some o =>
    rw [ha] at hsm
    rw [hsm.1.sorted hp hs]
theorem edChk_two (l : List Ed) : edChk l = 0 ∨ edChk l = 2 := by
  unfold edChk
  split
  · exact .inr rfl
  · exact .inl rfl
/-- What Merge answers. -/
def mergeOut (a b : List Ed) : List Ed × Nat := if edChk a ≠ 0 then ([], 2) else if edChk b ≠ 0 then ([], 2) else addOut (a ++ b)
theorem mergeOut_l {a b : List Ed} (h : edChk a ≠ 0) : mergeOut a b = ([], 2) := if_pos h
theorem mergeOut_r {a b : List Ed} (h : edChk b ≠ 0) : mergeOut a b = ([], 2) := by
  unfold mergeOut
  by_cases h1 : edChk a ≠ 0
  · rw [if_pos h1]
  · rw [if_neg h1, if_pos h]
theorem mergeOut_ok {a b : List Ed} (h : edChk a = 0) (h' : edChk b = 0) : mergeOut a b = addOut (a ++ b) := by
  unfold mergeOut
  rw [if_neg (by simp [h]), if_neg (by simp [h'])]
def catE (a b : List Ed) : Nat → List Ed
  | 0 => []
  | 1 => a
  | _ => a ++ b
def nthE (a b : List Ed) : Nat → List Ed
  | 0 => a
  | _ => b
theorem catE_succ (a b : List Ed) {j : Nat} (h : j < 2) : catE a b (j + 1) = catE a b j ++ nthE a b j := by
  match j, h with
  | 0, _ => simp [catE, nthE]
  | 1, _ => rfl
set_option maxRecDepth 100000 in
set_option maxHeartbeats 8000000 in
theorem deMerge {A1 A2 : Option Addr} {n1 c1 n2 c2 B : Nat} (l1 l2 : List Ed) (w : World) (h1 : RbD w B A1 l1) (h2 : RbD w B A2 l2) (hn1 : l1.length = n1) (hn2 : l2.length = n2) (hB : B ≤ w.heap.size) (hs1 : n1 ≤ 10000) (hs2 : n2 ≤ 10000) :
    Calls Try.prog 20 #[.slice A1 n1 c1, .slice A2 n2 c2] w (EdsPost w (mergeOut l1 l2)) := by
  obtain ⟨r, hr⟩ : ∃ r, mergeOut l1 l2 = r := ⟨_, rfl⟩
  rw [hr]
  have HBAD : Hid (∀ j, j < 2 → edChk (nthE l1 l2 j) ≠ 0 → r = ([], 2)) := Lib.hid fun j hj hne => by
    match j, hj with
    | 0, _ => rw [← hr]; exact mergeOut_l hne
    | 1, _ => rw [← hr]; exact mergeOut_r hne
  have HOK : Hid ((∀ j, j < 2 → edChk (nthE l1 l2 j) = 0) → r = addOut (catE l1 l2 2)) := Lib.hid fun h => by
    rw [← hr]
    exact mergeOut_ok (h 0 (by omega)) (h 1 (by omega))
  have HLL : Hid (∀ j, j < 2 → ∃ Aj nj cj, (#[.slice A1 n1 c1, .slice A2 n2 c2] : Array Value)[j]? = some (.slice Aj nj cj) ∧ (nthE l1 l2 j).length = nj ∧ nj ≤ 10000 ∧ RbD w B Aj (nthE l1 l2 j)) := Lib.hid fun j hj => by
    match j, hj with
    | 0, _ => exact ⟨A1, n1, c1, rfl, hn1, hs1, h1⟩
    | 1, _ => exact ⟨A2, n2, c2, rfl, hn2, hs2, h2⟩
  have HCL : Hid ((catE l1 l2 2).length ≤ 20000) := Lib.hid (by show (l1 ++ l2).length ≤ _; rw [List.length_append]; omega)
  have m0 := Mg.new (kv := ekV) (vv := uvV) w
  have hb0 := (Below.refl w.heap.size w).alloc (Nat.le_refl _) (.map #[] 0)
  obtain ⟨b, hb⟩ : ∃ b, w.heap.size = b := ⟨_, rfl⟩
  obtain ⟨w1, hw1⟩ : ∃ w1, w.alloc (.map #[] 0) = w1 := ⟨_, rfl⟩
  rw [hw1] at m0 hb0
  have hb1 := hb0.alloc hb0.size (.cells #[.slice A1 n1 c1, .slice A2 n2 c2] 25)
  have m1 := m0.alloc (.cells #[.slice A1 n1 c1, .slice A2 n2 c2] 25)
  have bk1 := Bk.new w1 25 #[.slice A1 n1 c1, .slice A2 n2 c2]
  rw [hb] at m1
  have hbg : b < w1.heap.size := by have := m0.lt; rw [hb] at this; exact this
  obtain ⟨g, hg⟩ : ∃ g, w1.heap.size = g := ⟨_, rfl⟩
  have HG2 := Lib.hid (show b + 1 = g by rw [← hg, ← hw1, World.size_alloc, hb])
  obtain ⟨w2, hw2⟩ : ∃ w2, w1.alloc (.cells #[.slice A1 n1 c1, .slice A2 n2 c2] 25) = w2 := ⟨_, rfl⟩
  rw [hw2] at hb1 m1 bk1
  rw [hg] at bk1 hbg
  have HW1 := Lib.hid hw1
  have HW2 := Lib.hid hw2
  have HG := Lib.hid hg
  have HBN := Lib.hid hb
  have HM1 := Lib.hid m1
  have HB1 := Lib.hid hb1
  have HK1 := Lib.hid bk1
  have hwb : w.heap.size ≤ b := by omega
  clear hw1 hw2 hg hb m0 m1 hb0 hb1 bk1 hr h1 h2 hn1 hn2 hs1 hs2
  have hmm := @run_makeMap Try.prog
  go_enter Try.func20, Try.ntmps20
  go_wp2_with fail
  rw [HW1.out, HBN.out, HG2.out, HW2.out]
  go_loopw [19] (fun i_ wr => ∃ j : Nat, j ≤ 2 ∧ i_ = .int .i64 j ∧ Hid (Mg ekV uvV wr b (mgAll (catE l1 l2 j) [])) ∧ Hid (Bk wr g 25 #[.slice A1 n1 c1, .slice A2 n2 c2]) ∧ Hid (Below w.heap.size w wr) ∧ Hid (∀ i, i < j → edChk (nthE l1 l2 i) = 0)) (fun i_ _ => 2 - (intOf i_).toNat)
  case atStart => exact ⟨0, by omega, rfl, HM1, HK1, HB1, Lib.hid (fun i hi => by omega)⟩
  case round =>
    obtain ⟨j, hj, rfl, HM, HK, HB, HC⟩ := hrel
    by_cases hlt : j < 2
    · have hlt' : (j : Int) < 2 := by omega
      obtain ⟨Aj, nj, cj, hcj, hnj, hsj, hrd⟩ := HLL.out j hlt
      have hcell : wr.cell? ⟨g, j, none⟩ = some (.slice Aj nj cj) := by rw [HK.out.cell j]; exact hcj
      have cc := deCheck (c := cj) (nthE l1 l2 j) wr (Rd.below hrd (HB.out.mono hB)) hnj (Nat.le_trans hB HB.out.size) (by omega)
      have hbadj := HBAD.out j hlt
      have hcat := catE_succ l1 l2 hlt
      have HC2 := Lib.hid (fun (h0 : edChk (nthE l1 l2 j) = 0) i (hi : i < j + 1) => show edChk (nthE l1 l2 i) = 0 by
        rcases Nat.lt_succ_iff_lt_or_eq.1 hi with h | rfl
        · exact HC.out i h
        · exact h0)
      obtain ⟨lj, hlj⟩ : ∃ lj, nthE l1 l2 j = lj := ⟨_, rfl⟩
      rw [hlj] at cc hnj hrd hbadj hcat
      have HCAT := Lib.hid hcat
      have HBJ := Lib.hid hbadj
      have HRD := Lib.hid hrd
      have HNJ := Lib.hid hnj
      have HLJ := Lib.hid hlj
      obtain ⟨ck, hck⟩ : ∃ ck, edChk lj = ck := ⟨_, rfl⟩
      rw [hck] at cc
      have HCK := Lib.hid hck
      clear hcat hbadj hrd hnj hcj hlj hck HC
      go_wp2_with fail
      refine cc.mono ?_
      rintro en w5 ⟨rfl, hb5⟩
      have HB5 := Lib.hid (HB.out.trans (hb5.mono HB.out.size))
      have HM5 := Lib.hid (HM.out.bS hb5)
      have HK5 := Lib.hid (HK.out.below hb5 HK.out.lt)
      clear hb5 cc hcell HB HM HK
      by_cases h0 : ck = 0
      · subst h0
        go_wp2_with fail
        go_loopw [30] (fun i_ wr2 => ∃ i : Nat, i ≤ nj ∧ i_ = .int .i64 i ∧ Hid (Mg ekV uvV wr2 b (mgAll (catE l1 l2 j ++ lj.take i) [])) ∧ Hid (Bk wr2 g 25 #[.slice A1 n1 c1, .slice A2 n2 c2]) ∧ Hid (Below w.heap.size w wr2)) (fun i_ _ => nj - (intOf i_).toNat)
        case atStart => exact ⟨0, by omega, rfl, Lib.hid (by rw [List.take_zero, List.append_nil]; exact HM5.out), HK5, HB5⟩
        case round =>
          obtain ⟨i, hi, rfl, HM, HK, HB⟩ := hrel
          by_cases hij : i < nj
          · have hij' : (i : Int) < (nj : Int) := by omega
            obtain ⟨x, hx⟩ : ∃ x, lj[i]? = some x := ⟨_, List.getElem?_eq_getElem (by rw [HNJ.out]; exact hij)⟩
            obtain ⟨ob, oo, eA, hbb, hcl⟩ := RbD.at (Rd.below HRD.out (HB.out.mono hB)) hx
            subst eA
            have hld := loadK_ed hcl
            have HB6 := Lib.hid (HB.out.alloc HB.out.size (.cells (edA x) 47))
            have HM6 := Lib.hid (HM.out.alloc (.cells (edA x) 47))
            have HK6 := Lib.hid (HK.out.alloc (.cells (edA x) 47))
            have HX := Lib.hid hx
            have hst : mgAll (catE l1 l2 j ++ lj.take (i + 1)) [] = addK (edK x) x.n (mgAll (catE l1 l2 j ++ lj.take i) []) := by
              rw [take_snoc hx, ← List.append_assoc, mgAll_snoc]
            have HST := Lib.hid hst
            clear hx hcl hst HB HM HK
            go_wp2_with fail
            refine (deAdd ⟨x.b, x.f, x.t⟩ x.n _ HM6.out).mono ?_
            rintro en w9 ⟨rfl, hE9, hg9, hs9⟩
            go_wp2_with fail
            exact ⟨⟨i + 1, by omega, by go_num, Lib.hid (by rw [HST.out]; exact hE9), Lib.hid ((hg9.block g (HK6.out.lt) (fun e => by have := Option.some.inj e; omega)).trans HK6.out), Lib.hid (HB6.out.trans (below_grownJ hg9 HB6.out.size (fun k hk => by have := Option.some.inj hk; omega)))⟩, by simp only [intOf]; omega⟩
          · have hij' : decide ((i : Int) < (nj : Int)) = false := by simp; omega
            obtain rfl : i = nj := by omega
            have hm := HM.out
            rw [List.take_of_length_le (by rw [HNJ.out]; exact Nat.le_refl _), ← HCAT.out] at hm
            have HMM := Lib.hid hm
            clear hm HM
            go_wp2_with fail
            exact ⟨⟨j + 1, by omega, by go_num, HMM, HK, HB, Lib.hid (HC2.out (by rw [HLJ.out]; exact HCK.out))⟩, by simp only [intOf]; omega⟩
      · have h0' : ((ck : Int) != 0) = true := by simp; omega
        have hre : r = ([], ck) := by
          rcases edChk_two lj with h | h
          · exact absurd (HCK.out.symm.trans h) h0
          · rw [HCK.out] at h
            rw [h]
            exact HBJ.out (by rw [HCK.out]; exact h0)
        subst hre
        go_wp2_with fail
        go_ret2
        exact EdsPost.no HB5.out
    · have hlt' : decide ((j : Int) < 2) = false := by simp; omega
      obtain rfl : j = 2 := by omega
      have hro := HOK.out HC.out
      have HRO := Lib.hid hro
      have hll : (mgAll (catE l1 l2 2) []).length ≤ 20000 := by
        have h1 := mgAll_len (catE l1 l2 2) []
        have h2 := HCL.out
        simp at h1
        omega
      have hli := deList wr HM.out (by omega)
      clear hro hll HM HC
      obtain ⟨xs, hxs⟩ : ∃ xs, catE l1 l2 2 = xs := ⟨_, rfl⟩
      rw [hxs] at HRO hli
      clear hxs hlt hlt'
      go_wp2_with fail
      refine hli.mono ?_
      rintro en w8 (⟨hbad, rfl, hb8⟩ | ⟨hok, A8, c8, n8, out, hperm, hsort, hlen8, rfl, hown, hb8⟩)
      · have hre : r = ([], 3) := by rw [HRO.out]; exact addOut_bad hbad
        subst hre
        go_wp2_with fail
        go_ret2
        exact EdsPost.no (HB.out.trans (hb8.mono HB.out.size))
      · have hre : r = (out, 0) := by rw [HRO.out]; exact addOut_ok hok hperm hsort
        subst hre
        go_wp2_with fail
        go_ret2
        subst hlen8
        exact ⟨A8, c8, rfl, own_baseJ hown HB.out.size, HB.out.trans (hb8.mono HB.out.size)⟩
end Go.Proofs.Ythaiplhjekkooaa
