/- The statement WireMakes: numbers, pieces and texts are put together as the document says. The walk. -/
import Derived.Test.YtoflefonhegogaaLives
import Derived.Test.YtoflefonhegogaaOpen
import Derived.Test.YtoflefonhegogaaWireO
namespace Go.Proofs.Ytoflefonhegogaa
open Go.RowKit

def aftL (p : List Int) : List Int := if 0 < cutN p p.length then aftOf p else []
def AftPost (w : World) (p : List Int) (en : Ending) (w' : World) : Prop :=
  ∃ A c, en = .returned (.tuple #[.slice A (aftL p).length c, .bool (decide (0 < cutN p p.length))]) ∧ Rb w' w'.heap.size A (aftL p) ∧ Below w.heap.size w w'
theorem wireAfterA {A : Option Addr} {c n : Nat} {p : List Int} (w : World) (ha : Rb w w.heap.size A p) (hl : p.length ≤ 5000) (hp : Byt p) (hn : p.length = n) (hc : p.length ≤ c) :
    Calls Try.prog 11 #[.slice A n c] w (AftPost w p) := by
  by_cases h : 0 < cutN p p.length
  · refine (wireAfter1 w ha (Nat.le_refl _) (by omega) hp h hn hc).mono ?_
    rintro e w1 ⟨A1, c1, rfl, happ, _⟩
    exact ⟨A1, c1, by simp [aftL, h], by rw [aftL, if_pos h]; exact happ.rd, happ.below0⟩
  · refine (wireAfter0 w ha (by simp only [maxLen]; omega) (by omega) hn).mono ?_
    rintro e w1 ⟨rfl, rfl⟩
    exact ⟨none, 0, by simp [aftL, h], by rw [aftL, if_neg h]; exact Rd.nil, Below.refl _ _⟩
theorem refAfterA {A : Option Addr} {c n : Nat} {p : List Int} (w : World) (ha : Rb w w.heap.size A p) (hl : p.length ≤ 5000) (hp : Byt p) (hn : p.length = n) (hc : p.length ≤ c) :
    Calls Try.prog 18 #[.slice A n c] w (AftPost w p) := by
  by_cases h : 0 < cutN p p.length
  · refine (refAfter1 w ha (Nat.le_refl _) (by omega) hp h hn hc).mono ?_
    rintro e w1 ⟨A1, c1, rfl, happ, _⟩
    exact ⟨A1, c1, by simp [aftL, h], by rw [aftL, if_pos h]; exact happ.rd, happ.below0⟩
  · refine (refAfter0 w ha (by simp only [maxLen]; omega) (by omega) hn).mono ?_
    rintro e w1 ⟨rfl, rfl⟩
    exact ⟨none, 0, by simp [aftL, h], by rw [aftL, if_neg h]; exact Rd.nil, Below.refl _ _⟩
theorem aftL_len (p : List Int) : (aftL p).length ≤ p.length := by
  rw [aftL]
  split
  · rename_i h
    rw [aftOf_len p h]
    exact cutN_le p p.length
  · simp

theorem eqb_self (l : List Int) : eqb l l = true := by simp [eqb]
set_option maxHeartbeats 1000000 in
theorem wireMakes_core (A : Option Addr) (n c : Nat) (b : List Int) (A1 : Option Addr) (n1 c1 : Nat) (p : List Int) (x : Nat) (s : ByteArray) (w : World) (hb0 : InB w A n c b) (hp0 : InB w A1 n1 c1 p) (hx : x < 18446744073709551616) (hn : n ≤ 5000) (hn1 : n1 ≤ 5000) (hs : s.size ≤ 5000) :
    Calls Try.prog 5 #[.slice A n c, .slice A1 n1 c1, .int .u64 x, .string s] w fun e w' => e = .returned (.bool true) ∧ Below w.heap.size w w' := by
  obtain ⟨rb, lb, cb, mb, bb, nb⟩ := hb0
  obtain ⟨rp, lp, cp, mp, bp, np⟩ := hp0
  clear mb mp nb np
  have HX := Lib.hid hx
  clear hx
  have hnl := numEnc_u64 HX.out
  have hpl := numEnc_len 3 n1 (by have : (128:Nat)^3 = 2097152 := by decide
                                  omega) (by omega)
  have hal := aftL_len p
  have hlx := ordEnc_len x
  have htl := txtEnc_len (nums s)
  rw [nums_len] at htl
  have rp0 := rp
  go_enter Try.func5, Try.ntmps5
  go_wp2_with fail
  refine (lives_true w).mono ?_
  rintro e w1 ⟨rfl, hb⟩
  replace rb := rb.belowS hb
  replace rp := rp.belowS hb
  go_wp2_with fail
  refine (kitOwn _ rb (Nat.le_refl _) (by omega) lb).mono ?_
  rintro e w2 ⟨A2, c2, rfl, h2, ne2⟩
  go_wp2_with fail
  refine (kitOwn _ (rp.belowS h2.below0) (Nat.le_refl _) (by omega) lp).mono ?_
  rintro e w3 ⟨A3, c3, rfl, h3, ne3⟩
  have h2' := h2.later h3.below0
  have sep : p = [] ∨ Sep A2 A3 := .inr fun a a' ha ha' e => by have := (h2.lo a ha).2; have := (h3.lo a' ha').1; omega
  go_wp2_with fail
  refine (wirePiece _ h2'.own h2'.heap h3.rd (Nat.le_refl _) sep (by omega) (by omega) lp).mono ?_
  rintro e w4 ⟨A4, c4, rfl, h4⟩
  have hh := h2'.trans h4
  clear sep h2 h3 h4 h2' ne2 ne3
  have kk := hh.below0
  replace hb := hb.trans (kk.mono hb.size)
  replace rb := rb.belowS kk
  replace rp := rp.belowS kk
  clear kk
  have rq := hh.rd
  have lenrq : (b ++ (numEnc p.length ++ p)).length = n + (numEnc n1).length + n1 := by rw [List.length_append, List.length_append, lp, lb]; omega
  clear hh
  go_wp2_with fail
  refine (kitOwn _ rb (Nat.le_refl _) (by omega) lb).mono ?_
  rintro e w5 ⟨A5, c5, rfl, h5, ne5⟩
  go_wp2_with fail
  have sep : p = [] ∨ Sep A5 A1 := by
    by_cases hp0 : p = []
    · exact .inl hp0
    · obtain ⟨bb, oo, e1, hbb, _⟩ := rp0 (by simpa [bv] using hp0)
      refine .inr fun a a' ha ha' e => ?_
      rw [e1] at ha'
      injection ha' with ha'
      subst ha'
      have := (h5.lo a ha).1
      have := hb.size
      simp at e
      omega
  go_wp2_with fail
  refine (refPiece _ h5.own h5.heap (rp.belowS h5.below0) (Nat.le_refl _) sep (by omega) (by omega) lp).mono ?_
  rintro e w6 ⟨A6, c6, rfl, h6⟩
  have hh := h5.trans h6
  clear sep h5 h6 ne5
  have kk := hh.below0
  replace hb := hb.trans (kk.mono hb.size)
  replace rb := rb.belowS kk
  replace rp := rp.belowS kk
  replace rq := rq.belowS kk
  clear kk
  have rr := hh.rd
  have lenrr : (b ++ (numEnc p.length ++ p)).length = n + (numEnc n1).length + n1 := by rw [List.length_append, List.length_append, lp, lb]; omega
  clear hh
  go_wp2_with fail
  refine (kitOwn _ rp (Nat.le_refl _) (by omega) lp).mono ?_
  rintro e w7 ⟨A7, c7, rfl, h7, ne7⟩
  go_wp2_with fail
  refine (wireAfterA _ h7.rd (by omega) bp lp (by have := h7.cap; omega)).mono ?_
  rintro e w8 ⟨A8, c8, rfl, ra, h8'⟩
  have hh := h7.below0.trans (h8'.mono h7.heap)
  clear h7 h8' ne7
  have kk := hh
  replace hb := hb.trans (kk.mono hb.size)
  replace rb := rb.belowS kk
  replace rp := rp.belowS kk
  replace rq := rq.belowS kk
  replace rr := rr.belowS kk
  clear kk
  clear hh
  go_wp2_with fail
  refine (refAfterA _ rp (by omega) bp lp (by omega)).mono ?_
  rintro e w9 ⟨A9, c9, rfl, rw_, hh⟩
  have kk := hh
  replace hb := hb.trans (kk.mono hb.size)
  replace rb := rb.belowS kk
  replace rp := rp.belowS kk
  replace rq := rq.belowS kk
  replace rr := rr.belowS kk
  replace ra := ra.belowS kk
  clear kk
  clear hh
  go_wp2_with fail
  refine (kitOwn _ rb (Nat.le_refl _) (by omega) lb).mono ?_
  rintro e w10 ⟨A10, c10, rfl, h10, ne10⟩
  go_wp2_with fail
  refine (wireNumber _ h10.own h10.heap HX.out (by omega)).mono ?_
  rintro e w11 ⟨A11, c11, rfl, h11, ne11⟩
  have hh := h10.trans h11
  clear h10 h11 ne10 ne11
  have kk := hh.below0
  replace hb := hb.trans (kk.mono hb.size)
  replace rb := rb.belowS kk
  replace rp := rp.belowS kk
  replace rq := rq.belowS kk
  replace rr := rr.belowS kk
  replace ra := ra.belowS kk
  replace rw_ := rw_.belowS kk
  clear kk
  have rn := hh.rd
  have lenrn := own_length hh.own
  rw [bv_length] at lenrn
  clear hh
  go_wp2_with fail
  refine (kitOwn _ rb (Nat.le_refl _) (by omega) lb).mono ?_
  rintro e w12 ⟨A12, c12, rfl, h12, ne12⟩
  go_wp2_with fail
  refine (refNumber _ h12.own h12.heap HX.out (by omega)).mono ?_
  rintro e w13 ⟨A13, c13, rfl, h13, ne13⟩
  have hh := h12.trans h13
  clear h12 h13 ne12 ne13
  have kk := hh.below0
  replace hb := hb.trans (kk.mono hb.size)
  replace rb := rb.belowS kk
  replace rp := rp.belowS kk
  replace rq := rq.belowS kk
  replace rr := rr.belowS kk
  replace ra := ra.belowS kk
  replace rw_ := rw_.belowS kk
  replace rn := rn.belowS kk
  clear kk
  have rm := hh.rd
  have lenrm := own_length hh.own
  rw [bv_length] at lenrm
  clear hh
  go_wp2_with fail
  refine (kitBytes _ rn rm (by first | (simp only [maxLen]; omega) | (simp only [maxLen, List.length_append]; omega)) (by first | (simp only [maxLen]; omega) | (simp only [maxLen, List.length_append]; omega)) lenrn lenrm).mono ?_
  rintro e w14 ⟨rfl, q14, hw⟩
  subst hw
  rw [eqb_self]
  replace hb := below_drewN hb q14
  replace rb := rb.drewN q14
  replace rp := rp.drewN q14
  replace rq := rq.drewN q14
  replace rr := rr.drewN q14
  replace ra := ra.drewN q14
  replace rw_ := rw_.drewN q14
  clear rn rm
  clear lenrn lenrm
  go_wp2_with fail
  refine (wireSize _ HX.out).mono ?_
  rintro e w77 ⟨rfl, hw⟩
  subst hw
  go_wp2_with fail
  refine (refSize _ HX.out).mono ?_
  rintro e w15 ⟨rfl, hh⟩
  have kk := hh
  replace hb := hb.trans (kk.mono hb.size)
  replace rb := rb.belowS kk
  replace rp := rp.belowS kk
  replace rq := rq.belowS kk
  replace rr := rr.belowS kk
  replace ra := ra.belowS kk
  replace rw_ := rw_.belowS kk
  clear kk
  clear hh
  go_wp2_with fail
  refine (kitBytes _ rq rr (by first | (simp only [maxLen]; omega) | (simp only [maxLen, List.length_append]; omega)) (by first | (simp only [maxLen]; omega) | (simp only [maxLen, List.length_append]; omega)) lenrq lenrr).mono ?_
  rintro e w16 ⟨rfl, q16, hw⟩
  subst hw
  rw [eqb_self]
  replace hb := below_drewN hb q16
  replace rb := rb.drewN q16
  replace rp := rp.drewN q16
  replace ra := ra.drewN q16
  replace rw_ := rw_.drewN q16
  clear rq rr
  clear lenrq lenrr
  go_wp2_with fail
  refine (kitOwn _ rb (Nat.le_refl _) (by omega) lb).mono ?_
  rintro e w17 ⟨A17, c17, rfl, h17, ne17⟩
  go_wp2_with fail
  refine (wireOrdered _ h17.own h17.heap HX.out (by omega)).mono ?_
  rintro e w18 ⟨A18, c18, rfl, h18, ne18⟩
  have hh := h17.trans h18
  clear h17 h18 ne17 ne18
  have kk := hh.below0
  replace hb := hb.trans (kk.mono hb.size)
  replace rb := rb.belowS kk
  replace rp := rp.belowS kk
  replace ra := ra.belowS kk
  replace rw_ := rw_.belowS kk
  clear kk
  have rn := hh.rd
  have lenrn := own_length hh.own
  rw [bv_length] at lenrn
  clear hh
  go_wp2_with fail
  refine (kitOwn _ rb (Nat.le_refl _) (by omega) lb).mono ?_
  rintro e w19 ⟨A19, c19, rfl, h19, ne19⟩
  go_wp2_with fail
  refine (refOrdered _ h19.own h19.heap HX.out (by omega)).mono ?_
  rintro e w20 ⟨A20, c20, rfl, h20, ne20⟩
  have hh := h19.trans h20
  clear h19 h20 ne19 ne20
  have kk := hh.below0
  replace hb := hb.trans (kk.mono hb.size)
  replace rb := rb.belowS kk
  replace rp := rp.belowS kk
  replace ra := ra.belowS kk
  replace rw_ := rw_.belowS kk
  replace rn := rn.belowS kk
  clear kk
  have rm := hh.rd
  have lenrm := own_length hh.own
  rw [bv_length] at lenrm
  clear hh
  go_wp2_with fail
  refine (kitBytes _ rn rm (by first | (simp only [maxLen]; omega) | (simp only [maxLen, List.length_append]; omega)) (by first | (simp only [maxLen]; omega) | (simp only [maxLen, List.length_append]; omega)) lenrn lenrm).mono ?_
  rintro e w21 ⟨rfl, q21, hw⟩
  subst hw
  rw [eqb_self]
  replace hb := below_drewN hb q21
  replace rb := rb.drewN q21
  replace rp := rp.drewN q21
  replace ra := ra.drewN q21
  replace rw_ := rw_.drewN q21
  clear rn rm
  clear lenrn lenrm
  go_wp2_with fail
  refine (kitOwn _ rb (Nat.le_refl _) (by omega) lb).mono ?_
  rintro e w22 ⟨A22, c22, rfl, h22, ne22⟩
  go_wp2_with fail
  refine (wireOrderedText _ h22.own h22.heap (by omega) (by omega)).mono ?_
  rintro e w23 ⟨A23, c23, rfl, h23, ne23⟩
  have hh := h22.trans h23
  clear h22 h23 ne22 ne23
  have kk := hh.below0
  replace hb := hb.trans (kk.mono hb.size)
  replace rb := rb.belowS kk
  replace rp := rp.belowS kk
  replace ra := ra.belowS kk
  replace rw_ := rw_.belowS kk
  clear kk
  have rn := hh.rd
  have lenrn := own_length hh.own
  rw [bv_length] at lenrn
  clear hh
  go_wp2_with fail
  refine (kitOwn _ rb (Nat.le_refl _) (by omega) lb).mono ?_
  rintro e w24 ⟨A24, c24, rfl, h24, ne24⟩
  go_wp2_with fail
  refine (refOrderedText _ h24.own h24.heap (by omega) (by omega)).mono ?_
  rintro e w25 ⟨A25, c25, rfl, h25, ne25⟩
  have hh := h24.trans h25
  clear h24 h25 ne24 ne25
  have kk := hh.below0
  replace hb := hb.trans (kk.mono hb.size)
  replace rb := rb.belowS kk
  replace rp := rp.belowS kk
  replace ra := ra.belowS kk
  replace rw_ := rw_.belowS kk
  replace rn := rn.belowS kk
  clear kk
  have rm := hh.rd
  have lenrm := own_length hh.own
  rw [bv_length] at lenrm
  clear hh
  go_wp2_with fail
  refine (kitBytes _ rn rm (by first | (simp only [maxLen]; omega) | (simp only [maxLen, List.length_append]; omega)) (by first | (simp only [maxLen]; omega) | (simp only [maxLen, List.length_append]; omega)) (by rw [List.length_append, lb]) (by rw [List.length_append, lb])).mono ?_
  rintro e w26 ⟨rfl, q26, hw⟩
  subst hw
  rw [eqb_self]
  replace hb := below_drewN hb q26
  replace rb := rb.drewN q26
  replace rp := rp.drewN q26
  replace ra := ra.drewN q26
  replace rw_ := rw_.drewN q26
  clear rn rm
  clear lenrn lenrm
  go_wp2_with fail
  refine (kitBytes _ ra rw_ (by first | (simp only [maxLen]; omega) | (simp only [maxLen, List.length_append]; omega)) (by first | (simp only [maxLen]; omega) | (simp only [maxLen, List.length_append]; omega)) rfl rfl).mono ?_
  rintro e w27 ⟨rfl, q27, hw⟩
  subst hw
  rw [eqb_self]
  replace hb := below_drewN hb q27
  replace rb := rb.drewN q27
  replace rp := rp.drewN q27
  clear ra rw_
  go_wp2
  go_ret
  rw [World.drewN_drewN] at hb
  exact ⟨rfl, hb⟩

set_option maxHeartbeats 1000000 in
theorem wireMakes_walk (A : Option Addr) (n c : Nat) (b : List Int) (A1 : Option Addr) (n1 c1 : Nat) (p : List Int) (x : Int) (s : ByteArray) (w : World) (hb0 : InB w A n c b) (hp0 : InB w A1 n1 c1 p) (wx : (Lit.int .u64 x).wf = true) (ws : s.size ≤ maxLen) :
    Calls Try.prog 5 #[.slice A n c, .slice A1 n1 c1, .int .u64 x, .string s] w fun e w' => e = .returned (.bool true) ∧ Below w.heap.size w w' := by
  by_cases hlong : n ≤ 5000 ∧ n1 ≤ 5000 ∧ s.size ≤ 5000
  · obtain ⟨x, rfl⟩ := Int.eq_ofNat_of_zero_le (u64_wf wx).1
    exact wireMakes_core A n c b A1 n1 c1 p x s w hb0 hp0 (by have := (u64_wf wx).2; omega) hlong.1 hlong.2.1 hlong.2.2
  · have hn := hb0.cap
    have hn1 := hp0.cap
    have hm := hb0.max
    have hm1 := hp0.max
    unfold maxLen at hm hm1 ws
    clear hb0 hp0 wx
    go_enter Try.func5, Try.ntmps5
    go_wp2_with fail
    refine (lives_true w).mono ?_
    rintro e w1 ⟨rfl, hb⟩
    by_cases h1 : 5000 < n
    · clear hlong
      go_wp2_with fail
      go_ret
      exact ⟨rfl, hb⟩
    · by_cases h2 : 5000 < n1
      · clear hlong
        go_wp2_with fail
        go_ret
        exact ⟨rfl, hb⟩
      · have h3 : 5000 < s.size := by omega
        clear hlong
        go_wp2_with fail
        go_ret
        exact ⟨rfl, hb⟩

end Go.Proofs.Ytoflefonhegogaa
