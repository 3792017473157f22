/- The statement WireOrder: keys of numbers and texts stand in the order of their parts. The walk. -/
import Derived.Test.YtoflefonhegogaaLives
import Derived.Test.YtoflefonhegogaaOpen
import Derived.Test.YtoflefonhegogaaWireO
namespace Go.Proofs.Ytoflefonhegogaa
open Go.RowKit

/-- OrderedText behind nothing. -/
theorem textNew {s : ByteArray} (w : World) (hs : s.size ≤ 1073741824) :
    Calls Try.prog 23 #[.slice none 0 0, .string s] w (RetNew 5 1 w (txtEnc (nums s)).length (bv (txtEnc (nums s))) (· ≠ none)) := by
  have h := wireOrderedText (xs := []) w (World.ownsRow_nil w w.heap.size 5 1) (Nat.le_refl _) hs (by omega)
  simp only [List.nil_append] at h
  exact h
theorem nums_lt (s t : ByteArray) : Op.bytesLess s.toList t.toList = ltb (nums s) (nums t) := by
  have := ltb_str (nums_byt s) (nums_byt t)
  rwa [strOf_nums, strOf_nums] at this
/-- A slice that was made, as its readers want it. -/
theorem New.rd {ty : TypeId} {w w' : World} {A : Option Addr} {n c base : Nat} {v : Value} {zs : List Int} (h : App base ty 1 w v w' (.slice A n c) n (bv zs)) : Rb w' w'.heap.size A zs ∧ n ≤ c ∧ zs.length = n := by
  refine ⟨Rd.of_own h.own, ?_, ?_⟩
  · rcases h.own.2 with ⟨h1, h2⟩ | ⟨_, _, _, h1, _, _, h2, _⟩
    · omega
    · injection h1 with _ _ h3; omega
  · have := own_length h.own
    rwa [bv_length] at this
theorem toList_inj {s t : ByteArray} (h : s.toList = t.toList) : s = t := by
  rw [ByteArray.toList_eq, ByteArray.toList_eq] at h
  exact ByteArray.ext (Array.ext' h)
theorem ltb_irrefl' (p : List Int) : ltb p p = false := by induction p with | nil => rfl | cons x p ih => simp [ltb, ih]
theorem drop_key2 (s : List Int) (x : Nat) : ((key2 s x).drop (txtEnc s).length) = ordEnc x := by simp [key2]

set_option maxHeartbeats 4000000 in
theorem wireOrder_same_lt (s : ByteArray) (x y : Nat) (w : World) (hs : s.size ≤ 5000) (hx : x < 18446744073709551616) (hy : y < 18446744073709551616) (hxy : x < y) :
    Calls Try.prog 7 #[.string s, .string s, .int .u64 x, .int .u64 y] w fun e w' => e = .returned (.bool true) ∧ Below w.heap.size w w' := by
  have hyx : ¬ y < x := by omega
  have hne : ¬ x = y := by omega
  have hneb : ((x : Int) == (y : Int)) = false := by rw [beq_eq_false_iff_ne]; omega
  have hself : Op.bytesLess s.toList s.toList = false := by rw [nums_lt]; exact ltb_irrefl' _
  have ls := txtEnc_len (nums s)
  have lt := txtEnc_len (nums s)
  rw [nums_len] at ls lt
  have bs := txtEnc_byt (nums_byt s)
  have bt := txtEnc_byt (nums_byt s)
  obtain ⟨p, hp⟩ : ∃ p, p = txtEnc (nums s) := ⟨_, rfl⟩
  obtain ⟨q, hq⟩ : ∃ q, q = txtEnc (nums s) := ⟨_, rfl⟩
  rw [← hp] at ls bs
  rw [← hq] at lt bt
  have OTS : ∀ W, Hid (Calls Try.prog 23 #[.slice none 0 0, .string s] W (RetNew 5 1 W p.length (bv p) (· ≠ none))) := fun W => by rw [hp]; exact textNew W (by omega)
  have OTT : ∀ W, Hid (Calls Try.prog 23 #[.slice none 0 0, .string s] W (RetNew 5 1 W q.length (bv q) (· ≠ none))) := fun W => by rw [hq]; exact textNew W (by omega)
  have kb : Byt (p ++ ordEnc x) := bs.append (ordEnc_byt x)
  have kb' : Byt (q ++ ordEnc y) := bt.append (ordEnc_byt y)
  have HP := Lib.hid hp
  have HQ := Lib.hid hq
  have L1 : Hid (ltb (p ++ ordEnc x) (q ++ ordEnc y) = true) := by rw [hp, hq]; exact (key2_lt (nums_byt s) (nums_byt s) hx hy).trans (by simp [hxy])
  have L2 : Hid (ltb (q ++ ordEnc y) (p ++ ordEnc x) = false) := by rw [hp, hq]; exact (key2_lt (nums_byt s) (nums_byt s) hy hx).trans (by simp [hyx])
  have LE : Hid (eqb (p ++ ordEnc x) (q ++ ordEnc y) = false) := by rw [hp, hq]; exact (key2_eq hx hy).trans (by simp [hne])
  have LT : Hid (txtOf (p ++ ordEnc x) = .inl (nums s, p.length)) := by rw [hp]; exact txtOf_enc _ _
  clear hp hq
  have lo := ordEnc_len x
  have lo' := ordEnc_len y
  have LO := Lib.hid lo
  have LO' := Lib.hid lo'
  clear lo lo'
  go_enter Try.func7, Try.ntmps7
  go_wp2_with fail
  refine (lives_true w).mono ?_
  rintro e w1 ⟨rfl, hb⟩
  go_wp2_with fail
  refine (OTS w1).out.mono ?_
  rintro e w2 ⟨A2, c2, rfl, h2, _⟩
  go_wp2_with fail
  refine (wireOrdered w2 h2.own h2.heap hx (by omega)).mono ?_
  rintro e w3 ⟨A3, c3, rfl, h3, _⟩
  have h23 := h2.trans h3
  replace hb := hb.trans (h23.below0.mono hb.size)
  obtain ⟨r3, hc3, hn3⟩ := New.rd h23
  clear h2 h3 h23
  go_wp2_with fail
  refine (OTT w3).out.mono ?_
  rintro e w4 ⟨A4, c4, rfl, h4, _⟩
  go_wp2_with fail
  refine (wireOrdered w4 h4.own h4.heap hy (by omega)).mono ?_
  rintro e w5 ⟨A5, c5, rfl, h5, _⟩
  have h45 := h4.trans h5
  have hb5 := h45.below0
  replace hb := hb.trans (hb5.mono hb.size)
  replace r3 := r3.belowS hb5
  obtain ⟨r5, hc5, hn5⟩ := New.rd h45
  clear h4 h5 h45 hb5
  go_wp2_with fail
  refine (kitBefore _ r3 r5 kb kb' hn3 hn5).mono ?_
  rintro e w6 ⟨rfl, hw⟩
  subst hw
  rw [L1.out]
  clear L1
  go_wp2_with fail
  refine (kitBytes _ r3 r5 (by simp only [maxLen]; omega) (by simp only [maxLen]; omega) hn3 hn5).mono ?_
  rintro e w6 ⟨rfl, n6, hw⟩
  subst hw
  rw [LE.out]
  clear LE
  replace hb := below_drewN hb n6
  replace r3 := r3.drewN n6
  replace r5 := r5.drewN n6
  go_wp2_with fail
  refine (kitBefore _ r5 r3 kb' kb hn5 hn3).mono ?_
  rintro e w7 ⟨rfl, hw⟩
  subst hw
  rw [L2.out]
  clear L2 r5
  go_wp2_with fail
  refine (OTS _).out.mono ?_
  rintro e w8 ⟨A8, c8, rfl, h8, _⟩
  have hb8 := h8.below0
  replace hb := hb.trans (hb8.mono hb.size)
  replace r3 := r3.belowS hb8
  obtain ⟨r8, hc8, hn8⟩ := New.rd h8
  clear h8 hb8
  go_wp2_with fail
  refine (OTT w8).out.mono ?_
  rintro e w9 ⟨A9, c9, rfl, h9, _⟩
  have hb9 := h9.below0
  replace hb := hb.trans (hb9.mono hb.size)
  replace r3 := r3.belowS hb9
  replace r8 := r8.belowS hb9
  obtain ⟨r9, hc9, hn9⟩ := New.rd h9
  clear h9 hb9
  go_wp2_with fail
  refine (wireReadOrderedText _ r3 (Nat.le_refl _) kb (by omega) hn3).mono ?_
  rintro e w11 hret
  rw [LT.out] at hret
  obtain ⟨rfl, hb11⟩ := hret
  replace hb := hb.trans (hb11.mono hb.size)
  replace r3 := r3.belowS hb11
  rw [strOf_nums]
  have rd := Rb.drop (k := p.length) r3 (cap := c3) (by omega)
  have hdl : ((p ++ ordEnc x).drop p.length) = ordEnc x := by simp
  rw [hdl, if_neg (show ¬ c3 = p.length from by omega)] at rd
  clear hdl r3
  go_wp2_with fail
  generalize Option.map (fun a : Addr => a.add p.length) A3 = A12 at *
  refine (wireReadOrdered1 _ rd (ordEnc_byt x) (by simp only [maxLen]; have := LO.out; omega) (by omega) (by have := LO.out; omega) (by omega)).mono ?_
  rintro e w12 ⟨rfl, hw⟩
  subst hw
  have hov : ordVal ((ordEnc x).take 8) = x := by rw [List.take_of_length_le (by have := LO.out; omega)]; exact ordVal_enc hx
  rw [hov]
  clear hov rd
  go_wp2
  go_ret
  exact ⟨rfl, hb⟩


set_option maxHeartbeats 4000000 in
theorem wireOrder_same_gt (s : ByteArray) (x y : Nat) (w : World) (hs : s.size ≤ 5000) (hx : x < 18446744073709551616) (hy : y < 18446744073709551616) (hyx : y < x) :
    Calls Try.prog 7 #[.string s, .string s, .int .u64 x, .int .u64 y] w fun e w' => e = .returned (.bool true) ∧ Below w.heap.size w w' := by
  have hxy : ¬ x < y := by omega
  have hne : ¬ x = y := by omega
  have hneb : ((x : Int) == (y : Int)) = false := by rw [beq_eq_false_iff_ne]; omega
  have hself : Op.bytesLess s.toList s.toList = false := by rw [nums_lt]; exact ltb_irrefl' _
  have ls := txtEnc_len (nums s)
  have lt := txtEnc_len (nums s)
  rw [nums_len] at ls lt
  have bs := txtEnc_byt (nums_byt s)
  have bt := txtEnc_byt (nums_byt s)
  obtain ⟨p, hp⟩ : ∃ p, p = txtEnc (nums s) := ⟨_, rfl⟩
  obtain ⟨q, hq⟩ : ∃ q, q = txtEnc (nums s) := ⟨_, rfl⟩
  rw [← hp] at ls bs
  rw [← hq] at lt bt
  have OTS : ∀ W, Hid (Calls Try.prog 23 #[.slice none 0 0, .string s] W (RetNew 5 1 W p.length (bv p) (· ≠ none))) := fun W => by rw [hp]; exact textNew W (by omega)
  have OTT : ∀ W, Hid (Calls Try.prog 23 #[.slice none 0 0, .string s] W (RetNew 5 1 W q.length (bv q) (· ≠ none))) := fun W => by rw [hq]; exact textNew W (by omega)
  have kb : Byt (p ++ ordEnc x) := bs.append (ordEnc_byt x)
  have kb' : Byt (q ++ ordEnc y) := bt.append (ordEnc_byt y)
  have HP := Lib.hid hp
  have HQ := Lib.hid hq
  have L1 : Hid (ltb (p ++ ordEnc x) (q ++ ordEnc y) = false) := by rw [hp, hq]; exact (key2_lt (nums_byt s) (nums_byt s) hx hy).trans (by simp [hxy])
  have L2 : Hid (ltb (q ++ ordEnc y) (p ++ ordEnc x) = true) := by rw [hp, hq]; exact (key2_lt (nums_byt s) (nums_byt s) hy hx).trans (by simp [hyx])
  have LE : Hid (eqb (p ++ ordEnc x) (q ++ ordEnc y) = false) := by rw [hp, hq]; exact (key2_eq hx hy).trans (by simp [hne])
  have LT : Hid (txtOf (p ++ ordEnc x) = .inl (nums s, p.length)) := by rw [hp]; exact txtOf_enc _ _
  clear hp hq
  have lo := ordEnc_len x
  have lo' := ordEnc_len y
  have LO := Lib.hid lo
  have LO' := Lib.hid lo'
  clear lo lo'
  go_enter Try.func7, Try.ntmps7
  go_wp2_with fail
  refine (lives_true w).mono ?_
  rintro e w1 ⟨rfl, hb⟩
  go_wp2_with fail
  refine (OTS w1).out.mono ?_
  rintro e w2 ⟨A2, c2, rfl, h2, _⟩
  go_wp2_with fail
  refine (wireOrdered w2 h2.own h2.heap hx (by omega)).mono ?_
  rintro e w3 ⟨A3, c3, rfl, h3, _⟩
  have h23 := h2.trans h3
  replace hb := hb.trans (h23.below0.mono hb.size)
  obtain ⟨r3, hc3, hn3⟩ := New.rd h23
  clear h2 h3 h23
  go_wp2_with fail
  refine (OTT w3).out.mono ?_
  rintro e w4 ⟨A4, c4, rfl, h4, _⟩
  go_wp2_with fail
  refine (wireOrdered w4 h4.own h4.heap hy (by omega)).mono ?_
  rintro e w5 ⟨A5, c5, rfl, h5, _⟩
  have h45 := h4.trans h5
  have hb5 := h45.below0
  replace hb := hb.trans (hb5.mono hb.size)
  replace r3 := r3.belowS hb5
  obtain ⟨r5, hc5, hn5⟩ := New.rd h45
  clear h4 h5 h45 hb5
  go_wp2_with fail
  refine (kitBefore _ r3 r5 kb kb' hn3 hn5).mono ?_
  rintro e w6 ⟨rfl, hw⟩
  subst hw
  rw [L1.out]
  clear L1
  go_wp2_with fail
  refine (kitBytes _ r3 r5 (by simp only [maxLen]; omega) (by simp only [maxLen]; omega) hn3 hn5).mono ?_
  rintro e w6 ⟨rfl, n6, hw⟩
  subst hw
  rw [LE.out]
  clear LE
  replace hb := below_drewN hb n6
  replace r3 := r3.drewN n6
  replace r5 := r5.drewN n6
  go_wp2_with fail
  refine (kitBefore _ r5 r3 kb' kb hn5 hn3).mono ?_
  rintro e w7 ⟨rfl, hw⟩
  subst hw
  rw [L2.out]
  clear L2 r5
  go_wp2_with fail
  refine (OTS _).out.mono ?_
  rintro e w8 ⟨A8, c8, rfl, h8, _⟩
  have hb8 := h8.below0
  replace hb := hb.trans (hb8.mono hb.size)
  replace r3 := r3.belowS hb8
  obtain ⟨r8, hc8, hn8⟩ := New.rd h8
  clear h8 hb8
  go_wp2_with fail
  refine (OTT w8).out.mono ?_
  rintro e w9 ⟨A9, c9, rfl, h9, _⟩
  have hb9 := h9.below0
  replace hb := hb.trans (hb9.mono hb.size)
  replace r3 := r3.belowS hb9
  replace r8 := r8.belowS hb9
  obtain ⟨r9, hc9, hn9⟩ := New.rd h9
  clear h9 hb9
  go_wp2_with fail
  refine (wireReadOrderedText _ r3 (Nat.le_refl _) kb (by omega) hn3).mono ?_
  rintro e w11 hret
  rw [LT.out] at hret
  obtain ⟨rfl, hb11⟩ := hret
  replace hb := hb.trans (hb11.mono hb.size)
  replace r3 := r3.belowS hb11
  rw [strOf_nums]
  have rd := Rb.drop (k := p.length) r3 (cap := c3) (by omega)
  have hdl : ((p ++ ordEnc x).drop p.length) = ordEnc x := by simp
  rw [hdl, if_neg (show ¬ c3 = p.length from by omega)] at rd
  clear hdl r3
  go_wp2_with fail
  generalize Option.map (fun a : Addr => a.add p.length) A3 = A12 at *
  refine (wireReadOrdered1 _ rd (ordEnc_byt x) (by simp only [maxLen]; have := LO.out; omega) (by omega) (by have := LO.out; omega) (by omega)).mono ?_
  rintro e w12 ⟨rfl, hw⟩
  subst hw
  have hov : ordVal ((ordEnc x).take 8) = x := by rw [List.take_of_length_le (by have := LO.out; omega)]; exact ordVal_enc hx
  rw [hov]
  clear hov rd
  go_wp2
  go_ret
  exact ⟨rfl, hb⟩


set_option maxHeartbeats 4000000 in
theorem wireOrder_same_eq (s : ByteArray) (x : Nat) (w : World) (hs : s.size ≤ 5000) (hx : x < 18446744073709551616) :
    Calls Try.prog 7 #[.string s, .string s, .int .u64 x, .int .u64 x] w fun e w' => e = .returned (.bool true) ∧ Below w.heap.size w w' := by
  have hxy : ¬ x < x := by omega
  have hyx : ¬ x < x := by omega
  have hself : Op.bytesLess s.toList s.toList = false := by rw [nums_lt]; exact ltb_irrefl' _
  have ls := txtEnc_len (nums s)
  have lt := txtEnc_len (nums s)
  rw [nums_len] at ls lt
  have bs := txtEnc_byt (nums_byt s)
  have bt := txtEnc_byt (nums_byt s)
  obtain ⟨p, hp⟩ : ∃ p, p = txtEnc (nums s) := ⟨_, rfl⟩
  obtain ⟨q, hq⟩ : ∃ q, q = txtEnc (nums s) := ⟨_, rfl⟩
  rw [← hp] at ls bs
  rw [← hq] at lt bt
  have OTS : ∀ W, Hid (Calls Try.prog 23 #[.slice none 0 0, .string s] W (RetNew 5 1 W p.length (bv p) (· ≠ none))) := fun W => by rw [hp]; exact textNew W (by omega)
  have OTT : ∀ W, Hid (Calls Try.prog 23 #[.slice none 0 0, .string s] W (RetNew 5 1 W q.length (bv q) (· ≠ none))) := fun W => by rw [hq]; exact textNew W (by omega)
  have kb : Byt (p ++ ordEnc x) := bs.append (ordEnc_byt x)
  have kb' : Byt (q ++ ordEnc x) := bt.append (ordEnc_byt x)
  have HP := Lib.hid hp
  have HQ := Lib.hid hq
  have L1 : Hid (ltb (p ++ ordEnc x) (q ++ ordEnc x) = false) := by rw [hp, hq]; exact (key2_lt (nums_byt s) (nums_byt s) hx hx).trans (by simp [hxy])
  have L2 : Hid (ltb (q ++ ordEnc x) (p ++ ordEnc x) = false) := by rw [hp, hq]; exact (key2_lt (nums_byt s) (nums_byt s) hx hx).trans (by simp [hyx])
  have LE : Hid (eqb (p ++ ordEnc x) (q ++ ordEnc x) = true) := by rw [hp, hq]; exact (key2_eq hx hx).trans (by simp)
  have LT : Hid (txtOf (p ++ ordEnc x) = .inl (nums s, p.length)) := by rw [hp]; exact txtOf_enc _ _
  clear hp hq
  have lo := ordEnc_len x
  have lo' := ordEnc_len x
  have LO := Lib.hid lo
  have LO' := Lib.hid lo'
  clear lo lo'
  go_enter Try.func7, Try.ntmps7
  go_wp2_with fail
  refine (lives_true w).mono ?_
  rintro e w1 ⟨rfl, hb⟩
  go_wp2_with fail
  refine (OTS w1).out.mono ?_
  rintro e w2 ⟨A2, c2, rfl, h2, _⟩
  go_wp2_with fail
  refine (wireOrdered w2 h2.own h2.heap hx (by omega)).mono ?_
  rintro e w3 ⟨A3, c3, rfl, h3, _⟩
  have h23 := h2.trans h3
  replace hb := hb.trans (h23.below0.mono hb.size)
  obtain ⟨r3, hc3, hn3⟩ := New.rd h23
  clear h2 h3 h23
  go_wp2_with fail
  refine (OTT w3).out.mono ?_
  rintro e w4 ⟨A4, c4, rfl, h4, _⟩
  go_wp2_with fail
  refine (wireOrdered w4 h4.own h4.heap hx (by omega)).mono ?_
  rintro e w5 ⟨A5, c5, rfl, h5, _⟩
  have h45 := h4.trans h5
  have hb5 := h45.below0
  replace hb := hb.trans (hb5.mono hb.size)
  replace r3 := r3.belowS hb5
  obtain ⟨r5, hc5, hn5⟩ := New.rd h45
  clear h4 h5 h45 hb5
  go_wp2_with fail
  refine (kitBefore _ r3 r5 kb kb' hn3 hn5).mono ?_
  rintro e w6 ⟨rfl, hw⟩
  subst hw
  rw [L1.out]
  clear L1
  go_wp2_with fail
  refine (kitBytes _ r3 r5 (by simp only [maxLen]; omega) (by simp only [maxLen]; omega) hn3 hn5).mono ?_
  rintro e w6 ⟨rfl, n6, hw⟩
  subst hw
  rw [LE.out]
  clear LE
  replace hb := below_drewN hb n6
  replace r3 := r3.drewN n6
  replace r5 := r5.drewN n6
  go_wp2_with fail
  refine (kitBefore _ r5 r3 kb' kb hn5 hn3).mono ?_
  rintro e w7 ⟨rfl, hw⟩
  subst hw
  rw [L2.out]
  clear L2 r5
  go_wp2_with fail
  refine (OTS _).out.mono ?_
  rintro e w8 ⟨A8, c8, rfl, h8, _⟩
  have hb8 := h8.below0
  replace hb := hb.trans (hb8.mono hb.size)
  replace r3 := r3.belowS hb8
  obtain ⟨r8, hc8, hn8⟩ := New.rd h8
  clear h8 hb8
  go_wp2_with fail
  refine (OTT w8).out.mono ?_
  rintro e w9 ⟨A9, c9, rfl, h9, _⟩
  have hb9 := h9.below0
  replace hb := hb.trans (hb9.mono hb.size)
  replace r3 := r3.belowS hb9
  replace r8 := r8.belowS hb9
  obtain ⟨r9, hc9, hn9⟩ := New.rd h9
  clear h9 hb9
  go_wp2_with fail
  refine (wireReadOrderedText _ r3 (Nat.le_refl _) kb (by omega) hn3).mono ?_
  rintro e w11 hret
  rw [LT.out] at hret
  obtain ⟨rfl, hb11⟩ := hret
  replace hb := hb.trans (hb11.mono hb.size)
  replace r3 := r3.belowS hb11
  rw [strOf_nums]
  have rd := Rb.drop (k := p.length) r3 (cap := c3) (by omega)
  have hdl : ((p ++ ordEnc x).drop p.length) = ordEnc x := by simp
  rw [hdl, if_neg (show ¬ c3 = p.length from by omega)] at rd
  clear hdl r3
  go_wp2_with fail
  generalize Option.map (fun a : Addr => a.add p.length) A3 = A12 at *
  refine (wireReadOrdered1 _ rd (ordEnc_byt x) (by simp only [maxLen]; have := LO.out; omega) (by omega) (by have := LO.out; omega) (by omega)).mono ?_
  rintro e w12 ⟨rfl, hw⟩
  subst hw
  have hov : ordVal ((ordEnc x).take 8) = x := by rw [List.take_of_length_le (by have := LO.out; omega)]; exact ordVal_enc hx
  rw [hov]
  clear hov rd
  go_wp2
  go_ret
  exact ⟨rfl, hb⟩


set_option maxHeartbeats 4000000 in
theorem wireOrder_lt (s t : ByteArray) (x y : Nat) (w : World) (hs : s.size ≤ 5000) (ht : t.size ≤ 5000) (hx : x < 18446744073709551616) (hy : y < 18446744073709551616) (hlt : ltb (nums s) (nums t) = true) :
    Calls Try.prog 7 #[.string s, .string t, .int .u64 x, .int .u64 y] w fun e w' => e = .returned (.bool true) ∧ Below w.heap.size w w' := by
  have hst : nums s ≠ nums t := by rintro e; rw [e, ltb_irrefl'] at hlt; exact absurd hlt (by simp)
  have hgt := ltb_asymm _ _ hlt
  have hsl : Op.bytesLess s.toList t.toList = true := by rw [nums_lt]; exact hlt
  have hseq : (s.toList == t.toList) = false := by rw [beq_eq_false_iff_ne]; intro e; exact hst (by rw [toList_inj e])
  have ls := txtEnc_len (nums s)
  have lt := txtEnc_len (nums t)
  rw [nums_len] at ls lt
  have bs := txtEnc_byt (nums_byt s)
  have bt := txtEnc_byt (nums_byt t)
  obtain ⟨p, hp⟩ : ∃ p, p = txtEnc (nums s) := ⟨_, rfl⟩
  obtain ⟨q, hq⟩ : ∃ q, q = txtEnc (nums t) := ⟨_, rfl⟩
  rw [← hp] at ls bs
  rw [← hq] at lt bt
  have OTS : ∀ W, Hid (Calls Try.prog 23 #[.slice none 0 0, .string s] W (RetNew 5 1 W p.length (bv p) (· ≠ none))) := fun W => by rw [hp]; exact textNew W (by omega)
  have OTT : ∀ W, Hid (Calls Try.prog 23 #[.slice none 0 0, .string t] W (RetNew 5 1 W q.length (bv q) (· ≠ none))) := fun W => by rw [hq]; exact textNew W (by omega)
  have kb : Byt (p ++ ordEnc x) := bs.append (ordEnc_byt x)
  have kb' : Byt (q ++ ordEnc y) := bt.append (ordEnc_byt y)
  have HP := Lib.hid hp
  have HQ := Lib.hid hq
  have L1 : Hid (ltb (p ++ ordEnc x) (q ++ ordEnc y) = true) := by rw [hp, hq]; exact (key2_lt (nums_byt s) (nums_byt t) hx hy).trans (by rw [if_neg hst]; exact hlt)
  have L2 : Hid (ltb (q ++ ordEnc y) (p ++ ordEnc x) = false) := by rw [hp, hq]; exact (key2_lt (nums_byt t) (nums_byt s) hy hx).trans (by rw [if_neg (Ne.symm hst)]; exact hgt)
  have LE : Hid (eqb (p ++ ordEnc x) (q ++ ordEnc y) = false) := by rw [hp, hq]; exact (key2_eq hx hy).trans (by simp [hst])
  have LT : Hid (txtOf (p ++ ordEnc x) = .inl (nums s, p.length)) := by rw [hp]; exact txtOf_enc _ _
  clear hp hq
  have lo := ordEnc_len x
  have lo' := ordEnc_len y
  have LO := Lib.hid lo
  have LO' := Lib.hid lo'
  clear lo lo'
  go_enter Try.func7, Try.ntmps7
  go_wp2_with fail
  refine (lives_true w).mono ?_
  rintro e w1 ⟨rfl, hb⟩
  go_wp2_with fail
  refine (OTS w1).out.mono ?_
  rintro e w2 ⟨A2, c2, rfl, h2, _⟩
  go_wp2_with fail
  refine (wireOrdered w2 h2.own h2.heap hx (by omega)).mono ?_
  rintro e w3 ⟨A3, c3, rfl, h3, _⟩
  have h23 := h2.trans h3
  replace hb := hb.trans (h23.below0.mono hb.size)
  obtain ⟨r3, hc3, hn3⟩ := New.rd h23
  clear h2 h3 h23
  go_wp2_with fail
  refine (OTT w3).out.mono ?_
  rintro e w4 ⟨A4, c4, rfl, h4, _⟩
  go_wp2_with fail
  refine (wireOrdered w4 h4.own h4.heap hy (by omega)).mono ?_
  rintro e w5 ⟨A5, c5, rfl, h5, _⟩
  have h45 := h4.trans h5
  have hb5 := h45.below0
  replace hb := hb.trans (hb5.mono hb.size)
  replace r3 := r3.belowS hb5
  obtain ⟨r5, hc5, hn5⟩ := New.rd h45
  clear h4 h5 h45 hb5
  go_wp2_with fail
  refine (kitBefore _ r3 r5 kb kb' hn3 hn5).mono ?_
  rintro e w6 ⟨rfl, hw⟩
  subst hw
  rw [L1.out]
  clear L1
  go_wp2_with fail
  refine (kitBytes _ r3 r5 (by simp only [maxLen]; omega) (by simp only [maxLen]; omega) hn3 hn5).mono ?_
  rintro e w6 ⟨rfl, n6, hw⟩
  subst hw
  rw [LE.out]
  clear LE
  replace hb := below_drewN hb n6
  replace r3 := r3.drewN n6
  replace r5 := r5.drewN n6
  go_wp2_with fail
  refine (kitBefore _ r5 r3 kb' kb hn5 hn3).mono ?_
  rintro e w7 ⟨rfl, hw⟩
  subst hw
  rw [L2.out]
  clear L2 r5
  go_wp2_with fail
  refine (OTS _).out.mono ?_
  rintro e w8 ⟨A8, c8, rfl, h8, _⟩
  have hb8 := h8.below0
  replace hb := hb.trans (hb8.mono hb.size)
  replace r3 := r3.belowS hb8
  obtain ⟨r8, hc8, hn8⟩ := New.rd h8
  clear h8 hb8
  go_wp2_with fail
  refine (OTT w8).out.mono ?_
  rintro e w9 ⟨A9, c9, rfl, h9, _⟩
  have hb9 := h9.below0
  replace hb := hb.trans (hb9.mono hb.size)
  replace r3 := r3.belowS hb9
  replace r8 := r8.belowS hb9
  obtain ⟨r9, hc9, hn9⟩ := New.rd h9
  clear h9 hb9
  have hpq : Hid (eqb p (q.take p.length) = false) := by rw [HP.out, HQ.out]; exact txt_prefix hst
  by_cases hle : p.length ≤ q.length
  · go_wp2_with fail
    refine (kitBytes (ys := q.take p.length) _ r8 (Rb.take r9 _) (by simp only [maxLen]; omega) (by simp only [maxLen]; simp; omega) rfl (by simp; omega)).mono ?_
    rintro e w10 ⟨rfl, n10, hw⟩
    subst hw
    rw [hpq.out]
    clear hpq r8 r9
    replace hb := below_drewN hb n10
    replace r3 := r3.drewN n10
    go_wp2_with fail
    refine (wireReadOrderedText _ r3 (Nat.le_refl _) kb (by omega) hn3).mono ?_
    rintro e w11 hret
    rw [LT.out] at hret
    obtain ⟨rfl, hb11⟩ := hret
    replace hb := hb.trans (hb11.mono hb.size)
    replace r3 := r3.belowS hb11
    rw [strOf_nums]
    have rd := Rb.drop (k := p.length) r3 (cap := c3) (by omega)
    have hdl : ((p ++ ordEnc x).drop p.length) = ordEnc x := by simp
    rw [hdl, if_neg (show ¬ c3 = p.length from by omega)] at rd
    clear hdl r3
    go_wp2_with fail
    generalize Option.map (fun a : Addr => a.add p.length) A3 = A12 at *
    refine (wireReadOrdered1 _ rd (ordEnc_byt x) (by simp only [maxLen]; have := LO.out; omega) (by omega) (by have := LO.out; omega) (by omega)).mono ?_
    rintro e w12 ⟨rfl, hw⟩
    subst hw
    have hov : ordVal ((ordEnc x).take 8) = x := by rw [List.take_of_length_le (by have := LO.out; omega)]; exact ordVal_enc hx
    rw [hov]
    clear hov rd
    go_wp2
    go_ret
    exact ⟨rfl, hb⟩
  · clear hpq r8 r9
    go_wp2_with fail
    refine (wireReadOrderedText _ r3 (Nat.le_refl _) kb (by omega) hn3).mono ?_
    rintro e w11 hret
    rw [LT.out] at hret
    obtain ⟨rfl, hb11⟩ := hret
    replace hb := hb.trans (hb11.mono hb.size)
    replace r3 := r3.belowS hb11
    rw [strOf_nums]
    have rd := Rb.drop (k := p.length) r3 (cap := c3) (by omega)
    have hdl : ((p ++ ordEnc x).drop p.length) = ordEnc x := by simp
    rw [hdl, if_neg (show ¬ c3 = p.length from by omega)] at rd
    clear hdl r3
    go_wp2_with fail
    generalize Option.map (fun a : Addr => a.add p.length) A3 = A12 at *
    refine (wireReadOrdered1 _ rd (ordEnc_byt x) (by simp only [maxLen]; have := LO.out; omega) (by omega) (by have := LO.out; omega) (by omega)).mono ?_
    rintro e w12 ⟨rfl, hw⟩
    subst hw
    have hov : ordVal ((ordEnc x).take 8) = x := by rw [List.take_of_length_le (by have := LO.out; omega)]; exact ordVal_enc hx
    rw [hov]
    clear hov rd
    go_wp2
    go_ret
    exact ⟨rfl, hb⟩


set_option maxHeartbeats 4000000 in
theorem wireOrder_gt (s t : ByteArray) (x y : Nat) (w : World) (hs : s.size ≤ 5000) (ht : t.size ≤ 5000) (hx : x < 18446744073709551616) (hy : y < 18446744073709551616) (hgt : ltb (nums t) (nums s) = true) :
    Calls Try.prog 7 #[.string s, .string t, .int .u64 x, .int .u64 y] w fun e w' => e = .returned (.bool true) ∧ Below w.heap.size w w' := by
  have hst : nums s ≠ nums t := by rintro e; rw [e, ltb_irrefl'] at hgt; exact absurd hgt (by simp)
  have hlt := ltb_asymm _ _ hgt
  have hsl : Op.bytesLess s.toList t.toList = false := by rw [nums_lt]; exact hlt
  have hseq : (s.toList == t.toList) = false := by rw [beq_eq_false_iff_ne]; intro e; exact hst (by rw [toList_inj e])
  have ls := txtEnc_len (nums s)
  have lt := txtEnc_len (nums t)
  rw [nums_len] at ls lt
  have bs := txtEnc_byt (nums_byt s)
  have bt := txtEnc_byt (nums_byt t)
  obtain ⟨p, hp⟩ : ∃ p, p = txtEnc (nums s) := ⟨_, rfl⟩
  obtain ⟨q, hq⟩ : ∃ q, q = txtEnc (nums t) := ⟨_, rfl⟩
  rw [← hp] at ls bs
  rw [← hq] at lt bt
  have OTS : ∀ W, Hid (Calls Try.prog 23 #[.slice none 0 0, .string s] W (RetNew 5 1 W p.length (bv p) (· ≠ none))) := fun W => by rw [hp]; exact textNew W (by omega)
  have OTT : ∀ W, Hid (Calls Try.prog 23 #[.slice none 0 0, .string t] W (RetNew 5 1 W q.length (bv q) (· ≠ none))) := fun W => by rw [hq]; exact textNew W (by omega)
  have kb : Byt (p ++ ordEnc x) := bs.append (ordEnc_byt x)
  have kb' : Byt (q ++ ordEnc y) := bt.append (ordEnc_byt y)
  have HP := Lib.hid hp
  have HQ := Lib.hid hq
  have L1 : Hid (ltb (p ++ ordEnc x) (q ++ ordEnc y) = false) := by rw [hp, hq]; exact (key2_lt (nums_byt s) (nums_byt t) hx hy).trans (by rw [if_neg hst]; exact hlt)
  have L2 : Hid (ltb (q ++ ordEnc y) (p ++ ordEnc x) = true) := by rw [hp, hq]; exact (key2_lt (nums_byt t) (nums_byt s) hy hx).trans (by rw [if_neg (Ne.symm hst)]; exact hgt)
  have LE : Hid (eqb (p ++ ordEnc x) (q ++ ordEnc y) = false) := by rw [hp, hq]; exact (key2_eq hx hy).trans (by simp [hst])
  have LT : Hid (txtOf (p ++ ordEnc x) = .inl (nums s, p.length)) := by rw [hp]; exact txtOf_enc _ _
  clear hp hq
  have lo := ordEnc_len x
  have lo' := ordEnc_len y
  have LO := Lib.hid lo
  have LO' := Lib.hid lo'
  clear lo lo'
  go_enter Try.func7, Try.ntmps7
  go_wp2_with fail
  refine (lives_true w).mono ?_
  rintro e w1 ⟨rfl, hb⟩
  go_wp2_with fail
  refine (OTS w1).out.mono ?_
  rintro e w2 ⟨A2, c2, rfl, h2, _⟩
  go_wp2_with fail
  refine (wireOrdered w2 h2.own h2.heap hx (by omega)).mono ?_
  rintro e w3 ⟨A3, c3, rfl, h3, _⟩
  have h23 := h2.trans h3
  replace hb := hb.trans (h23.below0.mono hb.size)
  obtain ⟨r3, hc3, hn3⟩ := New.rd h23
  clear h2 h3 h23
  go_wp2_with fail
  refine (OTT w3).out.mono ?_
  rintro e w4 ⟨A4, c4, rfl, h4, _⟩
  go_wp2_with fail
  refine (wireOrdered w4 h4.own h4.heap hy (by omega)).mono ?_
  rintro e w5 ⟨A5, c5, rfl, h5, _⟩
  have h45 := h4.trans h5
  have hb5 := h45.below0
  replace hb := hb.trans (hb5.mono hb.size)
  replace r3 := r3.belowS hb5
  obtain ⟨r5, hc5, hn5⟩ := New.rd h45
  clear h4 h5 h45 hb5
  go_wp2_with fail
  refine (kitBefore _ r3 r5 kb kb' hn3 hn5).mono ?_
  rintro e w6 ⟨rfl, hw⟩
  subst hw
  rw [L1.out]
  clear L1
  go_wp2_with fail
  refine (kitBytes _ r3 r5 (by simp only [maxLen]; omega) (by simp only [maxLen]; omega) hn3 hn5).mono ?_
  rintro e w6 ⟨rfl, n6, hw⟩
  subst hw
  rw [LE.out]
  clear LE
  replace hb := below_drewN hb n6
  replace r3 := r3.drewN n6
  replace r5 := r5.drewN n6
  go_wp2_with fail
  refine (kitBefore _ r5 r3 kb' kb hn5 hn3).mono ?_
  rintro e w7 ⟨rfl, hw⟩
  subst hw
  rw [L2.out]
  clear L2 r5
  go_wp2_with fail
  refine (OTS _).out.mono ?_
  rintro e w8 ⟨A8, c8, rfl, h8, _⟩
  have hb8 := h8.below0
  replace hb := hb.trans (hb8.mono hb.size)
  replace r3 := r3.belowS hb8
  obtain ⟨r8, hc8, hn8⟩ := New.rd h8
  clear h8 hb8
  go_wp2_with fail
  refine (OTT w8).out.mono ?_
  rintro e w9 ⟨A9, c9, rfl, h9, _⟩
  have hb9 := h9.below0
  replace hb := hb.trans (hb9.mono hb.size)
  replace r3 := r3.belowS hb9
  replace r8 := r8.belowS hb9
  obtain ⟨r9, hc9, hn9⟩ := New.rd h9
  clear h9 hb9
  have hpq : Hid (eqb p (q.take p.length) = false) := by rw [HP.out, HQ.out]; exact txt_prefix hst
  by_cases hle : p.length ≤ q.length
  · go_wp2_with fail
    refine (kitBytes (ys := q.take p.length) _ r8 (Rb.take r9 _) (by simp only [maxLen]; omega) (by simp only [maxLen]; simp; omega) rfl (by simp; omega)).mono ?_
    rintro e w10 ⟨rfl, n10, hw⟩
    subst hw
    rw [hpq.out]
    clear hpq r8 r9
    replace hb := below_drewN hb n10
    replace r3 := r3.drewN n10
    go_wp2_with fail
    refine (wireReadOrderedText _ r3 (Nat.le_refl _) kb (by omega) hn3).mono ?_
    rintro e w11 hret
    rw [LT.out] at hret
    obtain ⟨rfl, hb11⟩ := hret
    replace hb := hb.trans (hb11.mono hb.size)
    replace r3 := r3.belowS hb11
    rw [strOf_nums]
    have rd := Rb.drop (k := p.length) r3 (cap := c3) (by omega)
    have hdl : ((p ++ ordEnc x).drop p.length) = ordEnc x := by simp
    rw [hdl, if_neg (show ¬ c3 = p.length from by omega)] at rd
    clear hdl r3
    go_wp2_with fail
    generalize Option.map (fun a : Addr => a.add p.length) A3 = A12 at *
    refine (wireReadOrdered1 _ rd (ordEnc_byt x) (by simp only [maxLen]; have := LO.out; omega) (by omega) (by have := LO.out; omega) (by omega)).mono ?_
    rintro e w12 ⟨rfl, hw⟩
    subst hw
    have hov : ordVal ((ordEnc x).take 8) = x := by rw [List.take_of_length_le (by have := LO.out; omega)]; exact ordVal_enc hx
    rw [hov]
    clear hov rd
    go_wp2
    go_ret
    exact ⟨rfl, hb⟩
  · clear hpq r8 r9
    go_wp2_with fail
    refine (wireReadOrderedText _ r3 (Nat.le_refl _) kb (by omega) hn3).mono ?_
    rintro e w11 hret
    rw [LT.out] at hret
    obtain ⟨rfl, hb11⟩ := hret
    replace hb := hb.trans (hb11.mono hb.size)
    replace r3 := r3.belowS hb11
    rw [strOf_nums]
    have rd := Rb.drop (k := p.length) r3 (cap := c3) (by omega)
    have hdl : ((p ++ ordEnc x).drop p.length) = ordEnc x := by simp
    rw [hdl, if_neg (show ¬ c3 = p.length from by omega)] at rd
    clear hdl r3
    go_wp2_with fail
    generalize Option.map (fun a : Addr => a.add p.length) A3 = A12 at *
    refine (wireReadOrdered1 _ rd (ordEnc_byt x) (by simp only [maxLen]; have := LO.out; omega) (by omega) (by have := LO.out; omega) (by omega)).mono ?_
    rintro e w12 ⟨rfl, hw⟩
    subst hw
    have hov : ordVal ((ordEnc x).take 8) = x := by rw [List.take_of_length_le (by have := LO.out; omega)]; exact ordVal_enc hx
    rw [hov]
    clear hov rd
    go_wp2
    go_ret
    exact ⟨rfl, hb⟩


set_option maxHeartbeats 4000000 in
theorem wireOrder_walk (s t : ByteArray) (x y : Int) (w : World) (_ : s.size ≤ maxLen) (_ : t.size ≤ maxLen) (wx : (Lit.int .u64 x).wf = true) (wy : (Lit.int .u64 y).wf = true) :
    Calls Try.prog 7 #[.string s, .string t, .int .u64 x, .int .u64 y] w fun e w' => e = .returned (.bool true) ∧ Below w.heap.size w w' := by
  obtain ⟨x, rfl⟩ := Int.eq_ofNat_of_zero_le (u64_wf wx).1
  obtain ⟨y, rfl⟩ := Int.eq_ofNat_of_zero_le (u64_wf wy).1
  have hx := (u64_wf wx).2
  have hy := (u64_wf wy).2
  by_cases hlong : s.size ≤ 5000 ∧ t.size ≤ 5000
  · obtain ⟨hs, ht⟩ := hlong
    rcases ltb_tri (nums s) (nums t) with h | h | h
    · obtain rfl := nums_inj h
      rcases Nat.lt_trichotomy x y with h | h | h
      · exact wireOrder_same_lt s x y w hs (by omega) (by omega) h
      · subst h
        exact wireOrder_same_eq s x w hs (by omega)
      · exact wireOrder_same_gt s x y w hs (by omega) (by omega) h
    · exact wireOrder_lt s t x y w hs ht (by omega) (by omega) h
    · exact wireOrder_gt s t x y w hs ht (by omega) (by omega) h
  · clear hx hy wx wy
    go_enter Try.func7, Try.ntmps7
    go_wp2_with fail
    refine (lives_true w).mono ?_
    rintro e w1 ⟨rfl, hb⟩
    by_cases h1 : 5000 < s.size
    · go_wp2_with fail
      go_ret
      exact ⟨rfl, hb⟩
    · have h2 : 5000 < t.size := by omega
      clear hlong
      go_wp2_with fail
      go_ret
      exact ⟨rfl, hb⟩
end Go.Proofs.Ytoflefonhegogaa
