/- Keys: the document's part, First and Pack. -/
import Derived.Test.YtlamebbolioljaaScF
import Derived.Test.YtlamebbolioljaaScG
namespace Go.Proofs.Ytlamebbolioljaa
open Go.RowKit
theorem loadKy_shut2 (a : Addr) : loadVar 26 a = loadK 26 a := rfl
attribute [local go_sem ↓] loadKy_shut2

set_option maxRecDepth 100000 in
set_option maxHeartbeats 1000000 in
theorem rPart0 {base A c n} {xs : List Int} (k : Ky) (w : World) (ho : w.ownsRow base 5 1 (.slice A n c) n (bv xs)) (hb : base ≤ w.heap.size) (hx : k.hi < 18446744073709551616) (hn : n ≤ 1099511620000) :
    Calls Try.prog 36 #[.slice A n c, kyV k, .int .i64 0] w (RetApp base 5 1 w (.slice A n c) (xs ++ ordEnc k.hi).length (bv (xs ++ ordEnc k.hi)) (fun _ => True)) := by
  have hlen : xs.length = n := by have := own_length ho; rwa [bv_length] at this
  have happ : App base 5 1 w (.slice A n c) (w.alloc (.cells (kyC k) 26)) (.slice A n c) n (bv xs) := (App.refl ho).alloc _
  have HL := Lib.hid hlen
  clear hlen
  have cc := refOrdered (x := k.hi) (w.alloc (.cells (kyC k) 26)) happ.own (by simp; omega) hx (by omega)
  have hz8 : (xs ++ ordEnc k.hi).length = n + 8 := by rw [List.length_append, HL.out, ordEnc_len]
  obtain ⟨zs, hzs⟩ : ∃ zs, xs ++ ordEnc k.hi = zs := ⟨_, rfl⟩
  rw [hzs] at cc hz8 ⊢
  rw [← hz8] at cc
  have CC := Lib.hid cc
  clear cc hzs hz8
  go_enter Try.func36, Try.ntmps36
  go_wp2_with (go_at_call 58; refine CC.out.mono ?_; rintro e w' ⟨A2, c2, rfl, h2, -⟩)
  go_ret
  exact ⟨A2, c2, rfl, happ.trans h2, trivial⟩
set_option maxRecDepth 100000 in
set_option maxHeartbeats 1000000 in
theorem rPart1 {base A c n} {xs : List Int} (k : Ky) (w : World) (ho : w.ownsRow base 5 1 (.slice A n c) n (bv xs)) (hb : base ≤ w.heap.size) (hx : k.lo < 18446744073709551616) (hn : n ≤ 1099511620000) :
    Calls Try.prog 36 #[.slice A n c, kyV k, .int .i64 1] w (RetApp base 5 1 w (.slice A n c) (xs ++ ordEnc k.lo).length (bv (xs ++ ordEnc k.lo)) (fun _ => True)) := by
  have hlen : xs.length = n := by have := own_length ho; rwa [bv_length] at this
  have happ : App base 5 1 w (.slice A n c) (w.alloc (.cells (kyC k) 26)) (.slice A n c) n (bv xs) := (App.refl ho).alloc _
  have HL := Lib.hid hlen
  clear hlen
  have cc := refOrdered (x := k.lo) (w.alloc (.cells (kyC k) 26)) happ.own (by simp; omega) hx (by omega)
  have hz8 : (xs ++ ordEnc k.lo).length = n + 8 := by rw [List.length_append, HL.out, ordEnc_len]
  obtain ⟨zs, hzs⟩ : ∃ zs, xs ++ ordEnc k.lo = zs := ⟨_, rfl⟩
  rw [hzs] at cc hz8 ⊢
  rw [← hz8] at cc
  have CC := Lib.hid cc
  clear cc hzs hz8
  go_enter Try.func36, Try.ntmps36
  go_wp2_with (go_at_call 58; refine CC.out.mono ?_; rintro e w' ⟨A2, c2, rfl, h2, -⟩)
  go_ret
  exact ⟨A2, c2, rfl, happ.trans h2, trivial⟩
set_option maxRecDepth 100000 in
set_option maxHeartbeats 1000000 in
theorem rPart2 {base A c n} {xs : List Int} (k : Ky) (w : World) (ho : w.ownsRow base 5 1 (.slice A n c) n (bv xs)) (hb : base ≤ w.heap.size) (hx : k.id < 18446744073709551616) (hn : n ≤ 1099511620000) :
    Calls Try.prog 36 #[.slice A n c, kyV k, .int .i64 2] w (RetApp base 5 1 w (.slice A n c) (xs ++ ordEnc k.id).length (bv (xs ++ ordEnc k.id)) (fun _ => True)) := by
  have hlen : xs.length = n := by have := own_length ho; rwa [bv_length] at this
  have happ : App base 5 1 w (.slice A n c) (w.alloc (.cells (kyC k) 26)) (.slice A n c) n (bv xs) := (App.refl ho).alloc _
  have HL := Lib.hid hlen
  clear hlen
  have cc := refOrdered (x := k.id) (w.alloc (.cells (kyC k) 26)) happ.own (by simp; omega) hx (by omega)
  have hz8 : (xs ++ ordEnc k.id).length = n + 8 := by rw [List.length_append, HL.out, ordEnc_len]
  obtain ⟨zs, hzs⟩ : ∃ zs, xs ++ ordEnc k.id = zs := ⟨_, rfl⟩
  rw [hzs] at cc hz8 ⊢
  rw [← hz8] at cc
  have CC := Lib.hid cc
  clear cc hzs hz8
  go_enter Try.func36, Try.ntmps36
  go_wp2_with (go_at_call 58; refine CC.out.mono ?_; rintro e w' ⟨A2, c2, rfl, h2, -⟩)
  go_ret
  exact ⟨A2, c2, rfl, happ.trans h2, trivial⟩
set_option maxRecDepth 100000 in
set_option maxHeartbeats 1000000 in
theorem rPart3 {base A c n} {xs : List Int} (k : Ky) (w : World) (ho : w.ownsRow base 5 1 (.slice A n c) n (bv xs)) (hb : base ≤ w.heap.size) (hx : k.service.size ≤ 128) (hn : n ≤ 1099511620000) :
    Calls Try.prog 36 #[.slice A n c, kyV k, .int .i64 3] w (RetApp base 5 1 w (.slice A n c) (xs ++ txtEnc (nums k.service)).length (bv (xs ++ txtEnc (nums k.service))) (fun _ => True)) := by
  have hlen : xs.length = n := by have := own_length ho; rwa [bv_length] at this
  have happ : App base 5 1 w (.slice A n c) (w.alloc (.cells (kyC k) 26)) (.slice A n c) n (bv xs) := (App.refl ho).alloc _
  have HL := Lib.hid hlen
  clear hlen
  have cc := refOrderedText (s := k.service) (w.alloc (.cells (kyC k) 26)) happ.own (by simp; omega) (by omega) (by omega)
  obtain ⟨zs, hzs⟩ : ∃ zs, xs ++ txtEnc (nums k.service) = zs := ⟨_, rfl⟩
  rw [hzs] at cc ⊢
  have CC := Lib.hid cc
  clear cc hzs
  go_enter Try.func36, Try.ntmps36
  go_wp2_with (go_at_call 59; refine CC.out.mono ?_; rintro e w' ⟨A2, c2, rfl, h2, -⟩)
  go_ret
  exact ⟨A2, c2, rfl, happ.trans h2, trivial⟩
set_option maxRecDepth 100000 in
set_option maxHeartbeats 1000000 in
theorem rPart4 {base A c n} {xs : List Int} (k : Ky) (w : World) (ho : w.ownsRow base 5 1 (.slice A n c) n (bv xs)) (hb : base ≤ w.heap.size) (hx : k.name.size ≤ 128) (hn : n ≤ 1099511620000) :
    Calls Try.prog 36 #[.slice A n c, kyV k, .int .i64 4] w (RetApp base 5 1 w (.slice A n c) (xs ++ txtEnc (nums k.name)).length (bv (xs ++ txtEnc (nums k.name))) (fun _ => True)) := by
  have hlen : xs.length = n := by have := own_length ho; rwa [bv_length] at this
  have happ : App base 5 1 w (.slice A n c) (w.alloc (.cells (kyC k) 26)) (.slice A n c) n (bv xs) := (App.refl ho).alloc _
  have HL := Lib.hid hlen
  clear hlen
  have cc := refOrderedText (s := k.name) (w.alloc (.cells (kyC k) 26)) happ.own (by simp; omega) (by omega) (by omega)
  obtain ⟨zs, hzs⟩ : ∃ zs, xs ++ txtEnc (nums k.name) = zs := ⟨_, rfl⟩
  rw [hzs] at cc ⊢
  have CC := Lib.hid cc
  clear cc hzs
  go_enter Try.func36, Try.ntmps36
  go_wp2_with (go_at_call 59; refine CC.out.mono ?_; rintro e w' ⟨A2, c2, rfl, h2, -⟩)
  go_ret
  exact ⟨A2, c2, rfl, happ.trans h2, trivial⟩
set_option maxRecDepth 100000 in
set_option maxHeartbeats 1000000 in
theorem rPart5 {base A c n} {xs : List Int} (k : Ky) (w : World) (ho : w.ownsRow base 5 1 (.slice A n c) n (bv xs)) (hb : base ≤ w.heap.size) (hx : k.value.size ≤ 128) (hn : n ≤ 1099511620000) :
    Calls Try.prog 36 #[.slice A n c, kyV k, .int .i64 5] w (RetApp base 5 1 w (.slice A n c) (xs ++ txtEnc (nums k.value)).length (bv (xs ++ txtEnc (nums k.value))) (fun _ => True)) := by
  have hlen : xs.length = n := by have := own_length ho; rwa [bv_length] at this
  have happ : App base 5 1 w (.slice A n c) (w.alloc (.cells (kyC k) 26)) (.slice A n c) n (bv xs) := (App.refl ho).alloc _
  have HL := Lib.hid hlen
  clear hlen
  have cc := refOrderedText (s := k.value) (w.alloc (.cells (kyC k) 26)) happ.own (by simp; omega) (by omega) (by omega)
  obtain ⟨zs, hzs⟩ : ∃ zs, xs ++ txtEnc (nums k.value) = zs := ⟨_, rfl⟩
  rw [hzs] at cc ⊢
  have CC := Lib.hid cc
  clear cc hzs
  go_enter Try.func36, Try.ntmps36
  go_wp2_with (go_at_call 59; refine CC.out.mono ?_; rintro e w' ⟨A2, c2, rfl, h2, -⟩)
  go_ret
  exact ⟨A2, c2, rfl, happ.trans h2, trivial⟩
set_option maxRecDepth 100000 in
set_option maxHeartbeats 1000000 in
theorem rPart6 {base A c n} {xs : List Int} (k : Ky) (w : World) (ho : w.ownsRow base 5 1 (.slice A n c) n (bv xs)) (hb : base ≤ w.heap.size) (h0 : 0 ≤ k.start) (h1 : k.start ≤ 4611686018427387903) (hn : n ≤ 1099511620000) :
    Calls Try.prog 36 #[.slice A n c, kyV k, .int .i64 7] w (RetApp base 5 1 w (.slice A n c) (xs ++ ordEnc k.start.toNat).length (bv (xs ++ ordEnc k.start.toNat)) (fun _ => True)) := by
  have hlen : xs.length = n := by have := own_length ho; rwa [bv_length] at this
  have happ : App base 5 1 w (.slice A n c) (w.alloc (.cells (kyC k) 26)) (.slice A n c) n (bv xs) := (App.refl ho).alloc _
  have HL := Lib.hid hlen
  clear hlen
  have hst : k.start = ((k.start.toNat : Nat) : Int) := by omega
  obtain ⟨x, hx⟩ : ∃ x, k.start.toNat = x := ⟨_, rfl⟩
  rw [hx] at hst ⊢
  have hxs : x < 18446744073709551616 := by omega
  have HST := Lib.hid hst
  clear hx hst
  have cc := refOrdered (x := x) (w.alloc (.cells (kyC k) 26)) happ.own (by simp; omega) hxs (by omega)
  have hz8 : (xs ++ ordEnc x).length = n + 8 := by rw [List.length_append, HL.out, ordEnc_len]
  obtain ⟨zs, hzs⟩ : ∃ zs, xs ++ ordEnc x = zs := ⟨_, rfl⟩
  rw [hzs] at cc hz8 ⊢
  rw [← hz8] at cc
  have CC := Lib.hid cc
  clear cc hzs hz8
  go_enter Try.func36, Try.ntmps36
  go_wp2_with fail
  rw [HST.out]
  refine CC.out.mono ?_
  rintro e w' ⟨A2, c2, rfl, h2, -⟩
  go_wp2
  go_ret
  exact ⟨A2, c2, rfl, happ.trans h2, trivial⟩
set_option maxRecDepth 100000 in
set_option maxHeartbeats 1000000 in
theorem rPart7 {base A c n} {xs : List Int} (k : Ky) (w : World) (ho : w.ownsRow base 5 1 (.slice A n c) n (bv xs)) (hb : base ≤ w.heap.size) (hx : k.number < 18446744073709551616) (hn : n ≤ 1099511620000) :
    Calls Try.prog 36 #[.slice A n c, kyV k, .int .i64 6] w (RetApp base 5 1 w (.slice A n c) (xs ++ ordEnc k.number).length (bv (xs ++ ordEnc k.number)) (fun _ => True)) := by
  have hlen : xs.length = n := by have := own_length ho; rwa [bv_length] at this
  have happ : App base 5 1 w (.slice A n c) (w.alloc (.cells (kyC k) 26)) (.slice A n c) n (bv xs) := (App.refl ho).alloc _
  have HL := Lib.hid hlen
  clear hlen
  have cc := refOrdered (x := k.number) (w.alloc (.cells (kyC k) 26)) happ.own (by simp; omega) hx (by omega)
  have hz8 : (xs ++ ordEnc k.number).length = n + 8 := by rw [List.length_append, HL.out, ordEnc_len]
  obtain ⟨zs, hzs⟩ : ∃ zs, xs ++ ordEnc k.number = zs := ⟨_, rfl⟩
  rw [hzs] at cc hz8 ⊢
  rw [← hz8] at cc
  have CC := Lib.hid cc
  clear cc hzs hz8
  go_enter Try.func36, Try.ntmps36
  go_wp2_with (go_at_call 58; refine CC.out.mono ?_; rintro e w' ⟨A2, c2, rfl, h2, -⟩)
  go_ret
  exact ⟨A2, c2, rfl, happ.trans h2, trivial⟩
set_option maxRecDepth 100000 in
theorem rPart {base A c n} {xs : List Int} (k : Ky) (p : Int) (w : World) (hu : k.U64) (hc : kyChk k = 0) (hp0 : 0 ≤ p) (hp1 : p < 8) (ho : w.ownsRow base 5 1 (.slice A n c) n (bv xs)) (hb : base ≤ w.heap.size) (hn : n ≤ 1099511620000) :
    Calls Try.prog 36 #[.slice A n c, kyV k, .int .i64 (ren p)] w (RetApp base 5 1 w (.slice A n c) (xs ++ partEnc k p).length (bv (xs ++ partEnc k p)) (fun _ => True)) := by
  obtain ⟨a1, a2, a3, a4, a5, _⟩ := kyChk_ok hc
  obtain ⟨u1, u2, u3, u4⟩ := hu
  have hcs : p = 0 ∨ p = 1 ∨ p = 2 ∨ p = 3 ∨ p = 4 ∨ p = 5 ∨ p = 6 ∨ p = 7 := by omega
  rcases hcs with rfl | rfl | rfl | rfl | rfl | rfl | rfl | rfl
  · exact rPart0 k w ho hb u1 hn
  · exact rPart1 k w ho hb u2 hn
  · exact rPart2 k w ho hb u3 hn
  · exact rPart3 k w ho hb a1 hn
  · exact rPart4 k w ho hb a2 hn
  · exact rPart5 k w ho hb a3 hn
  · exact rPart6 k w ho hb a4 a5 hn
  · exact rPart7 k w ho hb u4 hn
set_option maxRecDepth 100000 in
set_option maxHeartbeats 8000000 in
theorem rFirst (k : Ky) (n : Int) (w : World) (hu : k.U64) (hn0 : -9223372036854775808 ≤ n) (hn1 : n ≤ 9223372036854775807) :
    Calls Try.prog 15 #[kyV k, .int .i64 n] w (KeyMade w (firstOf k n)) := by
  have hb0 : Below w.heap.size w (w.alloc (.cells (kyC k) 26)) := (Below.refl _ w).alloc (Nat.le_refl _) _
  have bk := Bk.new w 26 (kyC k)
  obtain ⟨w1, hw1⟩ : ∃ w1, w.alloc (.cells (kyC k) 26) = w1 := ⟨_, rfl⟩
  rw [hw1] at hb0 bk
  have HW := Lib.hid hw1
  obtain ⟨g, hg⟩ : ∃ g, w.heap.size = g := ⟨_, rfl⟩
  rw [hg] at bk
  have HG := Lib.hid hg
  have HB0 := Lib.hid hb0
  have la := loadK_ky bk
  obtain ⟨q, hq⟩ : ∃ q, kyChk k = q := ⟨_, rfl⟩
  have cc := rCheck k w1
  rw [hq] at cc
  have CC := Lib.hid cc
  obtain ⟨r, hr⟩ : ∃ r, firstOf k n = r := ⟨_, rfl⟩
  rw [hr]
  by_cases hq0 : q = 0
  case neg =>
    have HR : Hid (r = ([], q)) := by rw [← hr, firstOf, if_pos (by omega), hq]; exact Lib.hid rfl
    have d : ((q : Int) != 0) = true := by rw [bne_iff_ne]; omega
    clear hw1 hg hb0 hq cc hr hq0
    go_enter Try.func15, Try.ntmps15
    go_upto_region 1 with fail
    rw [HW.out, HG.out]
    go_wp2_with (go_at_call 17; refine CC.out.mono ?_; rintro e w2 ⟨rfl, hb2⟩)
    go_ret2
    exact .no HR.out rfl (HB0.out.trans (hb2.mono HB0.out.size))
  case pos =>
    subst hq0
    have HQ := Lib.hid hq
    have HR : Hid (r = if n < 0 ∨ ((kyParts k).length : Int) < n then ([], 2) else (keyTo k ((kyParts k).take n.toNat), 0)) := by rw [← hr, firstOf, if_neg (by omega)]; exact Lib.hid rfl
    have hle : (kyParts k).length ≤ 7 := partsOf_len k.kind
    clear hw1 hg hb0 hq cc hr
    go_enter Try.func15, Try.ntmps15
    go_upto_region 1 with fail
    rw [HW.out, HG.out]
    go_upto_region 4 with (go_at_call 17; refine CC.out.mono ?_; rintro e w2 ⟨rfl, hb2⟩)
    have bk2 := bk.bS hb2
    have hbw : Below w.heap.size w w2 := HB0.out.trans (hb2.mono HB0.out.size)
    have kd0 : w2.cell? ⟨g, 0, none⟩ = some (.int .i64 k.kind) := bk2.cell 0
    clear la bk hb2
    go_upto_region 5 with (go_at_call 29; refine (refParts _ _).mono ?_; rintro e wc ⟨A, c, rfl, hrd, hb⟩)
    have hk := bk2.bS hb
    have hbel := hbw.trans (hb.mono hbw.size)
    clear kd0 bk2 hb hbw
    have hrl : rl k.kind = (kyParts k).map ren := rfl
    rw [hrl, List.length_map]
    rw [hrl] at hrd
    obtain ⟨m, hm⟩ : ∃ m, (kyParts k).length = m := ⟨_, rfl⟩
    rw [hm] at hle ⊢
    have hr2 := HR.out
    rw [hm] at hr2
    have HM := Lib.hid hm
    have HR2 := Lib.hid hr2
    have kc0 : wc.cell? ⟨g, 0, none⟩ = some (.int .i64 k.kind) := hk.cell 0
    clear hm hr2 HR hrl
    by_cases h1 : n < 0
    · go_wp2
      go_ret2
      exact .no (by rw [HR2.out, if_pos (.inl h1)]) rfl hbel
    by_cases h2 : (m : Int) < n
    · have d1 : decide (n < 0) = false := by simp; omega
      go_wp2
      go_ret2
      exact .no (by rw [HR2.out, if_pos (.inr h2)]) rfl hbel
    obtain ⟨j, rfl⟩ := Int.eq_ofNat_of_zero_le (show 0 ≤ n by omega)
    have d1 : decide ((j : Int) < 0) = false := by simp
    have d2 : decide ((m : Int) < (j : Int)) = false := by simp; omega
    have d3 : j ≤ m := by omega
    have d4 : decide (m < j) = false := by simp; omega
    have d5 : ¬ m < j := by omega
    have HR3 : Hid (r = (keyTo k ((kyParts k).take j), 0)) := by rw [HR2.out, if_neg (by omega)]; exact Lib.hid rfl
    clear h1 h2 hn0 hn1 HR2
    have hbw : w.heap.size ≤ wc.heap.size := hbel.size
    have ho : (wc.alloc (.cells #[.int .u8 (k.kind % 256)] 5)).ownsRow w.heap.size 5 1 (.slice (some ⟨wc.heap.size, 0, none⟩) 1 1) 1 (bv [k.kind % 256]) :=
      World.ownsRow_lit wc #[.int .u8 (k.kind % 256)] 1 hbw (by simp [maxLen]) rfl
    have hbl1 : Below w.heap.size w (wc.alloc (.cells #[.int .u8 (k.kind % 256)] 5)) := hbel.alloc hbw _
    have hk1 := hk.alloc (.cells #[.int .u8 (k.kind % 256)] 5)
    have hrd1 := hrd.alloc (Nat.le_refl _) (.cells #[.int .u8 (k.kind % 256)] 5)
    have hgl : g < wc.heap.size := hk.lt
    obtain ⟨W1, hW1⟩ : ∃ W1, wc.alloc (.cells #[.int .u8 (k.kind % 256)] 5) = W1 := ⟨_, rfl⟩
    have hs1 : W1.heap.size = wc.heap.size + 1 := by rw [← hW1]; simp
    rw [hW1] at ho hbl1 hk1 hrd1
    have HW1 := Lib.hid hW1
    have HS1 := Lib.hid hs1
    have HBEL := Lib.hid hbel
    have HK := Lib.hid hk
    have HRD := Lib.hid hrd
    clear hW1 hs1 hbel hk hrd
    go_wp2
    rw [HW1.out]
    obtain ⟨wh, hwh⟩ : ∃ wh, wc.heap.size = wh := ⟨_, rfl⟩
    rw [hwh] at ho hrd1 hgl hbw ⊢
    have HS2 : Hid (W1.heap.size = wh + 1) := by rw [HS1.out, hwh]; exact Lib.hid rfl
    clear hwh HS1 HW1 HBEL HK HRD kc0
    go_loopw [9, 10] (fun v i wr => ∃ (A' : Option Addr) (c' mm x : Nat) (ys : List Int), v = .slice A' mm c' ∧ i = .int .i64 x ∧ x ≤ j ∧ App w.heap.size 5 1 W1 (.slice (some ⟨wh, 0, none⟩) 1 1) wr (.slice A' mm c') mm (bv ys) ∧ ys = keyTo k ((kyParts k).take x) ∧ mm ≤ 1 + 258 * x ∧ Bk wr g 26 (kyC k) ∧ Rd wr wh A (iv ((kyParts k).map ren)) ∧ Below w.heap.size w wr) (fun _ i _ => j - (intOf i).toNat)
    case atStart => exact ⟨_, 1, 1, 0, _, rfl, rfl, Nat.zero_le _, App.refl ho, by simp [keyTo], by omega, hk1, hrd1, hbl1⟩
    case round =>
      obtain ⟨A', c', mm, x, ys, rfl, rfl, hx, happ, hys, hmm, hkr, hrr, hbr⟩ := hrel
      have HY := Lib.hid hys
      clear hys hk1 hrd1 hbl1 ho
      have hrow : ∀ b, (Value.slice A' mm c').ownBlock = some b → wh ≤ b := fun b hb => by
        rcases happ.block with h | ⟨b', h, h2⟩
        · rw [hb] at h; simp [Value.ownBlock] at h; omega
        · rw [hb] at h; cases h; rw [HS2.out] at h2; omega
      by_cases hlt : x < j
      · have hlt' : (x : Int) < (j : Int) := by omega
        obtain ⟨p, hp⟩ : ∃ p, (kyParts k)[x]? = some p := ⟨_, List.getElem?_eq_getElem (by rw [HM.out]; omega)⟩
        have hp' : ((kyParts k).map ren)[x]? = some (ren p) := by rw [List.getElem?_map, hp]; rfl
        obtain ⟨b, o, rfl, hbb, hcell⟩ := hrr.get (iv_get hp')
        have hpr := partsOf_rng k.kind p (List.mem_of_getElem? hp)
        have hlen : (partEnc k p).length ≤ 258 := by
          unfold partEnc
          cases hit : (allOf k)[p.toNat]? with
          | none => simp
          | some it => exact itEnc_len (all_fine hu HQ.out it (List.mem_of_getElem? hit))
        have HN : Hid (ys ++ partEnc k p = keyTo k ((kyParts k).take (x + 1))) := by rw [take_snoc hp, keyTo_snoc, ← HY.out]; exact Lib.hid rfl
        have la := loadK_ky hkr.drew
        have hc1 : wr.drew.cell? ⟨b, o + x, none⟩ = some (.int .i64 (ren p)) := hcell
        have hx0 : (0 : Int) ≤ (x : Int) := by omega
        have hxm : (x : Int) < (m : Int) := by omega
        have hl1 : (ys ++ partEnc k p).length ≤ mm + 258 := by
          have h1 := own_length happ.own
          rw [bv_length] at h1
          rw [List.length_append, h1]
          omega
        have cp := rPart (c := c') k p wr.drew hu HQ.out hpr.1 hpr.2 happ.drew.own (show w.heap.size ≤ wr.drew.heap.size from hbr.size) (by omega)
        obtain ⟨zs, hzs⟩ : ∃ zs, ys ++ partEnc k p = zs := ⟨_, rfl⟩
        rw [hzs] at cp hl1
        have HN2 : Hid (zs = keyTo k ((kyParts k).take (x + 1))) := by rw [← HN.out, ← hzs]; exact Lib.hid rfl
        have CP := Lib.hid cp
        have HKR := Lib.hid hkr
        have HRR := Lib.hid hrr
        obtain ⟨rp, hrp⟩ : ∃ rp, ren p = rp := ⟨_, rfl⟩
        rw [hrp] at hc1
        have CP2 : Hid (Calls Try.prog 36 #[.slice A' mm c', kyV k, .int .i64 rp] wr.drew (RetApp w.heap.size 5 1 wr.drew (.slice A' mm c') zs.length (bv zs) (fun _ => True))) := by rw [← hrp]; exact CP
        clear hp hp' hpr cp hkr hrr hcell hrp hzs CP
        go_wp2_with fail
        go_region_held3 (fun w' => (loadK 26 ⟨g, 0, none⟩).run Try.prog w' = .ok (kyV k) w' ∧ w'.cell? ⟨b, o + x, none⟩ = some (.int .i64 rp)) (first | go_keep | exact ⟨trivial, trivial⟩)
          (first | (go_at_call 36; refine CP2.out.mono ?_; rintro e w4 ⟨A4, c4, rfl, h4, -⟩
                    have la4 : (loadK 26 ⟨g, 0, none⟩).run Try.prog w4 = .ok (kyV k) w4 := loadK_ky (HKR.out.drew.grown h4.grown (fun e => by have := hrow g e.symm; omega))
                    have hc4 : w4.cell? ⟨b, o + x, none⟩ = some (.int .i64 rp) := (World.cell?_of_block (a := ⟨b, o + x, none⟩) (h4.grown.block b (by have := happ.heap; rw [HS2.out] at this; show b < wr.heap.size; omega) (fun e => by have := hrow b e.symm; omega))).trans hc1) | fail)
        all_goals
          go_wp2
          go_roundw
          case rel => exact ⟨A4, c4, _, x + 1, zs, rfl, by go_num, by omega, happ.drew.trans h4, HN2.out, by omega, HKR.out.drew.grown h4.grown (fun e => by have := hrow g e.symm; omega),
            (HRR.out.drew).grown h4.grown (by have := happ.heap; rw [HS2.out] at this; show wh ≤ wr.heap.size; omega) hrow,
            (below_drewN hbr 1).trans (grown_below h4.grown (show w.heap.size ≤ wr.heap.size from hbr.size) (fun b hb => by have := hrow b hb; omega))⟩
          case measure => simp [intOf]; omega
      · have hlt' : decide ((x : Int) < (j : Int)) = false := by simp; omega
        have HE : Hid (ys = keyTo k ((kyParts k).take j)) := by rw [HY.out, show x = j from by omega]; exact Lib.hid rfl
        have hml : ys.length = mm := by have := own_length happ.own; rwa [bv_length] at this
        have HML := Lib.hid hml
        clear hml
        go_wp2
        go_ret2
        have hle2 := happ.cap
        refine ⟨A', c', by rw [HR3.out, ← HE.out, HML.out]; rfl, by rw [HR3.out, ← HE.out]; exact happ.rd, hbr, by rw [HR3.out, ← HE.out, HML.out]; exact hle2, fun e => ?_, fun a e => ?_⟩
        · have h1 : (keyTo k ((kyParts k).take j)).length ≠ 0 := by simp [keyTo]
          rw [← HE.out, HML.out] at h1
          subst e
          rcases happ.own.2 with ⟨h2, h3⟩ | ⟨_, _, _, h2, _⟩
          · exact absurd h3 h1
          · injection h2 with h2; cases h2
        · subst e
          exact (happ.own.lt a.block rfl).1
set_option maxRecDepth 100000 in
set_option maxHeartbeats 4000000 in
theorem rPackK (k : Ky) (w : World) (hu : k.U64) : Calls Try.prog 11 #[kyV k] w (KeyMade w (packOf k)) := by
  have hb0 : Below w.heap.size w (w.alloc (.cells (kyC k) 26)) := (Below.refl _ w).alloc (Nat.le_refl _) _
  have bk := Bk.new w 26 (kyC k)
  obtain ⟨w1, hw1⟩ : ∃ w1, w.alloc (.cells (kyC k) 26) = w1 := ⟨_, rfl⟩
  rw [hw1] at hb0 bk
  have HW := Lib.hid hw1
  obtain ⟨g, hg⟩ : ∃ g, w.heap.size = g := ⟨_, rfl⟩
  rw [hg] at bk
  have HG := Lib.hid hg
  have HB0 := Lib.hid hb0
  obtain ⟨r, hr⟩ : ∃ r, packOf k = r := ⟨_, rfl⟩
  rw [hr]
  have hle : (kyParts k).length ≤ 7 := partsOf_len k.kind
  have cf : ∀ W, Calls Try.prog 15 #[kyV k, .int .i64 (kyParts k).length] W (KeyMade W r) := fun W => by
    rw [← hr]
    exact rFirst k _ W hu (by omega) (by omega)
  have CF := Lib.hid cf
  have kd0 : w1.cell? ⟨g, 0, none⟩ = some (.int .i64 k.kind) := bk.cell 0
  clear hw1 hg hb0 hr cf
  go_enter Try.func11, Try.ntmps11
  go_upto_region 1 with fail
  rw [HW.out, HG.out]
  go_upto_region 2 with (go_at_call 29; refine (refParts _ _).mono ?_; rintro e w3 ⟨A, c, rfl, hrd, hb3⟩)
  have bk3 := bk.bS hb3
  have la := loadK_ky bk3
  have hrl : rl k.kind = (kyParts k).map ren := rfl
  rw [hrl, List.length_map]
  have hbb : Below w.heap.size w w3 := HB0.out.trans (hb3.mono HB0.out.size)
  clear hrd hrl kd0 hb3
  go_wp2_with (go_at_call 15; refine (CF.out _).mono ?_; rintro e w4 ⟨A4, c4, rfl, hR4⟩; have HR4 := Lib.hid hR4; clear hR4)
  go_ret2
  obtain ⟨h1, h2, h3, h4, h5⟩ := HR4.out
  exact ⟨A4, c4, rfl, h1, hbb.trans (h2.mono hbb.size), h3, h4, fun a e => Nat.le_trans hbb.size (h5 a e)⟩
end Go.Proofs.Ytlamebbolioljaa
