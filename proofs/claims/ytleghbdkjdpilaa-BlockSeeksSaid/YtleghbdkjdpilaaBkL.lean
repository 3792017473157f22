/- The examples that each statement of layer 8 asks first: 'lives' answers true. -/
import Derived.Test.YtleghbdkjdpilaaStr
import Derived.Test.YtleghbdkjdpilaaKitBytes
import Derived.Test.YtleghbdkjdpilaaBkV
import Derived.Test.YtleghbdkjdpilaaBkZ
namespace Go.Proofs.Ytleghbdkjdpilaa
open Go.RowKit

/-- What entry hands back: an entry of its own bytes. -/
def EnQ (w : World) (x : En) (e : Ending) (w' : World) : Prop := ∃ A1 c1 A2 c2, e = .returned (enV A1 x.key.length c1 x.seq x.kind A2 x.val.length c2) ∧ Below w.heap.size w w' ∧ BeOk w' w'.heap.size ⟨x, A1, c1, A2, c2⟩
set_option maxRecDepth 100000 in
theorem lawEntry (k v : ByteArray) (seq : Nat) (w : World) (hk : k.size ≤ 1000) (hv : v.size ≤ 1000) (hs : seq < 18446744073709551616) :
    Calls Try.prog 15 #[.string k, .int .u64 seq, .string v] w (EnQ w ⟨nums k, seq, 1, nums v⟩) := by
  obtain ⟨cp, ce, fa, hcv, hce⟩ := conv_str
  have HCE := Lib.hid hce
  clear hce
  go_enter Try.func15, Try.ntmps15
  go_wp2
  obtain ⟨ca, hca⟩ : ∃ ca, cp (w.alloc (.cells #[.slice none 0 0, .int .u64 0, .int .i64 0, .slice none 0 0] 29)) k = ca := ⟨_, rfl⟩
  have hca' := (HCE.out k (w.alloc (.cells #[.slice none 0 0, .int .u64 0, .int .i64 0, .slice none 0 0] 29))).1
  obtain ⟨D1, hD1⟩ : ∃ D1, ce (w.alloc (.cells #[.slice none 0 0, .int .u64 0, .int .i64 0, .slice none 0 0] 29)) k = D1 := ⟨_, rfl⟩
  have hD1' := (HCE.out k (w.alloc (.cells #[.slice none 0 0, .int .u64 0, .int .i64 0, .slice none 0 0] 29))).2
  obtain ⟨F1, hF1⟩ : ∃ F1, fa (w.alloc (.cells #[.slice none 0 0, .int .u64 0, .int .i64 0, .slice none 0 0] 29)) k = F1 := ⟨_, rfl⟩
  rw [hca] at hca' ⊢
  rw [hD1] at hD1' ⊢
  rw [hF1]
  clear hca hD1 hF1
  obtain ⟨V, hV⟩ : ∃ V, ((w.alloc (.cells #[.slice none 0 0, .int .u64 0, .int .i64 0, .slice none 0 0] 29)).alloc (.cells D1 5 F1)).drew = V := ⟨_, rfl⟩
  have hcb := (HCE.out v V).1
  have hD2 := (HCE.out v V).2
  rw [hV]
  clear hV
  obtain ⟨cb, hcb'⟩ : ∃ cb, cp V v = cb := ⟨_, rfl⟩
  obtain ⟨D2, hD2'⟩ : ∃ D2, ce V v = D2 := ⟨_, rfl⟩
  obtain ⟨F2, hF2'⟩ : ∃ F2, fa V v = F2 := ⟨_, rfl⟩
  rw [hcb'] at hcb ⊢
  rw [hD2'] at hD2 ⊢
  rw [hF2']
  clear hcb' hD2' hF2'
  try simp only [Exit.inBlock, Exit.then]
  refine bodyPost_ret (results_cell_row rfl _ _ w.heap.size 29 #[.slice (some ⟨w.heap.size + 1, 0, none⟩) k.size ca, .int .u64 seq, .int .i64 1, .slice (some ⟨w.heap.size + 1 + 1, 0, none⟩) v.size cb] (0, 0) _ rfl ?_ Try.underlying29 rfl ?_) rfl ?_
  · show (((w.alloc _).alloc _).alloc _).heap[w.heap.size]? = _
    rw [heap_alloc_old _ _ (h := by simp; omega), heap_alloc_old _ _ (h := by simp), heap_alloc_new]
  · rfl
  · have hkl : (nums k).length = k.size := nums_len k
    have hvl : (nums v).length = v.size := nums_len v
    refine ⟨some ⟨w.heap.size + 1, 0, none⟩, ca, some ⟨w.heap.size + 1 + 1, 0, none⟩, cb, by rw [enV, hkl, hvl], ?_, ?_⟩
    · exact ((((Below.refl _ w).alloc (Nat.le_refl _) _).alloc (by simp) _).alloc (by simp; omega) _).drew.drew
    · have h1 : Rd ((w.alloc (.cells #[.slice (some ⟨w.heap.size + 1, 0, none⟩) k.size ca, .int .u64 seq, .int .i64 1, .slice (some ⟨w.heap.size + 1 + 1, 0, none⟩) v.size cb] 29)).alloc (.cells D1 5 F1)) (w.heap.size + 1 + 1) (some ⟨w.heap.size + 1, 0, none⟩) (bv (nums k)) := by
        have := Rd.of_alloc (w := w.alloc (.cells #[.slice (some ⟨w.heap.size + 1, 0, none⟩) k.size ca, .int .u64 seq, .int .i64 1, .slice (some ⟨w.heap.size + 1 + 1, 0, none⟩) v.size cb] 29)) (cs := D1) (t := 5) (fr := F1) hD1'
        simpa using this
      have h2 := Rd.of_alloc (w := ((w.alloc (.cells #[.slice (some ⟨w.heap.size + 1, 0, none⟩) k.size ca, .int .u64 seq, .int .i64 1, .slice (some ⟨w.heap.size + 1 + 1, 0, none⟩) v.size cb] 29)).alloc (.cells D1 5 F1))) (cs := D2) (t := 5) (fr := F2) hD2
      simp only [World.size_alloc] at h2
      exact ⟨(h1.alloc (by simp) _).drew.drew.more (by simp), h2.drew.drew.more (by simp), by show (nums k).length ≤ ca; omega, by show (nums v).length ≤ cb; omega, by show (nums k).length ≤ maxLen; simp only [maxLen]; omega, by show (nums v).length ≤ maxLen; simp only [maxLen]; omega, nums_byt k, nums_byt v, hs, fun h => (by cases h), fun h => (by cases h)⟩
def EnN (w : World) (n m seq : Nat) (xs ys : List Int) (e : Ending) (w' : World) : Prop := ∃ A1 c1 A2 c2, e = .returned (.agg #[.slice A1 n c1, .int .u64 seq, .int .i64 1, .slice A2 m c2]) ∧ Below w.heap.size w w' ∧ BeOk w' w'.heap.size ⟨⟨xs, seq, 1, ys⟩, A1, c1, A2, c2⟩
theorem lawEntryN (k v : ByteArray) (n m seq : Nat) (xs ys : List Int) (w : World) (hk : nums k = xs) (hv : nums v = ys) (hn : xs.length = n) (hm : ys.length = m) (hn' : n ≤ 1000) (hm' : m ≤ 1000) (hs : seq < 18446744073709551616) :
    Calls Try.prog 15 #[.string k, .int .u64 seq, .string v] w (EnN w n m seq xs ys) := by
  subst hk hv
  refine (lawEntry k v seq w (by rw [nums_len] at hn; omega) (by rw [nums_len] at hm; omega) hs).mono ?_
  rintro e w' ⟨A1, c1, A2, c2, rfl, hb, ok⟩
  exact ⟨A1, c1, A2, c2, by rw [enV, hn, hm], hb, ok⟩
/-- Two entries that lie in one block. -/
theorem RbE.two {w : World} {B : Nat} {A : Option Addr} {e0 e1 : BE} (h : Rd w B A (beC e0 ++ beC e1)) (h0 : BeOk w B e0) (h1 : BeOk w B e1) : RbE w B A [e0, e1] :=
  ⟨by have e : flatR beC [e0, e1] = beC e0 ++ beC e1 := by simp [flatR]
      rw [e]; exact h, fun e he => by
    simp only [List.mem_cons, List.not_mem_nil, or_false] at he
    rcases he with rfl | rfl
    · exact h0
    · exact h1⟩
abbrev lvL : List En := [⟨[97, 98], 1, 1, [120]⟩, ⟨[97, 99], 1, 1, [121]⟩]
abbrev lvB : List Int := [0, 2, 5, 1, 97, 98, 120, 1, 1, 5, 1, 99, 121, 0, 0, 0, 0, 1, 0, 0, 0]
theorem lvOut : blkOut lvL = (lvB, 0) := by decide +kernel
theorem lvPar : parOf lvB = (lvL, 0) := by
  have h : (blkOut lvL).2 = 0 := by rw [lvOut]
  have h2 : blk lvL = lvB := by
    have := (blkOut_zero h).2.2.2.2
    rw [lvOut] at this
    exact (congrArg Prod.fst this).symm
  rw [← h2]
  exact parOf_blk h
theorem lvSk1 : skOf lvB [97, 99] 9 = ⟨⟨[97, 99], 1, 1, [121]⟩, 2, 0⟩ := by
  unfold skOf
  rw [lvPar]
  rfl
theorem lvSk2 : skOf lvB [97, 100] 1 = ⟨en0, 0, 6⟩ := by
  unfold skOf
  rw [lvPar]
  rfl
set_option maxHeartbeats 4000000 in
set_option maxRecDepth 100000 in
theorem lives_true (w : World) : Calls Try.prog 6 #[] w fun e w' => e = .returned (.bool true) ∧ Below w.heap.size w w' := by
  go_enter Try.func6, Try.ntmps6
  go_wp2_with fail
  refine (lawEntryN ⟨#[97, 98]⟩ ⟨#[120]⟩ 2 1 1 [97, 98] [120] w rfl rfl rfl rfl (by omega) (by omega) (by omega)).mono ?_
  rintro e w1 ⟨A1, c1, A2, c2, rfl, hb1, ok1⟩
  go_wp2_with fail
  refine (lawEntryN ⟨#[97, 99]⟩ ⟨#[121]⟩ 2 1 1 [97, 99] [121] w1 rfl rfl rfl rfl (by omega) (by omega) (by omega)).mono ?_
  rintro e w2 ⟨A3, c3, A4, c4, rfl, hb2, ok2⟩
  go_wp2_with fail
  have hal : Below w2.heap.size w2 (w2.alloc (.cells #[.slice A1 2 c1, .int .u64 1, .int .i64 1, .slice A2 1 c2, .slice A3 2 c3, .int .u64 1, .int .i64 1, .slice A4 1 c4] 29)) := (Below.refl _ w2).alloc (Nat.le_refl _) _
  have rbe : RbE (w2.alloc (.cells #[.slice A1 2 c1, .int .u64 1, .int .i64 1, .slice A2 1 c2, .slice A3 2 c3, .int .u64 1, .int .i64 1, .slice A4 1 c4] 29)) (w2.heap.size + 1) (some ⟨w2.heap.size, 0, none⟩) [⟨⟨[97, 98], 1, 1, [120]⟩, A1, c1, A2, c2⟩, ⟨⟨[97, 99], 1, 1, [121]⟩, A3, c3, A4, c4⟩] :=
    RbE.two (Rd.lit' (w := w2) (cs := #[.slice A1 2 c1, .int .u64 1, .int .i64 1, .slice A2 1 c2, .slice A3 2 c3, .int .u64 1, .int .i64 1, .slice A4 1 c4]) (t := 29) (g := w2.heap.size) rfl)
      ((((ok1.below hb2).more hb2.size).below hal).more (by omega)) ((ok2.below hal).more (by omega))
  have hb02 := hb1.trans (hb2.mono hb1.size)
  have hbW := hb02.trans (hal.mono hb02.size)
  obtain ⟨W, hW⟩ : ∃ W, w2.alloc (.cells #[.slice A1 2 c1, .int .u64 1, .int .i64 1, .slice A2 1 c2, .slice A3 2 c3, .int .u64 1, .int .i64 1, .slice A4 1 c4] 29) = W := ⟨_, rfl⟩
  have hsW : W.heap.size = w2.heap.size + 1 := by rw [← hW]; simp
  rw [hW] at rbe hbW ⊢
  rw [← hsW] at rbe
  clear hW hal hb1 hb2 hb02 ok1 ok2
  have ca := blkAppend (c := 2) _ W rbe rfl (Nat.le_refl _) (by simp)
  have ho : blkOut (ens [⟨⟨[97, 98], 1, 1, [120]⟩, A1, c1, A2, c2⟩, ⟨⟨[97, 99], 1, 1, [121]⟩, A3, c3, A4, c4⟩]) = (lvB, 0) := lvOut
  rw [ho] at ca
  refine ca.mono ?_
  rintro e w3 ⟨A5, c5, rfl, hn5⟩
  have hb5 := hbW.trans (hn5.bel.mono hbW.size)
  have cv1 := conv_const w3 #[.int .u8 97, .int .u8 99] 2 2 w3.heap.size rfl
  simp only [List.size_toArray, List.length_cons, List.length_nil, Nat.reduceAdd] at cv1
  go_wp2_with fail
  have hal4 : Below w3.heap.size w3 (w3.alloc (.cells #[.int .u8 97, .int .u8 99] 5 (2, 3))) := (Below.refl _ w3).alloc (Nat.le_refl _) _
  have rk4 : Rb (w3.alloc (.cells #[.int .u8 97, .int .u8 99] 5 (2, 3))) (w3.heap.size + 1) (some ⟨w3.heap.size, 0, none⟩) [97, 99] := Rd.litm (w := w3) (cs := #[.int .u8 97, .int .u8 99]) (t := 5) rfl
  obtain ⟨w4, hw4⟩ : ∃ w4, w3.alloc (.cells #[.int .u8 97, .int .u8 99] 5 (2, 3)) = w4 := ⟨_, rfl⟩
  have hs4 : w4.heap.size = w3.heap.size + 1 := by rw [← hw4]; simp
  rw [hw4] at hal4 rk4 ⊢
  rw [← hs4] at rk4
  have rz4 := Rd.more (Rd.below hn5.rd hal4) hal4.size
  have hb4 := hb5.trans (hal4.mono hb5.size)
  clear hw4 cv1 hb5 hbW ca ho rbe hal4
  have bz : Byt lvB := by intro x hx; simp at hx; omega
  have cs := blkSeek (c := c5) (ck := 2) (seq := 9) w4 rz4 rk4 (Nat.le_refl _) bz (by intro x hx; simp at hx; omega) rfl hn5.cap hn5.nil (by simp) rfl (by omega)
  rw [lvSk1] at cs
  refine cs.mono ?_
  rintro e w5 ⟨A6, c6, A7, c7, rfl, ok5, hb5⟩
  clear cs
  have hal6 : Below w5.heap.size w5 (w5.alloc (.cells #[.slice A6 2 c6, .int .u64 1, .int .i64 1, .slice A7 1 c7] 29)) := (Below.refl _ w5).alloc (Nat.le_refl _) _
  have bk6 := Bk.new w5 29 #[.slice A6 2 c6, .int .u64 1, .int .i64 1, .slice A7 1 c7]
  go_upto_region 4 with fail
  obtain ⟨w6, hw6⟩ : ∃ w6, w5.alloc (.cells #[.slice A6 2 c6, .int .u64 1, .int .i64 1, .slice A7 1 c7] 29) = w6 := ⟨_, rfl⟩
  obtain ⟨g6, hg6⟩ : ∃ g6, w5.heap.size = g6 := ⟨_, rfl⟩
  rw [hw6] at hal6 bk6 ⊢
  rw [hg6] at bk6 ⊢
  have ok6 := (ok5.below hal6).more hal6.size
  have hb46 := hb5.trans (hal6.mono hb5.size)
  have rz6 := Rd.more (Rd.below rz4 hb46) hb46.size
  have hb6 := hb4.trans (hb46.mono hb4.size)
  clear hw6 hg6 hal6 ok5 hb5 hb46 rz4 rk4 hb4 hs4
  have cv1 := conv_const w6 #[.int .u8 97, .int .u8 100] 2 2 w6.heap.size rfl
  simp only [List.size_toArray, List.length_cons, List.length_nil, Nat.reduceAdd] at cv1
  go_wp2_with fail
  have hal7 : Below w6.heap.size w6 (w6.alloc (.cells #[.int .u8 97, .int .u8 100] 5 (2, 3))) := (Below.refl _ w6).alloc (Nat.le_refl _) _
  have rk7 : Rb (w6.alloc (.cells #[.int .u8 97, .int .u8 100] 5 (2, 3))) (w6.heap.size + 1) (some ⟨w6.heap.size, 0, none⟩) [97, 100] := Rd.litm (w := w6) (cs := #[.int .u8 97, .int .u8 100]) (t := 5) rfl
  obtain ⟨w7, hw7⟩ : ∃ w7, w6.alloc (.cells #[.int .u8 97, .int .u8 100] 5 (2, 3)) = w7 := ⟨_, rfl⟩
  have hs7 : w7.heap.size = w6.heap.size + 1 := by rw [← hw7]; simp
  rw [hw7] at hal7 rk7 ⊢
  rw [← hs7] at rk7
  have rz7 := Rd.more (Rd.below rz6 hal7) hal7.size
  have hb7 := hb6.trans (hal7.mono hb6.size)
  have bk7 := bk6.below hal7 bk6.lt
  have ok7 := (ok6.below hal7).more hal7.size
  have cs := blkSeek (c := c5) (ck := 2) (seq := 1) w7 rz7 rk7 (Nat.le_refl _) bz (by intro x hx; simp at hx; omega) rfl hn5.cap hn5.nil (by simp) rfl (by omega)
  rw [lvSk2] at cs
  refine cs.mono ?_
  rintro e w8 ⟨A8, c8, A9, c9, rfl, -, hb8⟩
  have rz8 := Rd.more (Rd.below rz7 hb8) hb8.size
  have hb08 := hb7.trans (hb8.mono hb7.size)
  have bk8 := bk7.below hb8 bk7.lt
  have ok8 := (ok7.below hb8).more hb8.size
  clear cs cv1 hw7 hal7 rk7 hs7 rz7 hb7 bk7 ok7 rz6 hb6 bk6 ok6 hb8
  have hal9 : Below w8.heap.size w8 (w8.alloc (.cells #[.slice A8 0 c8, .int .u64 0, .int .i64 0, .slice A9 0 c9] 29)) := (Below.refl _ w8).alloc (Nat.le_refl _) _
  go_upto_region 5 with fail
  obtain ⟨w9, hw9⟩ : ∃ w9, w8.alloc (.cells #[.slice A8 0 c8, .int .u64 0, .int .i64 0, .slice A9 0 c9] 29) = w9 := ⟨_, rfl⟩
  rw [hw9] at hal9 ⊢
  have rz9 := Rd.more (Rd.below rz8 hal9) hal9.size
  have hb9 := hb08.trans (hal9.mono hb08.size)
  have bk9 := bk8.below hal9 bk8.lt
  have ok9 := (ok8.below hal9).more hal9.size
  have hal10 : Below w9.heap.size w9 (w9.alloc (.cells #[.int .u8 0, .int .u8 2, .int .u8 5, .int .u8 1, .int .u8 97, .int .u8 98, .int .u8 120, .int .u8 1, .int .u8 1, .int .u8 5, .int .u8 1, .int .u8 99, .int .u8 121, .int .u8 0, .int .u8 0, .int .u8 0, .int .u8 0, .int .u8 1, .int .u8 0, .int .u8 0, .int .u8 0] 5)) := (Below.refl _ w9).alloc (Nat.le_refl _) _
  have rl10 : Rb (w9.alloc (.cells #[.int .u8 0, .int .u8 2, .int .u8 5, .int .u8 1, .int .u8 97, .int .u8 98, .int .u8 120, .int .u8 1, .int .u8 1, .int .u8 5, .int .u8 1, .int .u8 99, .int .u8 121, .int .u8 0, .int .u8 0, .int .u8 0, .int .u8 0, .int .u8 1, .int .u8 0, .int .u8 0, .int .u8 0] 5)) (w9.heap.size + 1) (some ⟨w9.heap.size, 0, none⟩) lvB := Rd.lit w9 #[.int .u8 0, .int .u8 2, .int .u8 5, .int .u8 1, .int .u8 97, .int .u8 98, .int .u8 120, .int .u8 1, .int .u8 1, .int .u8 5, .int .u8 1, .int .u8 99, .int .u8 121, .int .u8 0, .int .u8 0, .int .u8 0, .int .u8 0, .int .u8 1, .int .u8 0, .int .u8 0, .int .u8 0] 5
  have kb := kitBytes (c := c5) (c' := 21) (w9.alloc (.cells #[.int .u8 0, .int .u8 2, .int .u8 5, .int .u8 1, .int .u8 97, .int .u8 98, .int .u8 120, .int .u8 1, .int .u8 1, .int .u8 5, .int .u8 1, .int .u8 99, .int .u8 121, .int .u8 0, .int .u8 0, .int .u8 0, .int .u8 0, .int .u8 1, .int .u8 0, .int .u8 0, .int .u8 0] 5)) (Rd.below rz9 hal10) rl10 (by simp [maxLen]) (by simp [maxLen]) rfl rfl
  rw [show eqb lvB lvB = true from by decide +kernel] at kb
  have CK := Lib.hid kb
  have HB9 := Lib.hid (hb9.trans (hal10.mono hb9.size))
  have HBK9 := Lib.hid (bk9.below hal10 bk9.lt)
  have HOK9 := Lib.hid (ok9.below hal10)
  clear kb hal10 rl10 hb9 bk9 ok9 rz9 hal9 hb08 bk8 ok8 rz8 hw9
  go_wp2_with fail
  refine CK.out.mono ?_
  rintro e w10 ⟨rfl, n, rfl⟩
  have hb10 := below_drewN HB9.out n
  have bk10 := HBK9.out.drewN n
  have rv10 := Rd.drewN HOK9.out.v n
  obtain ⟨w10, hw10⟩ : ∃ w10, (w9.alloc (.cells #[.int .u8 0, .int .u8 2, .int .u8 5, .int .u8 1, .int .u8 97, .int .u8 98, .int .u8 120, .int .u8 1, .int .u8 1, .int .u8 5, .int .u8 1, .int .u8 99, .int .u8 121, .int .u8 0, .int .u8 0, .int .u8 0, .int .u8 0, .int .u8 1, .int .u8 0, .int .u8 0, .int .u8 0] 5)).drewN n = w10 := ⟨_, rfl⟩
  rw [hw10] at hb10 bk10 rv10 ⊢
  have k3 : w10.cell? ⟨g6, 3, none⟩ = some (.slice A7 1 c7) := bk10.cell 3
  have es := Rb.str (P := Try.prog) rv10 Try.underlying26 Try.underlying5 Try.underlying9 c7
  rw [show strOfNums [121] = ⟨#[121]⟩ from rfl, show ([121] : List Int).length = 1 from rfl] at es
  clear bk10 rv10 hw10
  go_wp2_with fail
  go_ret
  exact ⟨rfl, hb10⟩
end Go.Proofs.Ytleghbdkjdpilaa
