/- The statement BatchBack: a batch's bytes tell it. The walk. -/
import Derived.Test.YtpjdlcdkldomlaaBatY
namespace Go.Proofs.Ytpjdlcdkldomlaa
open Go.RowKit

theorem batEnc_byt' (seq : Nat) {ws : List Wr} (h : ∀ x ∈ ws, BytW x) : Byt (batEnc seq ws) := by
  have hp : ∀ {l : List Int}, Byt l → Byt (pieEnc l) := fun hl => (numEnc_byt _).append hl
  refine ((numEnc_byt _).append (numEnc_byt _)).append (fun y hy => ?_)
  obtain ⟨x, hx, hxy⟩ := List.mem_flatMap.1 hy
  have hb : Byt (wrEnc x) := by
    unfold wrEnc
    refine Byt.append (Byt.append (fun z hz => by simp at hz; omega) (hp (h x hx).1)) ?_
    split
    · exact hp (h x hx).2
    · exact fun z hz => by simp at hz
  exact hb y hxy

set_option maxHeartbeats 8000000 in
set_option maxRecDepth 100000 in
theorem batchBack_walk (seq : Nat) (A : Option Addr) (n c : Nat) (ws : List Wr) (w : World) (h : seq < 18446744073709551616 ∧ InW w A n c ws) :
    Calls Try.prog 5 #[.agg #[.int .u64 seq, .slice A n c]] w fun e w' => e = .returned (.bool true) ∧ Below w.heap.size w w' := by
  obtain ⟨hseq, hin⟩ := h
  have hnl : n ≤ 9223372036854775807 := by have := hin.cap; have := hin.max; simp only [maxLen] at this; omega
  have bX := Bk.new w 36 #[.int .u64 seq, .slice A n c]
  have hb0 : Below w.heap.size w (w.alloc (.cells #[.int .u64 seq, .slice A n c] 36)) := (Below.refl _ w).alloc (Nat.le_refl _) _
  have hf0 := hin.rd.below hb0
  have hlen := hin.len
  have HBW := Lib.hid (fun x hx => (hin.byt x hx).1 : ∀ x ∈ ws, BytW x)
  have HSEQ := Lib.hid hseq
  obtain ⟨w0, hw0⟩ : ∃ w0, w.alloc (.cells #[.int .u64 seq, .slice A n c] 36) = w0 := ⟨_, rfl⟩
  have hs0 : w0.heap.size = w.heap.size + 1 := by rw [← hw0]; simp
  rw [hw0] at bX hb0 hf0
  have HW := Lib.hid hw0
  clear hw0 hin hseq
  go_enter Try.func5, Try.ntmps5
  go_wp2_with fail
  rw [HW.out]
  refine (lives_true w0).mono ?_
  rintro e w1 ⟨rfl, hb1⟩
  have b1 := bX.below hb1 (by omega)
  have hf1 := hf0.below (hb1.mono (by omega : w.heap.size ≤ w0.heap.size))
  have hb01 := hb0.trans (hb1.mono hb0.size)
  have hs1 := hb1.size
  have k0 : w1.cell? ⟨w.heap.size, 0, none⟩ = some (.int .u64 seq) := b1.cell 0
  have k1 : w1.cell? ⟨w.heap.size, 1, none⟩ = some (.slice A n c) := b1.cell 1
  clear bX hb0 hf0 hb1
  go_wp2_with fail
  have hsm := lawSmall (cw := c) (seq := seq) w1 hf1 hlen (by omega) hnl
  refine hsm.mono ?_
  rintro e w2 ⟨⟨bs, rfl⟩, hb2⟩
  have b2 := b1.below hb2 (by omega)
  have hf2 := hf1.below (hb2.mono (by omega : w.heap.size ≤ w1.heap.size))
  have hb02 := hb01.trans (hb2.mono hb01.size)
  have hs2 := hb2.size
  have k0 : w2.cell? ⟨w.heap.size, 0, none⟩ = some (.int .u64 seq) := b2.cell 0
  have k1 : w2.cell? ⟨w.heap.size, 1, none⟩ = some (.slice A n c) := b2.cell 1
  clear b1 hb01 hf1 hb2 hsm
  cases bs with
  | false =>
    go_wp2_with fail
    go_ret
    exact ⟨rfl, hb02⟩
  | true =>
    go_wp2_with fail
    have hap := batAppend (cw := c) w2 hf2 HBW.out hlen (by omega) HSEQ.out hnl
    refine hap.mono ?_
    rintro e w3 ⟨A3, c3, rfl, hr3, hb3, hc3, -, hn3⟩
    have b3 := b2.below hb3 (by omega)
    have hf3 := hf2.below (hb3.mono (by omega : w.heap.size ≤ w2.heap.size))
    have hb03 := hb02.trans (hb3.mono hb02.size)
    have hs3 := hb3.size
    have k0 : w3.cell? ⟨w.heap.size, 0, none⟩ = some (.int .u64 seq) := b3.cell 0
    have k1 : w3.cell? ⟨w.heap.size, 1, none⟩ = some (.slice A n c) := b3.cell 1
    clear b2 hb02 hf2 hb3 hap
    by_cases hck : batChk seq ws = 0
    · rw [hck] at hr3 hc3 hn3 ⊢
      simp only [ne_eq, not_true_eq_false, if_false] at hr3 hc3 hn3 ⊢
      have HCK := Lib.hid hck
      clear hck
      obtain ⟨zs, hzs⟩ : ∃ zs, batEnc seq ws = zs := ⟨_, rfl⟩
      have HZ := Lib.hid hzs
      rw [hzs, bv_length] at hc3 ⊢
      rw [hzs] at hr3 hn3
      clear hzs
      obtain ⟨m, hm⟩ : ∃ m, zs.length = m := ⟨_, rfl⟩
      rw [hm] at hc3 ⊢
      have hbyt : Byt zs := by rw [← HZ.out]; exact batEnc_byt' seq HBW.out
      obtain ⟨hwne, hwok, hw1024, hz1m⟩ := chk_ok HCK.out
      rw [HZ.out, hm] at hz1m
      have hpf := par_full HCK.out HSEQ.out
      have hpl := par_less HCK.out HSEQ.out
      have hpm := par_more HCK.out HSEQ.out
      rw [HZ.out] at hpf hpl hpm
      have hz0 : 0 < m := by
        have h1 := numEnc_pos seq
        rw [← hm, ← HZ.out, batEnc, List.length_append, List.length_append]
        omega
      have hn3' : A3 = none → zs = [] ∧ c3 = 0 := fun e => ⟨by simpa [bv] using (hn3 e).1, (hn3 e).2⟩
      have hp1 := batParse (c0 := c3) (n := m) w3 hr3 (Nat.le_refl _) hbyt (by omega) hn3' hm hpf.2.2.2
      unfold ParPost at hp1
      rw [hpf.1, hpf.2.1, hpf.2.2.1] at hp1
      go_wp2_with fail
      refine hp1.mono ?_
      rintro e w4 ⟨hb4, sq, Aw, nw, cw, rfl, hok⟩
      obtain ⟨rfl, hrw, hnw⟩ := hok trivial
      clear hp1 hok
      have b4 := b3.below hb4 (by omega)
      have hf4 := hf3.below (hb4.mono (by omega : w.heap.size ≤ w3.heap.size))
      have hr4 := Rd.belowS hr3 hb4
      have hb04 := hb03.trans (hb4.mono hb03.size)
      have hs4 := hb4.size
      clear b3 hb03 hf3 hr3 hb4 k0 k1
      go_wp2_with fail
      have bP := Bk.new w4 36 #[.int .u64 sq, .slice Aw nw cw]
      have hbP := (Below.refl w4.heap.size w4).alloc (Nat.le_refl _) (.cells #[.int .u64 sq, .slice Aw nw cw] 36)
      have b5 := b4.below hbP b4.lt
      have hf5 := hf4.below (hbP.mono (by omega : w.heap.size ≤ w4.heap.size))
      have hr5 := Rd.belowS hr4 hbP
      have hrw5 := hrw.belowS hbP
      have hb05 := hb04.trans (hbP.mono hb04.size)
      obtain ⟨w5, hw5⟩ : ∃ w5, w4.alloc (.cells #[.int .u64 sq, .slice Aw nw cw] 36) = w5 := ⟨_, rfl⟩
      have hs5 : w5.heap.size = w4.heap.size + 1 := by rw [← hw5]; simp
      obtain ⟨gx, hgx⟩ : ∃ gx, w4.heap.size = gx := ⟨_, rfl⟩
      rw [hw5] at bP b5 hf5 hr5 hrw5 hb05 ⊢
      rw [hgx] at bP hs5 hs4 ⊢
      clear hw5 hbP b4 hf4 hr4 hrw hb04 hgx
      have hdl : zs.dropLast = zs.take (m - 1) := by rw [List.dropLast_eq_take, hm]
      have hp2 := batParse (c0 := c3) (n := m - 1) w5 (Rb.take hr5 (m - 1)) (Nat.le_refl _) (hbyt.take _) (by rw [List.length_take]; omega) (fun e => ⟨by rw [(hn3' e).1, List.take_nil], (hn3' e).2⟩) (by rw [List.length_take]; omega) (by rw [← hdl]; exact hpl.2)
      unfold ParPost at hp2
      rw [← hdl, hpl.1] at hp2
      refine hp2.mono ?_
      rintro e w6 ⟨hb6, sq2, Aw2, nw2, cw2, rfl, -⟩
      have bP6 := bP.below hb6 (by omega)
      have b6 := b5.below hb6 (by omega)
      have hf6 := hf5.below (hb6.mono (by omega : w.heap.size ≤ w5.heap.size))
      have hr6 := Rd.belowS hr5 hb6
      have hrw6 := hrw5.belowS hb6
      have hb06 := hb05.trans (hb6.mono hb05.size)
      have hs6 := hb6.size
      clear hp2 hb6 bP b5 hf5 hr5 hrw5 hb05
      go_wp2_with fail
      have hbQ := (Below.refl w6.heap.size w6).alloc (Nat.le_refl _) (.cells #[.int .u64 sq2, .slice Aw2 nw2 cw2] 36)
      have bP7 := bP6.below hbQ bP6.lt
      have b7 := b6.below hbQ b6.lt
      have hf7 := hf6.below (hbQ.mono (by omega : w.heap.size ≤ w6.heap.size))
      have hr7 := Rd.belowS hr6 hbQ
      have hrw7 := hrw6.belowS hbQ
      have hb07 := hb06.trans (hbQ.mono hb06.size)
      obtain ⟨w7, hw7⟩ : ∃ w7, w6.alloc (.cells #[.int .u64 sq2, .slice Aw2 nw2 cw2] 36) = w7 := ⟨_, rfl⟩
      have hs7 : w7.heap.size = w6.heap.size + 1 := by rw [← hw7]; simp
      rw [hw7] at bP7 b7 hf7 hr7 hrw7 hb07 ⊢
      clear hw7 hbQ bP6 b6 hf6 hr6 hrw6 hb06
      refine (kitOwn w7 hr7 (Nat.le_refl _) (by omega) hm).mono ?_
      rintro e w8 ⟨A8, c8, rfl, happ8, hne8⟩
      have hb8 := happ8.below0
      have hs8 := hb8.size
      have hm1 : m + 1 ≤ 140737488355328 := by omega
      go_wp2_with (at_builtin; go_loud (refine wpList_appb _ rfl (.tmp 43) (.tmp 44) rfl w7.heap.size (.slice A8 m c8) m zs rfl (happ8.own.alloc _) _ _ 1 1 [0] rfl rfl (Rd.lit w8 #[.int .u8 0] 5) hm1 (by simp; omega) ?_))
      intro A9 c9 w9 happ9 hne9
      have hb79 : Below w7.heap.size w7 w9 := (hb8.alloc hb8.size _).trans (happ9.below (by simp; omega) (fun k hk => (happ8.own.lt k hk).1))
      have bP9 := bP7.below hb79 bP7.lt
      have b9 := b7.below hb79 b7.lt
      have hf9 := hf7.below (hb79.mono (by omega : w.heap.size ≤ w7.heap.size))
      have hrw9 := hrw7.belowS hb79
      have hb09 := hb07.trans (hb79.mono hb07.size)
      have hs9 := hb79.size
      have hr9 := Rd.of_own happ9.own
      clear bP7 b7 hf7 hr7 hrw7 hb07 hb8 happ8 happ9 hb79
      have hp3 := batParse (c0 := c9) (n := m + 1) w9 hr9 (Nat.le_refl _) (hbyt.append (fun x hx => by simp at hx; omega)) (by simp; omega) (fun e => absurd (hne9 e) (by simp)) (by simp [hm]) hpm.2
      unfold ParPost at hp3
      rw [hpm.1] at hp3
      go_wp2_with fail
      refine hp3.mono ?_
      rintro e w10 ⟨hb10, sq3, Aw3, nw3, cw3, rfl, -⟩
      have bP10 := bP9.below hb10 (by omega)
      have b10 := b9.below hb10 b9.lt
      have hf10 := hf9.below (hb10.mono (by omega : w.heap.size ≤ w9.heap.size))
      have hrw10 := hrw9.belowS hb10
      have hb010 := hb09.trans (hb10.mono hb09.size)
      have hs10 := hb10.size
      clear bP9 b9 hf9 hr9 hrw9 hb09 hb10 hp3
      have hbR := (Below.refl w10.heap.size w10).alloc (Nat.le_refl _) (.cells #[.int .u64 sq3, .slice Aw3 nw3 cw3] 36)
      have bP11 := bP10.below hbR bP10.lt
      have b11 := b10.below hbR b10.lt
      have hf11 := hf10.below (hbR.mono (by omega : w.heap.size ≤ w10.heap.size))
      have hrw11 := hrw10.belowS hbR
      have hb011 := hb010.trans (hbR.mono hb010.size)
      have hs11 : w10.heap.size ≤ (w10.alloc (.cells #[.int .u64 sq3, .slice Aw3 nw3 cw3] 36)).heap.size := hbR.size
      have q0 : (w10.alloc (.cells #[.int .u64 sq3, .slice Aw3 nw3 cw3] 36)).cell? ⟨gx, 0, none⟩ = some (.int .u64 sq) := bP11.cell 0
      have q1 : (w10.alloc (.cells #[.int .u64 sq3, .slice Aw3 nw3 cw3] 36)).cell? ⟨gx, 1, none⟩ = some (.slice Aw nw cw) := bP11.cell 1
      have q2 : (w10.alloc (.cells #[.int .u64 sq3, .slice Aw3 nw3 cw3] 36)).cell? ⟨w.heap.size, 0, none⟩ = some (.int .u64 sq) := b11.cell 0
      have q3 : (w10.alloc (.cells #[.int .u64 sq3, .slice Aw3 nw3 cw3] 36)).cell? ⟨w.heap.size, 1, none⟩ = some (.slice A n c) := b11.cell 1
      go_wp2_with fail
      obtain ⟨w11, hw11⟩ : ∃ w11, w10.alloc (.cells #[.int .u64 sq3, .slice Aw3 nw3 cw3] 36) = w11 := ⟨_, rfl⟩
      rw [hw11] at bP11 b11 hf11 hrw11 hb011 q0 q1 q2 q3 hs11 ⊢
      have hnn : nw = n := by omega
      subst hnn
      refine (kitBatch (B := w11.heap.size) w11 hrw11 (hf11.more (by omega)) (fun x hx => by have := (hwok x hx).2.2; simp only [maxLen]; omega) hlen (Nat.le_refl _) hnl).mono ?_
      rintro e w12 ⟨rfl, hb12⟩
      go_wp2_with fail
      go_ret
      exact ⟨rfl, hb011.trans (hb12.mono hb011.size)⟩
    · have hckb : (((batChk seq ws : Nat) : Int) != 0) = true := by rw [bne_iff_ne]; omega
      obtain ⟨r, hr⟩ : ∃ r, batChk seq ws = r := ⟨_, rfl⟩
      have hchk := batCheck (cw := c) w3 hf3 HBW.out hlen (by omega) HSEQ.out hnl
      rw [hr] at hckb hchk ⊢
      have hself : ((r : Int) == (r : Int)) = true := by simp
      go_wp2_with fail
      refine hchk.mono ?_
      rintro e w4 ⟨rfl, hb4⟩
      go_wp2_with fail
      go_ret
      exact ⟨rfl, hb03.trans (hb4.mono hb03.size)⟩
end Go.Proofs.Ytpjdlcdkldomlaa
