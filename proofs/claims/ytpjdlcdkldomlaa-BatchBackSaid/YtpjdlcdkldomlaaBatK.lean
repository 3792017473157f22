/- Writes that go together: Last, Check, Append. -/
import Derived.Test.YtpjdlcdkldomlaaBatPut
namespace Go.Proofs.Ytpjdlcdkldomlaa
open Go.RowKit

theorem last_eq (seq n : Nat) (hs : seq < 18446744073709551616) (hn : n ≤ 9223372036854775807) : IntKind.u64.wrap (IntKind.u64.wrap ((seq : Int) + (n : Int)) - 1) = (lastOf seq n : Int) := by
  simp only [IntKind.wrap_u64, lastOf]
  omega
theorem lastOf_lt (seq n : Nat) : lastOf seq n < 18446744073709551616 := Nat.mod_lt _ (by omega)
theorem batLast {Aw : Option Addr} {nw cw seq : Nat} (w : World) (hseq : seq < 18446744073709551616) (hnl : nw ≤ 9223372036854775807) :
    Calls Try.prog 12 #[.agg #[.int .u64 seq, .slice Aw nw cw]] w fun e w' => e = .returned (.int .u64 (lastOf seq nw)) ∧ Below w.heap.size w w' := by
  have hl := last_eq seq nw hseq hnl
  have HL := Lib.hid hl
  clear hl
  go_enter Try.func12, Try.ntmps12
  go_wp2
  go_ret
  refine ⟨?_, (Below.refl _ w).alloc (Nat.le_refl _) _⟩
  rw [← HL.out]
  rfl

set_option maxRecDepth 100000 in
set_option maxHeartbeats 2000000 in
theorem batCheck {Aw : Option Addr} {nw cw B seq : Nat} {ws : List Wr} (w : World) (hf : RbW w B Aw ws) (hb : ∀ x ∈ ws, BytW x) (hn : ws.length = nw) (hB : B ≤ w.heap.size) (hseq : seq < 18446744073709551616) (hnl : nw ≤ 9223372036854775807) :
    Calls Try.prog 10 #[.agg #[.int .u64 seq, .slice Aw nw cw]] w fun e w' => e = .returned (.int .i64 (batChk seq ws)) ∧ Below w.heap.size w w' := by
  obtain ⟨r, hr⟩ : ∃ r, batChk seq ws = r := ⟨_, rfl⟩
  rw [hr]
  have hany : ws.any (fun x => !wrRight x) = ws.any wrOdd := rfl
  have hanyl : ws.any (fun x => !wrShort x) = ws.any wrLong := rfl
  rw [batChk, hany, hanyl] at hr
  clear hany hanyl
  by_cases h1 : nw = 0
  · have hws : ws = [] := List.eq_nil_of_length_eq_zero (by omega)
    rw [if_pos (.inl hws)] at hr
    subst hr h1
    clear hws
    go_enter Try.func10, Try.ntmps10
    go_wp2
    go_ret
    exact ⟨rfl, (Below.refl _ w).alloc (Nat.le_refl _) _⟩
  have h1b : (((nw : Nat) : Int) == 0) = false := by rw [beq_eq_false_iff_ne]; omega
  by_cases h2 : seq = 0
  · rw [if_pos (.inr (.inl h2))] at hr
    subst hr h2
    go_enter Try.func10, Try.ntmps10
    go_wp2
    go_ret
    exact ⟨rfl, (Below.refl _ w).alloc (Nat.le_refl _) _⟩
  have h2b : (((seq : Nat) : Int) == 0) = false := by rw [beq_eq_false_iff_ne]; omega
  have hne : ws ≠ [] := by rintro rfl; simp at hn; omega
  have HR := Lib.hid hr
  have HN := Lib.hid hn
  have HSEQ := Lib.hid hseq
  have HNE := Lib.hid hne
  clear hr hn hne
  have hf1 := hf.keep (w' := w.alloc (.cells #[.int .u64 seq, .slice Aw nw cw] 36)) (fun p hp => World.cell?_alloc_lt _ _ _ (by omega))
  have bB : Bk (w.alloc (.cells #[.int .u64 seq, .slice Aw nw cw] 36)) w.heap.size 36 #[.int .u64 seq, .slice Aw nw cw] := Bk.new w _ _
  have hb0 : Below w.heap.size w (w.alloc (.cells #[.int .u64 seq, .slice Aw nw cw] 36)) := (Below.refl _ w).alloc (Nat.le_refl _) _
  obtain ⟨w1, hw1⟩ : ∃ w1, w.alloc (.cells #[.int .u64 seq, .slice Aw nw cw] 36) = w1 := ⟨_, rfl⟩
  have hs1 : w1.heap.size = w.heap.size + 1 := by rw [← hw1]; simp
  rw [hw1] at hf1 bB hb0
  have hodd := containsOdd (n := nw) (c := cw) w1 hf1 HN.out (by omega) hnl
  have HW := Lib.hid hw1
  obtain ⟨q, hq⟩ : ∃ q, ws.any wrOdd = q := ⟨_, rfl⟩
  obtain ⟨q2, hq2⟩ : ∃ q2, ws.any wrLong = q2 := ⟨_, rfl⟩
  rw [hq] at hodd HR
  rw [hq2] at HR
  have HQ2 := Lib.hid hq2
  clear hw1 hq hq2
  go_enter Try.func10, Try.ntmps10
  go_wp2_with fail
  rw [HW.out]
  refine hodd.mono ?_
  rintro e w2 ⟨rfl, hb2⟩
  have bB2 : Bk w2 w.heap.size 36 #[.int .u64 seq, .slice Aw nw cw] := bB.below hb2 (by omega)
  have hf2 := hf1.below (hb2.mono (by omega : B ≤ w1.heap.size))
  have hb02 := hb0.trans (hb2.mono (by omega))
  have k1 : w2.cell? ⟨w.heap.size, 1, none⟩ = some (.slice Aw nw cw) := bB2.cell 1
  have hs2 := hb2.size
  clear hodd hb2 bB hf1 hb0
  by_cases hqq : q = true
  · subst hqq
    have hr := HR.out
    rw [if_pos (.inr (.inr rfl))] at hr
    subst hr
    go_wp2
    go_ret
    exact ⟨rfl, hb02⟩
  have hqf : q = false := by simpa using hqq
  subst hqf
  have hr := HR.out
  rw [if_neg (by simp [HNE.out, h2])] at hr
  have HR := Lib.hid hr
  clear hr
  have hlong := containsLong (n := nw) (c := cw) w2 hf2 HN.out (by omega) hnl
  rw [HQ2.out] at hlong
  go_wp2_with fail
  refine hlong.mono ?_
  rintro e w3 ⟨rfl, hb3⟩
  have bB3 : Bk w3 w.heap.size 36 #[.int .u64 seq, .slice Aw nw cw] := bB2.below hb3 (by omega)
  have hf3 := hf2.below (hb3.mono (by omega : B ≤ w2.heap.size))
  have hb03 := hb02.trans (hb3.mono (by omega))
  have k0' : w3.cell? ⟨w.heap.size, 0, none⟩ = some (.int .u64 seq) := bB3.cell 0
  have k1' : w3.cell? ⟨w.heap.size, 1, none⟩ = some (.slice Aw nw cw) := bB3.cell 1
  have hs3 := hb3.size
  clear hlong hb3 bB2 hf2 hb02 k1
  have hlast := batLast (Aw := Aw) (cw := cw) w3 HSEQ.out hnl
  obtain ⟨l, hl⟩ : ∃ l, lastOf seq nw = l := ⟨_, rfl⟩
  have hl64 := lastOf_lt seq nw
  rw [hl] at hlast hl64
  have hr := HR.out
  rw [HN.out, hl] at hr
  have HR := Lib.hid hr
  clear hr hl
  go_wp2_with fail
  refine hlast.mono ?_
  rintro e w4 ⟨rfl, hb4⟩
  have bB4 : Bk w4 w.heap.size 36 #[.int .u64 seq, .slice Aw nw cw] := bB3.below hb4 (by omega)
  have hf4 := hf3.below (hb4.mono (by omega : B ≤ w3.heap.size))
  have hb04 := hb03.trans (hb4.mono (by omega))
  have k0'' : w4.cell? ⟨w.heap.size, 0, none⟩ = some (.int .u64 seq) := bB4.cell 0
  have k1'' : w4.cell? ⟨w.heap.size, 1, none⟩ = some (.slice Aw nw cw) := bB4.cell 1
  have hs4 := hb4.size
  clear hlast hb4 bB3 hf3 hb03 k0' k1'
  by_cases hq2t : q2 = true
  · subst hq2t
    have hr := HR.out
    rw [if_pos (.inl rfl)] at hr
    subst hr
    go_wp2
    go_ret
    exact ⟨rfl, hb04⟩
  have hq2f : q2 = false := by simpa using hq2t
  subst hq2f
  by_cases h5 : 1024 < nw
  · have h5' : (1024 : Int) < (nw : Int) := by omega
    have hr := HR.out
    rw [if_pos (.inr (.inl h5))] at hr
    subst hr
    go_wp2
    go_ret
    exact ⟨rfl, hb04⟩
  have h5' : decide ((1024 : Int) < (nw : Int)) = false := by simp; omega
  by_cases h6 : 72057594037927935 < l
  · have h6' : (72057594037927935 : Int) < (l : Int) := by omega
    have hr := HR.out
    rw [if_pos (.inr (.inr (.inl h6)))] at hr
    subst hr
    go_wp2
    go_ret
    exact ⟨rfl, hb04⟩
  have h6' : decide ((72057594037927935 : Int) < (l : Int)) = false := by simp; omega
  by_cases h7 : l < seq
  · have h7' : (l : Int) < (seq : Int) := by omega
    have hr := HR.out
    rw [if_pos (.inr (.inr (.inr (.inl h7))))] at hr
    subst hr
    go_wp2
    go_ret
    exact ⟨rfl, hb04⟩
  have h7' : decide ((l : Int) < (seq : Int)) = false := by simp; omega
  have hshort : ∀ x ∈ ws, wrShort x = true := fun x hx => by
    have h := HQ2.out
    rw [List.any_eq_false] at h
    have := h x hx
    simpa [wrLong] using this
  have hput := batPut (cw := cw) w4 hf4 hb hshort HN.out (by omega) (by omega : B ≤ w4.heap.size) HSEQ.out
  obtain ⟨enc, henc⟩ : ∃ enc, batEnc seq ws = enc := ⟨_, rfl⟩
  rw [henc] at hput HR
  clear henc hshort
  go_wp2_with fail
  refine hput.mono ?_
  rintro e w5 ⟨A5, c5, rfl, happ5, -⟩
  have hb5 := happ5.below0
  have hb05 := hb04.trans (hb5.mono (by omega))
  clear hput happ5
  by_cases h8 : 1048576 < enc.length
  · have h8' : (1048576 : Int) < (enc.length : Int) := by omega
    have hr := HR.out
    rw [if_pos (.inr (.inr (.inr (.inr h8))))] at hr
    subst hr
    go_wp2
    go_ret
    exact ⟨rfl, hb05⟩
  have h8' : decide ((1048576 : Int) < (enc.length : Int)) = false := by simp; omega
  have hr := HR.out
  rw [if_neg (by simp; omega)] at hr
  subst hr
  go_wp2
  go_ret
  exact ⟨rfl, hb05⟩
end Go.Proofs.Ytpjdlcdkldomlaa
