/- The statement SpanBack: what is put into bytes is read again, and nothing else is. The walk. -/
import Derived.Deep.Cut
import Derived.Test.YtohnpogoldbplaaSpW
import Derived.Test.YtohnpogoldbplaaSpZ
import Derived.Test.YtohnpogoldbplaaSpO
namespace Go.Proofs.Ytohnpogoldbplaa
open Go.RowKit

theorem less_bad {s : Sp} (hc : spChk s = 0) (hu : s.U64) : prErr ((spEnc s).take ((spEnc s).length - 1)) ≠ 0 := by
  intro h
  obtain ⟨e, hc', hu'⟩ := prErr_back ((spEnc_byt s).take _) h
  have hne : spEnc s ≠ [] := by
    intro h0
    have h1 := (prSp_stands hc hu).1
    rw [h0] at h1
    exact absurd h1 (by decide +kernel)
  have hs : spEnc s = spEnc (prSp ((spEnc s).take ((spEnc s).length - 1))) ++ [(spEnc s).getLast hne] := by
    rw [e, ← List.dropLast_eq_take, List.dropLast_concat_getLast]
  have h1 := (prSp_stands hc hu).1
  rw [hs, prErr_stands [_] hc' hu', if_neg (by simp)] at h1
  cases h1
theorem enc_pos {s : Sp} (hc : spChk s = 0) (hu : s.U64) : 0 < (spEnc s).length := by
  rcases Nat.eq_zero_or_pos (spEnc s).length with h0 | h0
  · exfalso
    have h1 := (prSp_stands hc hu).1
    rw [List.eq_nil_of_length_eq_zero h0] at h1
    exact absurd h1 (by decide +kernel)
  · exact h0
theorem pies_len2 (l : List Tg) (h : ∀ x ∈ l, x.key.size ≤ 128 ∧ x.val.size ≤ 128) : (l.flatMap tgEnc).length ≤ l.length * 300 := by
  induction l with
  | nil => simp
  | cons x l ih =>
    have h1 := ih (fun y hy => h y (by simp [hy]))
    have hx := h x (by simp)
    have h2 := pie_len x.key (by omega)
    have h3 := pie_len x.val (by omega)
    rw [List.flatMap_cons, List.length_append, List.length_cons, tgEnc, List.length_append]
    omega
theorem enc_len {s : Sp} (hc : spChk s = 0) : (spEnc s).length ≤ 6000 := by
  obtain ⟨f1, f2, f3, f4, f5, f6, f7, f8, f9, f10⟩ := chk_facts hc
  have h1 := pie_len s.service (by omega)
  have h2 := pie_len s.name (by omega)
  have h3 := numEnc_u64 (x := s.start.toNat) (by omega)
  have h4 := numEnc_u64 (x := s.length.toNat) (by omega)
  have h5 := numEnc_u64 (x := s.tags.length) (by omega)
  have h6 := pies_len2 s.tags f4
  rw [spEnc, spHead]
  simp only [List.flatMap_cons, List.flatMap_nil, List.length_append, List.length_cons, List.length_nil, ordEnc_len]
  omega

set_option maxRecDepth 100000 in
set_option maxHeartbeats 8000000 in
theorem spanBack_walk {A0 At : Option Addr} {c0 ct B n0 nt : Nat} {zs : List Int} (s : Sp) (w : World) (hf : RbT w B At s.tags) (hb : Rb w B A0 zs) (hB : B ≤ w.heap.size) (hz : Byt zs) (hc : A0 = none → zs = [] ∧ c0 = 0)
    (hn : zs.length = n0) (hnt : s.tags.length = nt) (hnl : nt ≤ 9223372036854775807) (hu : s.U64) :
    Calls Try.prog 3 #[spV s At nt ct, .slice A0 n0 c0] w fun e w' => e = .returned (.bool true) ∧ Below w.heap.size w w' := by
  have hb0 : Below w.heap.size w (w.alloc (.cells (spC s At nt ct) 27)) := (Below.refl _ w).alloc (Nat.le_refl _) _
  have hf1 := Rd.alloc hf hB (.cells (spC s At nt ct) 27)
  have hr1 := Rd.alloc hb hB (.cells (spC s At nt ct) 27)
  have bk := Bk.new w 27 (spC s At nt ct)
  have hs1 : (w.alloc (.cells (spC s At nt ct) 27)).heap.size = w.heap.size + 1 := by simp
  obtain ⟨w1, hw1⟩ : ∃ w1, w.alloc (.cells (spC s At nt ct) 27) = w1 := ⟨_, rfl⟩
  rw [hw1] at hb0 hf1 hr1 bk hs1
  have HW := Lib.hid hw1
  obtain ⟨q, hq⟩ : ∃ q, smallB s 1000 = q := ⟨_, rfl⟩
  have HQ := Lib.hid hq
  have HN := Lib.hid hn
  have HNT := Lib.hid hnt
  obtain ⟨k, hk⟩ : ∃ k, spChk s = k := ⟨_, rfl⟩
  have HK := Lib.hid hk
  clear hw1 hq hn hnt hk hf hb
  go_enter Try.func3, Try.ntmps3
  go_wp2_with fail
  rw [HW.out]
  refine (lawLives w1).mono ?_
  rintro e w2 ⟨rfl, hb2⟩
  have hs2 := hb2.size
  have hb02 := hb0.trans (hb2.mono (by omega))
  have hf2 := (Rd.below hf1 (hb2.mono (by omega)))
  have hr2 := (Rd.below hr1 (hb2.mono (by omega)))
  have bk2 := bk.below hb2 bk.lt
  clear hf1 hr1 bk hb2 hb0
  have hgw := bk2.lt
  clear hs1 hs2
  go_wp2_with (refine wpList_load_row rfl 27 (.tmp 2) rfl w.heap.size rfl 27 (spC s At nt ct) (0, 0) _ bk2 Try.underlying27 rfl (by rfl) ?_)
  refine (kitSmall (c := ct) s 1000 w2 hf2 HNT.out (by omega) hnl).mono ?_
  rintro e w3 ⟨rfl, hb3⟩
  rw [HQ.out]
  have hs3 := hb3.size
  have hb03 := hb02.trans (hb3.mono (by omega))
  have hf3 := (Rd.below hf2 (hb3.mono (by omega)))
  have hr3 := (Rd.below hr2 (hb3.mono (by omega)))
  have bk3 := bk2.below hb3 hgw
  clear hb02 hf2 hr2 bk2 hb3
  cases q with
  | false =>
    go_wp2
    go_ret
    exact ⟨rfl, hb03⟩
  | true =>
  by_cases hn1000 : 1000 < n0
  · have d1 : (1000 : Int) < (n0 : Int) := by omega
    go_wp2
    go_ret
    exact ⟨rfl, hb03⟩
  have d1 : decide ((1000 : Int) < (n0 : Int)) = false := by simp; omega
  have hl : zs.length ≤ 140737488351232 := by have := HN.out; omega
  go_wp2_with (refine wpList_load_row rfl 27 (.tmp 2) rfl w.heap.size rfl 27 (spC s At nt ct) (0, 0) _ bk3 Try.underlying27 rfl (by rfl) ?_)
  refine (spAppend (zs := []) (n := 0) (B := w3.heap.size) s w3 Rd.nil (Nat.le_refl _) (by simp) (fun _ => ⟨rfl, rfl⟩) rfl (Rd.more hf3 (by omega)) HNT.out hnl hu).mono ?_
  rintro e w4 ⟨hb4, hcase⟩
  have hs4 := hb4.size
  have hb04 := hb03.trans (hb4.mono (by omega))
  have hf4 := (Rd.below hf3 (hb4.mono (by omega)))
  have hr4 := (Rd.below hr3 (hb4.mono (by omega)))
  have bk4 := bk3.below hb4 (by omega)
  clear hb03 hf3 hr3 bk3 hb4
  rcases hcase with ⟨hk0, rfl⟩ | ⟨hk0, A2, c2, rfl, hp4, hc2, hf2⟩
  · obtain ⟨kk, hkk⟩ : ∃ kk, spChk s = kk := ⟨_, rfl⟩
    rw [hkk] at hk0 ⊢
    have hk1 : ((kk : Int) == 0) = false := by rw [beq_eq_false_iff_ne]; omega
    clear hkk
    go_wp2_with fail
    have hBW : B ≤ w4.heap.size := Nat.le_trans hB (hb04).size
    refine (spParse w4 hr4 hBW hz hl hc HN.out).mono ?_
    rintro e v1 ⟨Ax, cx, rfl, htx, hbx, hlx, hfx⟩
    have hsx := hbx.size
    have hwx : w.heap.size ≤ v1.heap.size := Nat.le_trans (hb04).size hsx
    have hb1x := (hb04).trans (hbx.mono (hb04).size)
    have hzx := Rd.below hr4 (hbx.mono hBW)
    obtain ⟨kx, hkx⟩ : ∃ kx, prErr zs = kx := ⟨_, rfl⟩
    rw [hkx]
    obtain ⟨x, hx⟩ : ∃ x, prSp zs = x := ⟨_, rfl⟩
    rw [hx] at htx hlx ⊢
    have HKX := Lib.hid hkx
    have HX := Lib.hid hx
    clear hkx hx
    by_cases hk0 : kx = 0
    case neg =>
      have hk1 : ((kx : Int) != 0) = true := by rw [bne_iff_ne]; omega
      go_wp2
      go_ret
      exact ⟨rfl, hb1x.alloc hwx _⟩
    subst hk0
    obtain ⟨back1, back2, back3⟩ := prErr_back hz HKX.out
    rw [HX.out] at back1 back2 back3
    have htx2 := Rd.allocS htx (.cells (spC x Ax x.tags.length cx) 27)
    have hzx2 := Rd.alloc hzx (Nat.le_trans hBW hsx) (.cells (spC x Ax x.tags.length cx) 27)
    have bkx := Bk.new v1 27 (spC x Ax x.tags.length cx)
    have hbx2 := hb1x.alloc hwx (.cells (spC x Ax x.tags.length cx) 27)
    obtain ⟨v2, hv2⟩ : ∃ v2, v1.alloc (.cells (spC x Ax x.tags.length cx) 27) = v2 := ⟨_, rfl⟩
    rw [hv2] at htx2 hzx2 bkx hbx2
    have HV2 := Lib.hid hv2
    obtain ⟨gx, hgx⟩ : ∃ gx, v1.heap.size = gx := ⟨_, rfl⟩
    rw [hgx] at bkx
    have HGX := Lib.hid hgx
    have hBV2 : B ≤ v2.heap.size := Nat.le_trans hB hbx2.size
    have hnx : x.tags.length ≤ 9223372036854775807 := by have := (chk_facts back2).2.2.1; omega
    clear hv2 hgx hb1x hzx htx hbx hsx hfx hBW
    go_upto_region 17 with fail
    rw [HV2.out, HGX.out]
    go_wp2_with (refine wpList_load_row rfl 27 (.tmp 11) rfl gx rfl 27 (spC x Ax x.tags.length cx) (0, 0) _ bkx Try.underlying27 rfl (by rfl) ?_)
    refine (spAppend (zs := []) (n := 0) (B := v2.heap.size) x v2 Rd.nil (Nat.le_refl _) (by simp) (fun _ => ⟨rfl, rfl⟩) rfl htx2 rfl hnx back3).mono ?_
    rintro e v3 ⟨hb3x, ⟨hbad, -⟩ | ⟨-, Aq, cq, rfl, hrq, -, -⟩⟩
    · exact absurd back2 hbad
    rw [List.nil_append, back1] at hrq ⊢
    have hz3 := Rd.below hzx2 (hb3x.mono hBV2)
    have hq1 := Rb.str (P := Try.prog) hrq Try.underlying28 Try.underlying5 Try.underlying9 cq
    have hq2 := Rb.str (P := Try.prog) hz3 Try.underlying28 Try.underlying5 Try.underlying9 c0
    rw [HN.out] at hq1 hq2 ⊢
    have hfin := hbx2.trans (hb3x.mono hbx2.size)
    obtain ⟨str, hstr⟩ : ∃ str, strOfNums zs = str := ⟨_, rfl⟩
    rw [hstr] at hq1 hq2
    clear hstr hrq hz3 hb3x hzx2 htx2 hbx2
    go_wp2
    go_ret
    exact ⟨by simp, hfin⟩
  · have hck := hk0
    have hen := enc_len hk0
    have hep := enc_pos hk0 hu
    obtain ⟨E, hE⟩ : ∃ E, [] ++ spEnc s = E := ⟨_, rfl⟩
    have hE' : spEnc s = E := by rw [← hE]; rfl
    have e0 : prErr E = 0 := by rw [← hE']; exact (prSp_stands hk0 hu).1
    have e1 : prSp E = s := by rw [← hE']; exact (prSp_stands hk0 hu).2
    have e2 : prErr (E ++ [0]) = 4 := by rw [← hE', prErr_stands [0] hk0 hu, if_neg (by simp)]
    have e3 : prErr (E.take (E.length - 1)) ≠ 0 := by rw [← hE']; exact less_bad hk0 hu
    have hEb : Byt E := by rw [← hE']; exact spEnc_byt _
    rw [hE'] at hen hep
    rw [hE] at hp4 hc2 ⊢
    clear hE hE' hk0
    obtain ⟨ne, hne⟩ : ∃ ne, E.length = ne := ⟨_, rfl⟩
    have hA2 : A2 = none → E = [] ∧ c2 = 0 := fun h => by
      obtain ⟨b, o, e, _, _⟩ := hp4 (by cases E with | nil => simp at hep | cons x l => simp [bv])
      rw [h] at e
      cases e
    rw [hne] at hc2 hen hep e3 ⊢
    have HNE := Lib.hid hne
    have HA2 := Lib.hid hA2
    clear hne hA2
    go_wp2_with fail
    refine (spParse w4 hp4 (Nat.le_refl _) hEb (by have := HNE.out; omega) HA2.out HNE.out).mono ?_
    rintro e w5 ⟨A5, c5, rfl, ht5, hb5, -, -⟩
    rw [e1] at ht5 ⊢
    rw [e0, HNT.out]
    have hs5 := hb5.size
    have hb05 := hb04.trans (hb5.mono (by omega))
    have hf5 := Rd.below hf4 (hb5.mono (by omega))
    have hr5 := Rd.below hr4 (hb5.mono (by omega))
    have hp5 := Rd.belowS hp4 hb5
    have bk5 := bk4.below hb5 bk4.lt
    have hb06 := hb05.alloc (by omega) (.cells (spC s A5 nt c5) 27)
    have hf6 := Rd.alloc hf5 (by omega) (.cells (spC s A5 nt c5) 27)
    have hr6 := Rd.alloc hr5 (by omega) (.cells (spC s A5 nt c5) 27)
    have hp6 := Rd.allocS hp5 (.cells (spC s A5 nt c5) 27)
    have ht6 := Rd.allocS ht5 (.cells (spC s A5 nt c5) 27)
    have bk6 := bk5.alloc (.cells (spC s A5 nt c5) 27)
    have bj6 := Bk.new w5 27 (spC s A5 nt c5)
    obtain ⟨w6, hw6⟩ : ∃ w6, w5.alloc (.cells (spC s A5 nt c5) 27) = w6 := ⟨_, rfl⟩
    rw [hw6] at hb06 hf6 hr6 hp6 ht6 bk6 bj6
    have HW6 := Lib.hid hw6
    obtain ⟨gj, hgj⟩ : ∃ gj, w5.heap.size = gj := ⟨_, rfl⟩
    rw [hgj] at bj6
    have HGJ := Lib.hid hgj
    have hwz : w.heap.size ≤ w6.heap.size := hb06.size
    clear hf5 hr5 hp5 ht5 bk5 hb05 hw6 hgj hf4 hr4 hp4 bk4 hb04 hb5 hs5 hs4 hs3
    go_upto_region 8 with fail
    rw [HW6.out, HGJ.out]
    go_wp2_with (at_builtin; go_loud (refine wpList_appb _ rfl (.tmp 36) (.tmp 37) rfl w6.heap.size _ 0 [] rfl (World.ownsRow_lit w6 #[] 0 (Nat.le_refl _) (by simp [maxLen]) rfl) w6.heap.size A2 ne c2 E rfl HNE.out (Rd.alloc hp6 (Nat.le_refl _) _) (by omega) (by simp) ?_))
    intro A7 c7 w7 happ7 _
    have h7 := happ7.fresh1
    clear happ7
    have h7a := h7.alloc (.cells #[.int .u8 0] 5)
    have hl7 : w6.heap.size ≤ (w7.alloc (.cells #[.int .u8 0] 5)).heap.size := h7a.heap
    go_wp2_with (at_builtin; go_loud (refine wpList_appb _ rfl (.tmp 38) (.tmp 39) rfl w6.heap.size _ ne E rfl h7a.own _ _ 1 1 [0] rfl rfl (Rd.lit _ _ _) (by omega) hl7 ?_))
    intro A8 c8 w8 happ8 _
    have h8 := h7a.trans happ8
    have hb8 := h8.below0
    have hs8 := hb8.size
    have hb08 := hb06.trans (hb8.mono hwz)
    have hf8 := Rd.below hf6 (hb8.mono (by omega))
    have hr8 := Rd.below hr6 (hb8.mono (by omega))
    have hp8 := Rd.belowS hp6 hb8
    have ht8 := Rd.belowS ht6 hb8
    have bk8 := bk6.below hb8 bk6.lt
    have bj8 := bj6.below hb8 bj6.lt
    have hrd8 := h8.rd
    have hE0b : Byt (E ++ [0]) := hEb.append (Byt.one (by omega) (by omega))
    have hE0l : (E ++ [0]).length = ne + 1 := by rw [List.length_append, HNE.out]; rfl
    have hA8 : A8 = none → E ++ [0] = [] ∧ c8 = 0 := fun h => by
      obtain ⟨b, o, e, _, _⟩ := hrd8 (by simp [bv])
      rw [h] at e
      cases e
    have HE0l := Lib.hid hE0l
    have HA8 := Lib.hid hA8
    clear hf6 hr6 hp6 ht6 bk6 bj6 hb06 h7 h7a happ8 hl7 hE0l hA8 h8 hb8
    go_wp2_with fail
    refine (spParse w8 hrd8 (Nat.le_refl _) hE0b (by have := HE0l.out; omega) HA8.out HE0l.out).mono ?_
    rintro e w9 ⟨A9, c9, rfl, -, hb9, -, -⟩
    rw [e2]
    obtain ⟨z, hz9⟩ : ∃ z, prSp (E ++ [0]) = z := ⟨_, rfl⟩
    rw [hz9]
    have hs9 := hb9.size
    have hb09 := hb08.trans (hb9.mono (by omega))
    have hf9 := Rd.below hf8 (hb9.mono (by omega))
    have hr9 := Rd.below hr8 (hb9.mono (by omega))
    have hp9 := Rd.belowS hp8 hb9
    have ht9 := Rd.belowS ht8 hb9
    have bk9 := bk8.below hb9 bk8.lt
    have bj9 := bj8.below hb9 bj8.lt
    have hb10 := hb09.alloc (by omega) (.cells (spC z A9 z.tags.length c9) 27)
    have hf10 := Rd.alloc hf9 (by omega) (.cells (spC z A9 z.tags.length c9) 27)
    have hr10 := Rd.alloc hr9 (by omega) (.cells (spC z A9 z.tags.length c9) 27)
    have hp10 := Rd.allocS hp9 (.cells (spC z A9 z.tags.length c9) 27)
    have ht10 := Rd.allocS ht9 (.cells (spC z A9 z.tags.length c9) 27)
    have bk10 := bk9.alloc (.cells (spC z A9 z.tags.length c9) 27)
    have bj10 := bj9.alloc (.cells (spC z A9 z.tags.length c9) 27)
    obtain ⟨w10, hw10⟩ : ∃ w10, w9.alloc (.cells (spC z A9 z.tags.length c9) 27) = w10 := ⟨_, rfl⟩
    rw [hw10] at hb10 hf10 hr10 hp10 ht10 bk10 bj10
    have HW10 := Lib.hid hw10
    have hs10 : w.heap.size ≤ w10.heap.size := hb10.size
    clear hf8 hr8 hp8 ht8 bk8 bj8 hb08 hb9 hf9 hr9 hp9 ht9 bk9 bj9 hb09 hrd8 hw10 hz9 e2
    go_upto_region 9 with fail
    rw [HW10.out]
    obtain ⟨ki0, ki1, ki2, ki3, ki4, ki5, ki6, ki7, ki8, ki9, ki10⟩ := cells11 bk10
    obtain ⟨kj0, kj1, kj2, kj3, kj4, kj5, kj6, kj7, kj8, kj9, kj10⟩ := cells11 bj10
    have hB10 : B ≤ w10.heap.size := by omega
    have hsm := kitSameTags (c1 := c5) (c2 := ct) (n := nt) (B := w10.heap.size) s s.tags s.tags w10 ht10 (Rd.more hf10 hB10) HNT.out HNT.out (Nat.le_refl _) hnl
    rw [decide_eq_true rfl] at hsm
    have HSM := Lib.hid hsm
    clear hsm
    go_wp2_with fail
    refine HSM.out.mono ?_
    rintro e w11 ⟨rfl, hb11⟩
    have hs11 := hb11.size
    have hb011 := hb10.trans (hb11.mono (by omega))
    have hr11 := Rd.below hr10 (hb11.mono (by omega))
    have hp11 := Rd.belowS hp10 hb11
    clear ki0 ki1 ki2 ki3 ki4 ki5 ki6 ki7 ki8 ki9 ki10 kj0 kj1 kj2 kj3 kj4 kj5 kj6 kj7 kj8 kj9 kj10 hf10 hr10 hp10 ht10 bk10 bj10 hb10 hb11
    obtain ⟨nm, hnm⟩ : ∃ nm, ne - 1 = nm := ⟨_, rfl⟩
    rw [hnm] at e3
    have hm1 : (ne : Int) - 1 = (nm : Int) := by omega
    have hm2 : (nm : Int) ≤ (c2 : Int) := by omega
    have hm3 : nm ≤ c2 := by omega
    have hne0 : ((ne : Int) == 0) = false := by rw [beq_eq_false_iff_ne]; omega
    have hEm : (E.take nm).length = nm := by rw [List.length_take, HNE.out]; omega
    obtain ⟨km, hkm⟩ : ∃ km, prErr (E.take nm) = km := ⟨_, rfl⟩
    rw [hkm] at e3
    have hpm := fun (AA : Option Addr) (h1 : AA = A2) => spParse (c0 := c2) (B := w11.heap.size) (A0 := AA) w11 (by rw [h1]; exact Rb.take hp11 nm) (Nat.le_refl _) (hEb.take nm) (by omega) (fun h => by
      obtain ⟨h2, h3⟩ := HA2.out (by rw [← h1, h])
      exact ⟨by rw [h2]; simp, h3⟩) hEm
    have HPM := Lib.hid hpm
    have HNM := Lib.hid hnm
    have HEM := Lib.hid hEm
    have HKM := Lib.hid hkm
    clear hnm hEm hkm hpm
    go_wp2_with fail
    refine (HPM.out A2 rfl).mono ?_
    rintro e w12 ⟨A12, c12, rfl, -, hb12, -, -⟩
    rw [HKM.out]
    obtain ⟨y, hy⟩ : ∃ y, prSp (E.take nm) = y := ⟨_, rfl⟩
    rw [hy]
    have hb012 := hb011.trans (hb12.mono (by omega))
    have hr12 := Rd.below hr11 (hb12.mono (by omega))
    have hkm1 : ((km : Int) == 0) = false := by rw [beq_eq_false_iff_ne]; omega
    clear hr11 hp11 hb011 hb12 hy e0 e1 hEb
    go_wp2_with fail
    have hBW : B ≤ w12.heap.size := Nat.le_trans hB (hb012).size
    refine (spParse w12 hr12 hBW hz hl hc HN.out).mono ?_
    rintro e v1 ⟨Ax, cx, rfl, htx, hbx, hlx, hfx⟩
    have hsx := hbx.size
    have hwx : w.heap.size ≤ v1.heap.size := Nat.le_trans (hb012).size hsx
    have hb1x := (hb012).trans (hbx.mono (hb012).size)
    have hzx := Rd.below hr12 (hbx.mono hBW)
    obtain ⟨kx, hkx⟩ : ∃ kx, prErr zs = kx := ⟨_, rfl⟩
    rw [hkx]
    obtain ⟨x, hx⟩ : ∃ x, prSp zs = x := ⟨_, rfl⟩
    rw [hx] at htx hlx ⊢
    have HKX := Lib.hid hkx
    have HX := Lib.hid hx
    clear hkx hx
    by_cases hk0 : kx = 0
    case neg =>
      have hk1 : ((kx : Int) != 0) = true := by rw [bne_iff_ne]; omega
      go_wp2
      go_ret
      exact ⟨rfl, hb1x.alloc hwx _⟩
    subst hk0
    obtain ⟨back1, back2, back3⟩ := prErr_back hz HKX.out
    rw [HX.out] at back1 back2 back3
    have htx2 := Rd.allocS htx (.cells (spC x Ax x.tags.length cx) 27)
    have hzx2 := Rd.alloc hzx (Nat.le_trans hBW hsx) (.cells (spC x Ax x.tags.length cx) 27)
    have bkx := Bk.new v1 27 (spC x Ax x.tags.length cx)
    have hbx2 := hb1x.alloc hwx (.cells (spC x Ax x.tags.length cx) 27)
    obtain ⟨v2, hv2⟩ : ∃ v2, v1.alloc (.cells (spC x Ax x.tags.length cx) 27) = v2 := ⟨_, rfl⟩
    rw [hv2] at htx2 hzx2 bkx hbx2
    have HV2 := Lib.hid hv2
    obtain ⟨gx, hgx⟩ : ∃ gx, v1.heap.size = gx := ⟨_, rfl⟩
    rw [hgx] at bkx
    have HGX := Lib.hid hgx
    have hBV2 : B ≤ v2.heap.size := Nat.le_trans hB hbx2.size
    have hnx : x.tags.length ≤ 9223372036854775807 := by have := (chk_facts back2).2.2.1; omega
    clear hv2 hgx hb1x hzx htx hbx hsx hfx hBW
    go_upto_region 17 with fail
    rw [HV2.out, HGX.out]
    go_wp2_with (refine wpList_load_row rfl 27 (.tmp 11) rfl gx rfl 27 (spC x Ax x.tags.length cx) (0, 0) _ bkx Try.underlying27 rfl (by rfl) ?_)
    refine (spAppend (zs := []) (n := 0) (B := v2.heap.size) x v2 Rd.nil (Nat.le_refl _) (by simp) (fun _ => ⟨rfl, rfl⟩) rfl htx2 rfl hnx back3).mono ?_
    rintro e v3 ⟨hb3x, ⟨hbad, -⟩ | ⟨-, Aq, cq, rfl, hrq, -, -⟩⟩
    · exact absurd back2 hbad
    rw [List.nil_append, back1] at hrq ⊢
    have hz3 := Rd.below hzx2 (hb3x.mono hBV2)
    have hq1 := Rb.str (P := Try.prog) hrq Try.underlying28 Try.underlying5 Try.underlying9 cq
    have hq2 := Rb.str (P := Try.prog) hz3 Try.underlying28 Try.underlying5 Try.underlying9 c0
    rw [HN.out] at hq1 hq2 ⊢
    have hfin := hbx2.trans (hb3x.mono hbx2.size)
    obtain ⟨str, hstr⟩ : ∃ str, strOfNums zs = str := ⟨_, rfl⟩
    rw [hstr] at hq1 hq2
    clear hstr hrq hz3 hb3x hzx2 htx2 hbx2
    go_wp2
    go_ret
    exact ⟨by simp, hfin⟩
theorem spanBack_in (s : Sp) (A : Option Addr) (n c : Nat) (A0 : Option Addr) (n0 c0 : Nat) (zs : List Int) (W : World) (h : InSp W s A n c) (hb : InB W A0 n0 c0 zs) :
    Calls Try.prog 3 #[spV s A n c, .slice A0 n0 c0] W fun e w' => e = .returned (.bool true) ∧ Below W.heap.size W w' :=
  spanBack_walk s W h.tags.rd hb.rd (Nat.le_refl _) hb.byt (fun h0 => ⟨List.eq_nil_of_length_eq_zero (by have := hb.nil h0; have := hb.cap; have := hb.len; omega), hb.nil h0⟩) hb.len h.tags.len (by have := h.tags.cap; have := h.tags.max; simp only [maxLen] at this; omega) h.u64
end Go.Proofs.Ytohnpogoldbplaa
