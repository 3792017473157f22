/- The statement SchemaBack: keys and values are read again, and keys are in the order of their parts. The walk. -/
import Derived.Deep.Cut
import Derived.Deep.CutRange
import Derived.Test.YtlamebbolioljaaScM
import Derived.Test.YtlamebbolioljaaScP
import Derived.Test.YtlamebbolioljaaKyO
import Derived.Test.YtlamebbolioljaaAdR
import Derived.Test.YtlamebbolioljaaAdS
import Derived.Test.YtlamebbolioljaaAdO
import Derived.Test.YtlamebbolioljaaSpS
namespace Go.Proofs.Ytlamebbolioljaa
open Go.RowKit
theorem loadKy_shut7 (a : Addr) : loadVar 26 a = loadK 26 a := rfl
theorem loadSp_shut7 (a : Addr) : loadVar 43 a = loadK 43 a := rfl
theorem loadAd_shut7 (a : Addr) : loadVar 45 a = loadK 45 a := rfl
attribute [local go_sem ↓] loadKy_shut7 loadSp_shut7 loadAd_shut7

theorem neqKy (k : Ky) (W : World) : (binOp .neq 26 (kyV k) (kyV k)).run Try.prog W = .ok (.bool false) W := by
  go_simp
/-- What the law was handed. -/
structure BaS (w0 W : World) (g : Nat) (a b : Ky) (s : Ad) (A : Option Addr) (n c : Nat) : Prop where
  bel : Below w0.heap.size w0 W
  ka : Bk W g 26 (kyC a)
  kb : Bk W (g + 1) 26 (kyC b)
  ks : Bk W (g + 2) 45 (adC s A n c)
  tags : RbT W W.heap.size A s.s.tags
theorem BaS.below {w0 W W' : World} {g : Nat} {a b : Ky} {s : Ad} {A : Option Addr} {n c : Nat} (h : BaS w0 W g a b s A n c) (hb : Below W.heap.size W W') : BaS w0 W' g a b s A n c :=
  ⟨h.bel.trans (hb.mono h.bel.size), h.ka.bS hb, h.kb.bS hb, h.ks.bS hb, Rd.belowS h.tags hb⟩
theorem BaS.loads {w0 W : World} {g : Nat} {a b : Ky} {s : Ad} {A : Option Addr} {n c : Nat} (h : BaS w0 W g a b s A n c) :
    (loadK 26 ⟨g, 0, none⟩).run Try.prog W = .ok (kyV a) W ∧ (loadK 26 ⟨g + 1, 0, none⟩).run Try.prog W = .ok (kyV b) W ∧ (loadK 43 ⟨g + 1 + 1, 0, none⟩).run Try.prog W = .ok (spV s.s A n c) W ∧ (loadK 45 ⟨g + 1 + 1, 0, none⟩).run Try.prog W = .ok (adV s A n c) W :=
  ⟨loadK_ky h.ka, loadK_ky h.kb, loadK_adSp h.ks, loadK_ad h.ks⟩
theorem conv_atB {W w' : World} {A : Option Addr} {c n : Nat} {zs : List Int} (h : Rb W W.heap.size A zs) (hn : zs.length = n) (hb : Below W.heap.size W w') : (convert 27 9 (.slice A n c)).run Try.prog w' = .ok (.string (strOfNums zs)) w' := by
  subst hn
  exact (show Rb w' W.heap.size A zs from h.below hb).str (P := Try.prog) Try.underlying27 Try.underlying5 Try.underlying9 c
theorem packOf_ok {k : Ky} (h : kyChk k = 0) : packOf k = (keyTo k (kyParts k), 0) := by
  rw [packOf, firstOf, if_neg (by omega), if_neg (by omega), Int.toNat_natCast, List.take_length]
theorem packOf_no {k : Ky} (h : kyChk k ≠ 0) : packOf k = ([], kyChk k) := by
  rw [packOf, firstOf, if_pos h]
theorem keyTo_byt (k : Ky) (l : List Int) : Byt (keyTo k l) := by
  refine Byt.append (fun x hx => by simp at hx; omega) (fun x hx => ?_)
  obtain ⟨p, -, hp⟩ := List.mem_flatMap.1 hx
  unfold partEnc at hp
  cases hi : (allOf k)[p.toNat]? with
  | none => rw [hi] at hp; simp at hp
  | some it =>
    rw [hi] at hp
    cases it with
    | inl n => exact ordEnc_byt n x hp
    | inr s => exact txtEnc_byt (nums_byt s) x hp
theorem keyTo_small {k : Ky} (hu : k.U64) (hc : kyChk k = 0) (l : List Int) (hl : l.length ≤ 7) : (keyTo k l).length ≤ 2000 := by
  have h : ∀ l : List Int, (l.flatMap (partEnc k)).length ≤ l.length * 258 := by
    intro l
    induction l with
    | nil => simp
    | cons p l ih =>
      have hp : (partEnc k p).length ≤ 258 := by
        unfold partEnc
        cases hit : (allOf k)[p.toNat]? with
        | none => simp
        | some it => exact itEnc_len (all_fine hu hc it (List.mem_of_getElem? hit))
      simp only [List.flatMap_cons, List.length_append, List.length_cons]
      omega
  have := h l
  simp only [keyTo, List.length_append, List.length_cons, List.length_nil]
  omega
set_option maxRecDepth 100000 in
set_option maxHeartbeats 8000000 in
theorem schemaBack_walk (a b : Ky) (s : Ad) (A : Option Addr) (n c : Nat) (x : Int) (w : World) (ha : InKy a) (hb : InKy b) (hs : InAd w s A n c) (hx : (Lit.int .i64 x).wf = true) :
    Calls Try.prog 7 #[kyV a, kyV b, adV s A n c, .int .i64 x] w fun e w' => e = .returned (.bool true) ∧ Below w.heap.size w w' := by
  have hxr := i64_ofK hx
  have hb0 : Below w.heap.size w (((w.alloc (.cells (kyC a) 26)).alloc (.cells (kyC b) 26)).alloc (.cells (adC s A n c) 45)) := (((Below.refl _ w).alloc (Nat.le_refl _) _).alloc (by simp) _).alloc (by simp; omega) _
  have ba := ((Bk.new w 26 (kyC a)).alloc (.cells (kyC b) 26)).alloc (.cells (adC s A n c) 45)
  have bb := (Bk.new (w.alloc (.cells (kyC a) 26)) 26 (kyC b)).alloc (.cells (adC s A n c) 45)
  have bs := Bk.new ((w.alloc (.cells (kyC a) 26)).alloc (.cells (kyC b) 26)) 45 (adC s A n c)
  simp only [World.size_alloc] at bb bs
  obtain ⟨w1, hw1⟩ : ∃ w1, ((w.alloc (.cells (kyC a) 26)).alloc (.cells (kyC b) 26)).alloc (.cells (adC s A n c) 45) = w1 := ⟨_, rfl⟩
  rw [hw1] at hb0 ba bb bs
  obtain ⟨g, hg⟩ : ∃ g, w.heap.size = g := ⟨_, rfl⟩
  rw [hg] at ba bb bs
  have ks : BaS w w1 g a b s A n c := ⟨hb0, ba, bb, bs, Rd.belowS hs.sp.tags.rd hb0⟩
  have HW := Lib.hid hw1
  have HG := Lib.hid hg
  have hnl : s.s.tags.length = n := hs.sp.tags.len
  have hnm : n ≤ 9223372036854775807 := by have h1 := hs.sp.tags.cap; have h2 := hs.sp.tags.max; simp only [maxLen] at h2; omega
  have HNL := Lib.hid hnl
  obtain ⟨sa, hsa⟩ : ∃ q, smallK a = q := ⟨_, rfl⟩
  obtain ⟨sb, hsb⟩ : ∃ q, smallK b = q := ⟨_, rfl⟩
  obtain ⟨ss, hss⟩ : ∃ q, smallB s.s 2000 = q := ⟨_, rfl⟩
  have CA : Hid (∀ W, Calls Try.prog 9 #[kyV a] W fun e w' => e = .returned (.bool sa) ∧ Below W.heap.size W w') := Lib.hid fun W => by rw [← hsa]; exact lawSmallK a W
  have CB : Hid (∀ W, Calls Try.prog 9 #[kyV b] W fun e w' => e = .returned (.bool sb) ∧ Below W.heap.size W w') := Lib.hid fun W => by rw [← hsb]; exact lawSmallK b W
  have CS : Hid (∀ W, RbT W W.heap.size A s.s.tags → Calls Try.prog 23 #[spV s.s A n c, .int .i64 2000] W fun e w' => e = .returned (.bool ss) ∧ Below W.heap.size W w') := Lib.hid fun W h => by rw [← hss]; exact kitSmall s.s 2000 W h hnl (Nat.le_refl _) hnm
  have HKS := Lib.hid ks
  have HOK := Lib.hid hs.ok
  have HUA := Lib.hid ha.u64
  have HUB := Lib.hid hb.u64
  clear hw1 hg hsa hsb hss hb0 ba bb bs ha hb hs hx hnl
  have hcs : (sa = false) ∨ (sa = true ∧ sb = false) ∨ (sa = true ∧ sb = true ∧ ss = false) ∨ (sa = true ∧ sb = true ∧ ss = true) := by
    cases sa
    · exact .inl rfl
    cases sb
    · exact .inr (.inl ⟨rfl, rfl⟩)
    cases ss
    · exact .inr (.inr (.inl ⟨rfl, rfl, rfl⟩))
    · exact .inr (.inr (.inr ⟨rfl, rfl, rfl⟩))
  obtain ⟨l1, l2, l3, l4⟩ := ks.loads
  clear ks
  rcases hcs with rfl | ⟨rfl, rfl⟩ | ⟨rfl, rfl, rfl⟩ | ⟨rfl, rfl, rfl⟩
  case inr.inr.inr =>
    go_enter Try.func7, Try.ntmps7
    go_upto_region 1 with fail
    rw [HW.out, HG.out]
    go_upto_region 5 with (first
      | (go_at_call 8; refine (scLives _).mono ?_; rintro e w2 ⟨rfl, hb2⟩; have ks2 := HKS.out.below hb2; obtain ⟨m1, m2, m3, m4⟩ := ks2.loads)
      | (go_at_call 9; with_reducible refine (CA.out _).mono ?_; rintro e w3 ⟨rfl, hb3⟩; have ks3 := ks2.below hb3; obtain ⟨n1, n2, n3, n4⟩ := ks3.loads)
      | (go_at_call 9; with_reducible refine (CB.out _).mono ?_; rintro e w4 ⟨rfl, hb4⟩; have ks4 := ks3.below hb4; obtain ⟨o1, o2, o3, o4⟩ := ks4.loads)
      | (go_at_call 23; refine (CS.out _ ks4.tags).mono ?_; rintro e w5 ⟨rfl, hb5⟩; have ks5 := ks4.below hb5))
    obtain ⟨p1, p2, p3, p4⟩ := ks5.loads
    clear l1 l2 l3 l4 m1 m2 m3 m4 n1 n2 n3 n4 o1 o2 o3 o4 ks2 ks3 ks4 hb2 hb3 hb4 hb5
    have cs := scSpan (ct := c) s w5 ks5.tags (Nat.le_refl _) HNL.out hnm HOK.out
    obtain ⟨r, hr⟩ : ∃ r, adOut s = r := ⟨_, rfl⟩
    rw [hr] at cs
    have CSP := Lib.hid cs
    have HR := Lib.hid hr
    clear cs hr
    go_upto_if 41 with (go_at_call 24; refine CSP.out.mono ?_; rintro e w6 ⟨A6, c6, rfl, hr6, hb6, hcap6, -, -⟩)
    have ks6 := ks5.below hb6
    clear p1 p2 p3 p4 ks5 hb6
    go_cut [11, 12] from 40 to 56 (fun _ _ W => BaS w W g a b s A n c)
    case first =>
      have hcs : (adChk s = 0 ∧ r = (adEnc s, 0)) ∨ (∃ q : Nat, q ≠ 0 ∧ r = ([], q)) := by
        rw [← HR.out]
        unfold adOut
        by_cases h : adChk s = 0
        · exact .inl ⟨h, by rw [if_pos h]⟩
        · exact .inr ⟨adChk s, h, by rw [if_neg h]⟩
      rcases hcs with ⟨hc0, rfl⟩ | ⟨q, hq0, rfl⟩
      · have cr := scReadSpan (c0 := c6) s w6 hr6 (Nat.le_refl _) HOK.out hc0 rfl hcap6
        have CR := Lib.hid cr
        clear cr hr6
        go_upto_region 8 with (go_at_call 25; refine CR.out.mono ?_; rintro e w7 ⟨At, ct, rfl, hT, hb7, hct⟩)
        have hbS := hb7.alloc hb7.size (.cells (adC s At s.s.tags.length ct) 45)
        have ks8 := ks6.below hbS
        have bk8 := Bk.new w7 45 (adC s At s.s.tags.length ct)
        have hT8 := Rd.allocS hT (.cells (adC s At s.s.tags.length ct) 45)
        obtain ⟨g8, hg8⟩ : ∃ g8, w7.heap.size = g8 := ⟨_, rfl⟩
        obtain ⟨w8, hw8⟩ : ∃ w8, w7.alloc (.cells (adC s At s.s.tags.length ct) 45) = w8 := ⟨_, rfl⟩
        rw [hw8] at hbS ks8 bk8 hT8 ⊢
        rw [hg8] at bk8 ⊢
        clear hw8 hg8 hb7 hT hbS ks6
        have la8 := loadK_ad bk8
        have lb8 : ∀ cs : Array Value, (loadK 45 ⟨g + 1 + 1, 0, none⟩).run Try.prog (w8.alloc (.cells cs 45)) = .ok (adV s A n c) (w8.alloc (.cells cs 45)) := fun cs => loadK_ad (ks8.ks.alloc (.cells cs 45))
        have hb9 : Below w8.heap.size w8 ((w8.alloc (.cells (adC s At s.s.tags.length ct) 45)).alloc (.cells (adC s A n c) 45)) := ((Below.refl _ w8).alloc (Nat.le_refl _) _).alloc (by simp) _
        have q1 : Bk ((w8.alloc (.cells (adC s At s.s.tags.length ct) 45)).alloc (.cells (adC s A n c) 45)) w8.heap.size 45 (adC s At n ct) := by
          have h := (Bk.new w8 45 (adC s At s.s.tags.length ct)).alloc (.cells (adC s A n c) 45)
          rw [HNL.out] at h ⊢
          exact h
        have q2 : Bk ((w8.alloc (.cells (adC s At s.s.tags.length ct) 45)).alloc (.cells (adC s A n c) 45)) (w8.heap.size + 1) 45 (adC s A n c) := by
          have h := Bk.new (w8.alloc (.cells (adC s At s.s.tags.length ct) 45)) 45 (adC s A n c)
          rwa [World.size_alloc] at h
        have csa := kitSameAdj1 (B := w8.heap.size) s _ q1 q2 (Rd.below hT8 hb9) (Rd.below ks8.tags hb9) HNL.out hb9.size hnm
        have CSA := Lib.hid csa
        have HB9 := Lib.hid hb9
        clear csa q1 q2 hb9
        go_wp2_with fail
        refine CSA.out.mono ?_
        rintro e w9 ⟨rfl, hb10⟩
        have ks9 := ks8.below (HB9.out.trans (hb10.mono HB9.out.size))
        go_wp2
        go_meet
        exact ks9
      · have d : ((q : Int) == 0) = false := by rw [beq_eq_false_iff_ne]; omega
        clear hq0
        go_wp2_with fail
        go_meet
        exact ks6
    case rest =>
      have ks := hcut
      clear hcut ks6 hr6 hcap6 HR CSP
      obtain ⟨ra, hra⟩ : ∃ ra, packOf a = ra := ⟨_, rfl⟩
      obtain ⟨rb, hrb⟩ : ∃ rb, packOf b = rb := ⟨_, rfl⟩
      have CPA : Hid (∀ W, Calls Try.prog 10 #[kyV a] W (KeyMade W ra)) := Lib.hid fun W => by rw [← hra]; exact scPackK a W HUA.out
      have CPB : Hid (∀ W, Calls Try.prog 10 #[kyV b] W (KeyMade W rb)) := Lib.hid fun W => by rw [← hrb]; exact scPackK b W HUB.out
      have hcs : (∃ q : Nat, q ≠ 0 ∧ ra = ([], q)) ∨ (kyChk a = 0 ∧ ra = (keyTo a (kyParts a), 0) ∧ ∃ q : Nat, q ≠ 0 ∧ rb = ([], q)) ∨ (kyChk a = 0 ∧ ra = (keyTo a (kyParts a), 0) ∧ kyChk b = 0 ∧ rb = (keyTo b (kyParts b), 0)) := by
        rw [← hra, ← hrb]
        by_cases h1 : kyChk a = 0
        · by_cases h2 : kyChk b = 0
          · exact .inr (.inr ⟨h1, packOf_ok h1, h2, packOf_ok h2⟩)
          · exact .inr (.inl ⟨h1, packOf_ok h1, _, h2, packOf_no h2⟩)
        · exact .inl ⟨_, h1, packOf_no h1⟩
      clear hra hrb
      obtain ⟨p1, p2, p3, p4⟩ := ks.loads
      go_upto_region 12 with (first
        | (go_at_call 10; (with_reducible refine (CPA.out _).mono ?_); rintro e wa ⟨Aa, ca, rfl, hqa, hba, hcapa, -, -⟩; have ksa := ks.below hba; obtain ⟨q1, q2, q3, q4⟩ := ksa.loads)
        | (go_at_call 10; (with_reducible refine (CPB.out _).mono ?_); rintro e wb ⟨Ab, cb, rfl, hqb, hbb, hcapb, -, -⟩))
      have ksb := ksa.below hbb
      have hqa2 := hqa.belowS hbb
      clear p1 p2 p3 p4 q1 q2 q3 q4 ks ksa hqa hba hbb
      rcases hcs with ⟨q, hq, rfl⟩ | ⟨ha0, rfl, q, hq, rfl⟩ | ⟨ha0, rfl, hb0, rfl⟩
      · have d : ((q : Int) != 0) = true := by rw [bne_iff_ne]; omega
        clear hq
        go_wp2
        go_ret
        exact ⟨rfl, ksb.bel⟩
      · have d : ((q : Int) != 0) = true := by rw [bne_iff_ne]; omega
        clear hq ha0
        go_wp2
        go_ret
        exact ⟨rfl, ksb.bel⟩
      · have hsma := keyTo_small HUA.out ha0 (kyParts a) (partsOf_len a.kind)
        have cu := scUnpack (c0 := ca) wb hqa2 (Nat.le_refl _) (keyTo_byt a _) (show (keyTo a (kyParts a)).length ≤ 1000000 by omega) rfl hcapa
        rw [unp_pack HUA.out ha0] at cu
        have CU := Lib.hid cu
        have cf := fun W => scFirst a x W HUA.out hxr.1 hxr.2
        obtain ⟨f, hf⟩ : ∃ f, firstOf a x = f := ⟨_, rfl⟩
        rw [hf] at cf
        have CF := Lib.hid cf
        obtain ⟨zf, ef⟩ := f
        have hfc : (ef ≠ 0) ∨ (∃ m, keyTo a ((kyParts a).take m) = zf ∧ ef = 0) := by
          rw [firstOf, if_neg (by omega)] at hf
          by_cases h : x < 0 ∨ ((kyParts a).length : Int) < x
          · rw [if_pos h] at hf
            exact .inl (by have := congrArg Prod.snd hf; simp only at this; omega)
          · rw [if_neg h] at hf
            exact .inr ⟨_, congrArg Prod.fst hf, (congrArg Prod.snd hf).symm⟩
        have HFC0 := Lib.hid hfc
        have hord : a.kind = b.kind → Op.bytesLess (strOfNums (keyTo a (kyParts a))).toList (strOfNums (keyTo b (kyParts b))).toList = belowK a b := fun hk => by
          rw [ltb_str (keyTo_byt a _) (keyTo_byt b _)]
          exact key_order HUA.out HUB.out ha0 hb0 hk
        have HORD := Lib.hid hord
        have HFST := Lib.hid (fun m => key_first a m)
        obtain ⟨za, hza⟩ : ∃ za, keyTo a (kyParts a) = za := ⟨_, rfl⟩
        obtain ⟨zb, hzb⟩ : ∃ zb, keyTo b (kyParts b) = zb := ⟨_, rfl⟩
        rw [hza] at hqa2 hcapa HORD CU HFST hsma ⊢
        rw [hzb] at hqb hcapb HORD ⊢
        clear hza hzb cu cf hf hord ha0 hb0 hfc
        go_upto_region 15 with (go_at_call 12; refine CU.out.mono ?_; rintro e wc ⟨rfl, hbc⟩)
        have hbS := hbc.alloc hbc.size (.cells (kyC a) 26)
        have ksd := ksb.below hbS
        have bkd := Bk.new wc 26 (kyC a)
        have rqa := hqa2.belowS hbS
        have rqb := hqb.belowS hbS
        obtain ⟨gd, hgd⟩ : ∃ gd, wc.heap.size = gd := ⟨_, rfl⟩
        obtain ⟨wd, hwd⟩ : ∃ wd, wc.alloc (.cells (kyC a) 26) = wd := ⟨_, rfl⟩
        rw [hwd] at hbS ksd bkd rqa rqb ⊢
        rw [hgd] at bkd ⊢
        clear hwd hgd hbc hbS hqa2 hqb ksb
        have le := loadK_ky bkd
        obtain ⟨q1, q2, q3, q4⟩ := ksd.loads
        have e0 := neqKy a
        go_upto_region 18 with (go_at_call 14; refine (CF.out _).mono ?_; rintro e we ⟨Ae, ce, rfl, hqe, hbe, -, -, -⟩)
        have kse := ksd.below hbe
        have ra2 := rqa.belowS hbe
        have rb2 := rqb.belowS hbe
        clear q1 q2 q3 q4 le e0 ksd rqa rqb hbe bkd
        go_cut [109] from 91 to 109 (fun v W => v = .bool false ∧ ∃ p : BelowBy we, W = p.w)
        case first =>
          rcases HFC0.out with hq | ⟨m, hzf, hq⟩
          · have d : ((ef : Int) == 0) = false := by rw [beq_eq_false_iff_ne]; omega
            clear hq
            refine wp_region_quiet_below (by kernel_rfl) (by kernel_rfl) ?_
            repeat (first | go_big_quiet_step (fail) | quiet_step (fail))
            refine wpQuiet_nil ?_
            rintro _ ⟨pq, rfl⟩
            go_wp2
            go_meet
            exact ⟨rfl, pq, rfl⟩
          · obtain ⟨hf1, hf2⟩ := HFST.out m
            have d : ((ef : Int) == 0) = true := by rw [beq_iff_eq]; omega
            simp only [hzf] at hf1 hf2
            have e3 : ∀ p : BelowBy we, (convert 27 9 (.slice Ae zf.length ce)).run Try.prog p.w = .ok (.string (strOfNums zf)) p.w := fun p => conv_atB hqe rfl p.h
            have hzlen : (za.take zf.length).length = zf.length := by rw [List.length_take]; omega
            have e4 : ∀ p : BelowBy we, (convert 27 9 (.slice Aa zf.length ca)).run Try.prog p.w = .ok (.string (strOfNums zf)) p.w := fun p => by
              have h := conv_atB (n := zf.length) (c := ca) (Rb.take ra2 zf.length) hzlen p.h
              rwa [← hf1] at h
            have hd1 : decide ((za.length : Int) < (zf.length : Int)) = false := by simp; omega
            have hd2 : decide (za.length < zf.length) = false := by simp; omega
            have hi0 : (0 : Int) ≤ (zf.length : Int) := by omega
            have hi1 : (zf.length : Int) ≤ (ca : Int) := by omega
            clear hf1 hzf hzlen hq
            refine wp_region_quiet_below (by kernel_rfl) (by kernel_rfl) ?_
            repeat (first | go_big_quiet_step (fail) | quiet_step (fail))
            refine wpQuiet_nil ?_
            rintro _ ⟨pq, rfl⟩
            go_wp2
            go_meet
            exact ⟨rfl, pq, rfl⟩
        case rest =>
          obtain ⟨rfl, pw, rfl⟩ := hcut
          have ksf := kse.below pw.h
          have ra3 := ra2.belowS pw.h
          have rb3 := rb2.belowS pw.h
          clear kse ra2 rb2
          go_upto_region 20 with fail
          have f1 : ∀ p : BelowBy pw.w, p.w.cell? ⟨g, 0, none⟩ = some (.int .i64 a.kind) := fun p => (ksf.ka.bS p.h).cell 0
          have f2 : ∀ p : BelowBy pw.w, p.w.cell? ⟨g + 1, 0, none⟩ = some (.int .i64 b.kind) := fun p => (ksf.kb.bS p.h).cell 0
          have f3 : ∀ p : BelowBy pw.w, (loadK 26 ⟨g, 0, none⟩).run Try.prog p.w = .ok (kyV a) p.w := fun p => loadK_ky (ksf.ka.bS p.h)
          have f4 : ∀ p : BelowBy pw.w, (loadK 26 ⟨g + 1, 0, none⟩).run Try.prog p.w = .ok (kyV b) p.w := fun p => loadK_ky (ksf.kb.bS p.h)
          have f5 : ∀ p : BelowBy pw.w, (convert 27 9 (.slice Aa za.length ca)).run Try.prog p.w = .ok (.string (strOfNums za)) p.w := fun p => conv_atB ra3 rfl p.h
          have f6 : ∀ p : BelowBy pw.w, (convert 27 9 (.slice Ab zb.length cb)).run Try.prog p.w = .ok (.string (strOfNums zb)) p.w := fun p => conv_atB rb3 rfl p.h
          obtain ⟨bl, hbl⟩ : ∃ bl, belowK a b = bl := ⟨_, rfl⟩
          have fc : ∀ p : BelowBy pw.w, Calls Try.prog 27 #[kyV a, kyV b] p.w fun e w' => e = .returned (.bool bl) ∧ ∃ p' : BelowBy pw.w, w' = p'.w := fun p => calls_belowBy p (by rw [← hbl]; exact lawBelow a b p.w)
          have HFC := Lib.hid fc
          have HBE := Lib.hid ksf.bel
          have hoo := HORD.out
          rw [hbl] at hoo
          by_cases hk : a.kind = b.kind
          · have ho := hoo hk
            have d : (a.kind != b.kind) = false := by rw [hk]; simp
            clear fc hbl hoo hk ksf ra3 rb3
            refine wp_region_quiet_below (by kernel_rfl) (by kernel_rfl) ?_
            repeat (first
              | go_big_quiet_step ((go_at_call 27; with_reducible exact HFC.out _))
              | quiet_step ((go_at_call 27; with_reducible exact HFC.out _)))
            refine wpQuiet_nil ?_
            rintro _ ⟨pq, rfl⟩
            go_wp2
            go_ret
            exact ⟨rfl, HBE.out.trans (pq.h.mono HBE.out.size)⟩
          · have d : (a.kind != b.kind) = true := by rw [bne_iff_ne]; exact hk
            clear fc hbl hoo hk ksf ra3 rb3
            refine wp_region_quiet_below (by kernel_rfl) (by kernel_rfl) ?_
            repeat (first
              | go_big_quiet_step ((go_at_call 27; with_reducible exact HFC.out _))
              | quiet_step ((go_at_call 27; with_reducible exact HFC.out _)))
            refine wpQuiet_nil ?_
            rintro _ ⟨pq, rfl⟩
            go_wp2
            go_ret
            exact ⟨rfl, HBE.out.trans (pq.h.mono HBE.out.size)⟩
  all_goals
    go_enter Try.func7, Try.ntmps7
    go_upto_region 1 with fail
    rw [HW.out, HG.out]
    go_wp2_with (first
      | (go_at_call 8; refine (scLives _).mono ?_; rintro e w2 ⟨rfl, hb2⟩; have ks2 := HKS.out.below hb2; obtain ⟨m1, m2, m3, m4⟩ := ks2.loads)
      | (go_at_call 9; with_reducible refine (CA.out _).mono ?_; rintro e w3 ⟨rfl, hb3⟩; have ks3 := ks2.below hb3; obtain ⟨n1, n2, n3, n4⟩ := ks3.loads)
      | (go_at_call 9; with_reducible refine (CB.out _).mono ?_; rintro e w4 ⟨rfl, hb4⟩; have ks4 := ks3.below hb4; obtain ⟨o1, o2, o3, o4⟩ := ks4.loads)
      | (go_at_call 23; refine (CS.out _ ks4.tags).mono ?_; rintro e w5 ⟨rfl, hb5⟩; have ks5 := ks4.below hb5))
    go_ret
    first
      | exact ⟨rfl, ks5.bel⟩
      | exact ⟨rfl, ks4.bel⟩
      | exact ⟨rfl, ks3.bel⟩
end Go.Proofs.Ytlamebbolioljaa
