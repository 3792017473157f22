/- block.Parse: the walk. -/
import Derived.Deep.Cut
import Derived.Test.YtleghbdkjdpilaaBkY
namespace Go.Proofs.Ytleghbdkjdpilaa
open Go.RowKit
theorem loadEn_shutX (a : Addr) : loadVar 29 a = loadK 29 a := rfl
attribute [local go_sem ↓] loadEn_shutX

theorem w4_byt (x : Nat) : Byt (w4 x) := by
  intro y hy
  simp only [w4, List.mem_cons, List.not_mem_nil, or_false] at hy
  rcases hy with rfl | rfl | rfl | rfl <;> omega
theorem eEnc_byt {x : En} (n : Nat) (hk : Byt x.key) (hv : Byt x.val) : Byt (eEnc n x) :=
  (((((numEnc_byt _).append (numEnc_byt _)).append (numEnc_byt _)).append (numEnc_byt _)).append (hk.drop n)).append hv
theorem esTo_byt {l : List En} (h : ∀ x ∈ l, Byt x.key ∧ Byt x.val) : ∀ i, Byt (esTo l i)
  | 0 => fun x hx => by simp [esTo] at hx
  | i + 1 => by
    rw [esTo]
    refine (esTo_byt h i).append ?_
    cases e : l[i]? with
    | none => exact fun x hx => by simp at hx
    | some x => exact eEnc_byt _ (h x (List.mem_of_getElem? e)).1 (h x (List.mem_of_getElem? e)).2
theorem blk_byt {l : List En} (h : ∀ x ∈ l, Byt x.key ∧ Byt x.val) : Byt (blk l) :=
  (esTo_byt h _).append (by
    intro y hy
    rw [List.mem_flatMap] at hy
    obtain ⟨x, -, hy⟩ := hy
    exact w4_byt x y hy)
theorem blkOut_byt {l : List En} (h : ∀ x ∈ l, Byt x.key ∧ Byt x.val) : Byt (blkOut l).1 := by
  unfold blkOut
  split
  · exact fun x hx => by simp at hx
  · split
    · exact fun x hx => by simp at hx
    · split
      · exact fun x hx => by simp at hx
      · exact blk_byt h
def lenV : Value → Nat
  | .slice _ n _ => n
  | _ => 0
theorem tailEnd_le (zs : List Int) : tailEnd zs ≤ zs.length := by
  unfold tailEnd
  split
  · omega
  · exact Nat.zero_le _
set_option maxRecDepth 100000 in
set_option maxHeartbeats 8000000 in
theorem blkParse {A : Option Addr} {n c B : Nat} {zs : List Int} (w : World) (ha : Rb w B A zs) (hB : B ≤ w.heap.size) (hz : Byt zs) (hn : zs.length = n) (hc : n ≤ c) (hA : A = none → c = 0) (hnm : n ≤ 9223372036854775807) :
    Calls Try.prog 16 #[.slice A n c] w (ParPost w (parOf zs)) := by
  obtain ⟨r, hr⟩ : ∃ r, parOf zs = r := ⟨_, rfl⟩
  rw [hr]
  have HR := Lib.hid hr
  have HN := Lib.hid hn
  have HA := Lib.hid ha
  by_cases hbig : 262144 < n
  · have hd : decide ((262144 : Int) < (n : Int)) = true := by simp; omega
    have hr3 : r = ([], 3) := by rw [← hr, parOf, hn, if_pos hbig]
    have HR3 := Lib.hid hr3
    clear hr hn ha hbig hr3
    go_enter Try.func16, Try.ntmps16
    go_wp2_with fail
    go_ret2
    rw [HR3.out]
    exact ParPost.no (Below.refl _ _)
  · have hd : decide ((262144 : Int) < (n : Int)) = false := by simp; omega
    have hn18 : n ≤ 262144 := by omega
    have ct := blkTail w ha hz hn hB hc hn18
    have CT := Lib.hid ct
    obtain ⟨ok, hok⟩ : ∃ ok, tailOk zs = ok := ⟨_, rfl⟩
    obtain ⟨E, hE⟩ : ∃ E, tailEnd zs = E := ⟨_, rfl⟩
    have hEn : E ≤ n := by rw [← hE, ← hn]; exact tailEnd_le zs
    unfold TailPost at ct
    rw [hok, hE] at ct
    have CT := Lib.hid ct
    have hr4 : r = if ok = false then ([], 4) else if (parBody zs).1 = false then ([], 4) else if (blkOut (parBody zs).2).2 ≠ 0 ∨ ¬ (blkOut (parBody zs).2).1 = zs then ([], 4) else ((parBody zs).2, 0) := by
      rw [← hr, parOf, hn, if_neg hbig, hok]
    have HR4 := Lib.hid hr4
    have HE := Lib.hid hE
    clear ct hok hE hr hr4 hn hbig
    cases ok with
    | false =>
      go_enter Try.func16, Try.ntmps16
      go_upto_region 4 with (go_at_call 29; refine CT.out.mono ?_; rintro e w2 ⟨v, rfl, hb2⟩)
      go_wp2_with fail
      go_ret2
      rw [HR4.out]
      simp only [if_true]
      exact ParPost.no hb2
    | true =>
      obtain ⟨body, hbody⟩ : ∃ body, zs.take E = body := ⟨_, rfl⟩
      have hbl : body.length = E := by rw [← hbody, List.length_take, HN.out]; omega
      have hbz : Byt body := by rw [← hbody]; exact hz.take E
      have HBODY := Lib.hid hbody
      have hni : (E : Int) ≤ (c : Int) := by omega
      have HBL := Lib.hid hbl
      clear hbody hbl
      go_enter Try.func16, Try.ntmps16
      go_upto_region 4 with (go_at_call 29; refine CT.out.mono ?_; rintro e w2 ⟨v, rfl, hb2⟩)
      have ha2 : Rb w2 B A body := by rw [← HBODY.out]; exact Rb.take (Rd.below ha (hb2.mono hB)) E
      have cn := rdrNewB (n := E) (c0 := c) w2 ha2 (Nat.le_trans hB hb2.size) hbz (by rw [HBL.out]; omega) (fun e => ⟨nil_of ha2 e, hA e⟩) HBL.out
      have CN := Lib.hid cn
      have HB2 := Lib.hid hb2
      clear cn ha2 hb2
      go_upto_region 7 with (go_at_call 30; refine CN.out.mono ?_; rintro e w3 ⟨g, Ar, cr, rfl, hr3, hb3, hg3, hra3⟩)
      have hb23 := HB2.out.trans (hb3.mono HB2.out.size)
      have hs2 := HB2.out.size
      have hgl := hr3.blk.lt
      have hpam : PaM w w3 g Ar cr body 0 w3.heap.size none 0 0 [] := ⟨hr3, World.ownsRow_nil _ _ _ _, fun e h => (by cases h), fun e h => (by cases h), fun e h => (by cases h), hb23, by omega, hgl, Nat.le_refl _, fun a ha => (hra3 a ha).2, rfl⟩
      obtain ⟨lo, hlo⟩ : ∃ lo, w3.heap.size = lo := ⟨_, rfl⟩
      rw [hlo] at hpam
      have HPA := Lib.hid hpam
      clear hr3 hb3 hb23 hra3 hpam hlo
      go_wp2_with fail
      go_loopw [8, 9] (fun out_ key_ wr => ∃ (p k : Nat) (A1 : Option Addr) (j c1 : Nat) (acc : List BE) (Ak : Option Addr) (ck : Nat) (key : List Int), out_ = .slice A1 j c1 ∧ key_ = .slice Ak key.length ck ∧ PaM w wr g Ar cr body p lo A1 j c1 acc ∧ Rb wr wr.heap.size Ak key ∧ key.length ≤ ck ∧
        (∀ a, Ak = some a → a.block < wr.heap.size ∧ a.block ≠ g ∧ (Value.slice A1 j c1).ownBlock ≠ some a.block) ∧ Byt key ∧ key.length ≤ 4096 ∧ j ≤ p ∧ p ≤ E ∧ E - p < k ∧ Hid (parBody zs = parGo body k p key (ens acc))) (fun out_ _ _ => E + 1 - lenV out_)
      case atStart => exact ⟨0, zs.length + 1, none, 0, 0, [], none, 0, [], rfl, rfl, HPA.out, Rd.nil, Nat.le_refl _, fun a h => (by cases h), fun x hx => (by simp at hx), by simp, by omega, by omega, by rw [HN.out]; omega, by unfold parBody; rw [HE.out, HBODY.out]; exact Lib.hid rfl⟩
      case round =>
        obtain ⟨p, k, A1, j, c1, acc, Ak, ck, key, rfl, rfl, pm, hrk, hkc, hka, hkb, hkl, hjp, hpE, hk, hpg⟩ := hrel
        have cl := rdrLeft wr pm.rdr
        rw [HBL.out] at cl
        have CL := Lib.hid cl
        obtain ⟨lf, hlf⟩ : ∃ lf, E - p = lf := ⟨_, rfl⟩
        rw [hlf] at cl
        have CL := Lib.hid cl
        clear cl
        by_cases hp : lf = 0
        · subst hp
          have hpE' : ¬ p < body.length := by rw [HBL.out]; omega
          have hdone := hpg.out
          cases k with
          | zero => omega
          | succ k =>
          rw [parGo, if_pos (by omega)] at hdone
          have hr5 : r = if (blkOut (ens acc)).2 ≠ 0 ∨ ¬ (blkOut (ens acc)).1 = zs then ([], 4) else (ens acc, 0) := by
            have h := HR4.out
            rw [hdone] at h
            simpa using h
          have hbb : Byt (blkOut (ens acc)).1 := blkOut_byt fun x hx => by
            obtain ⟨e, he, rfl⟩ := List.mem_map.1 hx
            exact ⟨(pm.ok e he).kb, (pm.ok e he).vb⟩
          have hel : (ens acc).length = j := by rw [ens, List.length_map, pm.len]
          obtain ⟨bo, hbo⟩ : ∃ q, blkOut (ens acc) = q := ⟨_, rfl⟩
          rw [hbo] at hr5 hbb
          have HPM := Lib.hid pm
          have HR5 := Lib.hid hr5
          have HBB := Lib.hid hbb
          have HBO := Lib.hid hbo
          have HEL := Lib.hid hel
          clear hdone hr5 hbb hpg pm hka hrk hbo hpE' hel
          go_upto_region 15 with (go_at_call 31; refine CL.out.mono ?_; rintro e4 w4 ⟨rfl, d4, rfl⟩)
          have pm4 := HPM.out.below (below_drewN (Below.refl _ wr) d4)
          have ca := blkAppend (c := c1) acc (wr.drewN d4) pm4.rbe HPM.out.len (Nat.le_refl _) (by omega)
          rw [HBO.out] at ca
          have CA := Lib.hid ca
          have HPM4 := Lib.hid pm4
          clear ca pm4
          go_upto_region 16 with (go_at_call 11; refine CA.out.mono ?_; rintro e5 w5 ⟨A5, c5, rfl, hn5⟩)
          have hb5 := hn5.bel
          have hb05 := HPM4.out.bel.trans (hb5.mono HPM4.out.bel.size)
          have rbe5 := HPM4.out.rbe.bS hb5
          have ha5 : Rb w5 B A zs := Rd.below ha (hb05.mono hB)
          have hcap : j ≤ c1 := by
            rcases HPM4.out.own.2 with ⟨h1, h2⟩ | ⟨g, cap, cur, h1, _, _, h2, _⟩
            · cases h1; omega
            · cases h1; exact h2
          have ce := blkEqual (c1 := c5) (c2 := c) w5 hn5.rd ha5 HBB.out hz rfl HN.out
          obtain ⟨q, hq⟩ : ∃ q, decide (bo.1 = zs) = q := ⟨_, rfl⟩
          rw [hq] at ce
          have CE := Lib.hid ce
          have HQ := Lib.hid hq
          clear hq
          have hnok : ∀ q : Int, q = 4 → (bo.2 ≠ 0 ∨ ¬ bo.1 = zs) → ParPost w r (.returned (.tuple #[.slice none 0 0, .int .i64 q])) w5 := fun q hq h => by
            subst hq
            rw [HR5.out, if_pos h]
            exact ParPost.no hb05
          have hyes : bo.2 = 0 → bo.1 = zs → ParPost w r (.returned (.tuple #[.slice A1 j c1, .int .i64 0])) w5 := fun h1 h2 => by
            rw [HR5.out, if_neg (by simp [h1, h2])]
            exact ⟨A1, c1, acc, rfl, by rw [HEL.out]; rfl, rbe5, hb05, by rw [HEL.out]; exact hcap⟩
          have HNO := Lib.hid hnok
          have HYES := Lib.hid hyes
          clear hn5 hb5 hb05 rbe5 ha5 hcap ce hnok hyes
          by_cases h0 : bo.2 = 0
          · have h0b : ((bo.2 : Int) == 0) = true := by rw [h0]; rfl
            have h0n : ((bo.2 : Int) != 0) = false := by rw [h0]; rfl
            cases q with
            | true =>
              go_wp2_with (go_at_call 33; refine CE.out.mono ?_; rintro e6 w6 ⟨rfl, rfl⟩)
              go_ret2
              exact HYES.out h0 (of_decide_eq_true HQ.out)
            | false =>
              go_wp2_with (go_at_call 33; refine CE.out.mono ?_; rintro e6 w6 ⟨rfl, rfl⟩)
              go_ret2
              exact HNO.out 4 rfl (.inr (of_decide_eq_false HQ.out))
          · have h0b : ((bo.2 : Int) == 0) = false := by rw [beq_eq_false_iff_ne]; omega
            have h0n : ((bo.2 : Int) != 0) = true := by simp [bne, h0b]
            go_wp2_with fail
            go_ret2
            exact HNO.out 4 rfl (.inl h0)
        · have hlfi : (0 : Int) < (lf : Int) := by omega
          cases k with
          | zero => omega
          | succ k =>
          have hpg2 := hpg.out
          rw [parGo, if_neg (by rw [HBL.out]; omega)] at hpg2
          obtain ⟨o, ho⟩ : ∃ o, entOf body p key = o := ⟨_, rfl⟩
          have hgo := entOf_go (p := p) hbz hkb (by rw [HBL.out]; exact hpE)
          rw [ho] at hpg2 hgo
          rw [HBL.out] at hgo
          have HPG2 := Lib.hid hpg2
          have HGO := Lib.hid hgo
          have HO := Lib.hid ho
          have HPM := Lib.hid pm
          have HKA := Lib.hid hka
          have HRK := Lib.hid hrk
          clear hpg hpg2 hgo ho pm hka hrk hp
          go_upto_region 10 with (go_at_call 31; refine CL.out.mono ?_; rintro e4 w4 ⟨rfl, d4, rfl⟩)
          have pm4 := HPM.out.below (below_drewN (Below.refl _ wr) d4)
          have hrk4 : Rb (wr.drewN d4) (wr.drewN d4).heap.size Ak key := HRK.out
          have hka4 : ∀ a, Ak = some a → a.block < (wr.drewN d4).heap.size ∧ a.block ≠ g ∧ (Value.slice A1 j c1).ownBlock ≠ some a.block := HKA.out
          obtain ⟨w4, hw4⟩ : ∃ w4, wr.drewN d4 = w4 := ⟨_, rfl⟩
          rw [hw4] at pm4 hrk4 hka4 ⊢
          have ce := blkEntry (ck := ck) (nk := key.length) w4 pm4.rdr hrk4 rfl hkc (fun a h => ⟨(hka4 a h).1, (hka4 a h).2.1⟩) (by omega) (fun a h => Nat.lt_of_lt_of_le (pm4.ar a h) pm4.hlo) (by rw [HBL.out]; omega)
          rw [HO.out] at ce
          have CE := Lib.hid ce
          have HPM4 := Lib.hid pm4
          have HKA4 := Lib.hid hka4
          clear ce hw4 hrk4 pm4 hka4
          go_wp2_with fail
          refine CE.out.mono ?_
          rintro e5 w5 ⟨B1, b1, B2, b2, rfl, r5, g5, k5, kl5, v5, vl5, kn5, vn5, ka5, va5⟩
          have hal : Below w5.heap.size w5 (w5.alloc (.cells (beA ⟨o.x, B1, b1, B2, b2⟩) 29)) := (Below.refl _ w5).alloc (Nat.le_refl _) _
          have bk := Bk.new w5 29 (beA ⟨o.x, B1, b1, B2, b2⟩)
          obtain ⟨w6, hw6⟩ : ∃ w6, w5.alloc (.cells (beA ⟨o.x, B1, b1, B2, b2⟩) 29) = w6 := ⟨_, rfl⟩
          rw [hw6] at hal bk
          obtain ⟨g6, hg6⟩ : ∃ g6, w5.heap.size = g6 := ⟨_, rfl⟩
          rw [hg6] at bk
          have HW6 := Lib.hid hw6
          have HG6 := Lib.hid hg6
          have lb := loadK_beB bk
          have hb56 := hal
          have hbw6 : Below w.heap.size w w6 := (HPM4.out.bel.trans (grown_below g5 HPM4.out.bel.size (fun b e => by cases e; exact HPM4.out.ge))).trans (hal.mono (by have := HPM4.out.bel.size; have := g5.size; omega))
          have HBK := Lib.hid bk
          have HAL := Lib.hid hal
          have HBW6 := Lib.hid hbw6
          have HE5 := Lib.hid (And.intro r5 (And.intro g5 (And.intro k5 (And.intro v5 (And.intro ka5 va5)))))
          clear hw6 hg6 hal bk hb56 hbw6 r5 g5 k5 v5 ka5 va5
          go_upto_region 11 with fail
          rw [HW6.out, HG6.out]
          obtain ⟨okv, hokv⟩ : ∃ b, o.ok = b := ⟨_, rfl⟩
          rw [hokv]
          have HOK := Lib.hid hokv
          obtain ⟨ch, hch⟩ : ∃ q, enChk o.x = q := ⟨_, rfl⟩
          have cc := batCheckEntry (A1 := B1) (c1 := b1) (A2 := B2) (c2 := b2) o.x w6 rfl rfl
          rw [hch] at cc
          have CC := Lib.hid cc
          have HCH := Lib.hid hch
          clear hokv cc hch
          cases okv with
          | false =>
            have hr9 : r = ([], 4) := by
              have h := HPG2.out
              rw [if_pos (.inl HOK.out)] at h
              rw [HR4.out, if_neg (by simp), h, if_pos rfl]
            have HR9 := Lib.hid hr9
            clear hr9
            go_wp2_with fail
            go_ret2
            rw [HR9.out]
            exact ParPost.no HBW6.out
          | true =>
            by_cases hc0 : ch = 0
            case neg =>
              have hcb : ((ch : Int) == 0) = false := by rw [beq_eq_false_iff_ne]; omega
              have hr9 : r = ([], 4) := by
                have h := HPG2.out
                rw [if_pos (.inr (by rw [HCH.out]; exact hc0))] at h
                rw [HR4.out, if_neg (by simp), h, if_pos rfl]
              have HR9 := Lib.hid hr9
              clear hr9 hc0
              go_wp2_with (go_at_call 24; refine CC.out.mono ?_; rintro e7 w7 ⟨rfl, hb7⟩)
              go_ret2
              rw [HR9.out]
              exact ParPost.no (HBW6.out.trans (hb7.mono HBW6.out.size))
            case pos =>
              subst hc0
              have hfine : o.x.Fine := En.fine HCH.out
              have hpg3 : parBody zs = parGo body k o.p o.x.key (ens acc ++ [o.x]) := by
                have h := HPG2.out
                rwa [if_neg (by rw [HOK.out, HCH.out]; simp)] at h
              obtain ⟨gkb, gvb, gsq, gpl, gok, gkl, gvl⟩ := HGO.out
              obtain ⟨gp, ge0⟩ := gok HOK.out
              obtain ⟨r5, g5, k5, v5, ka5, va5⟩ := HE5.out
              rw [ge0] at r5
              have pm5 := HPM4.out.read g5 r5
              have pm6 := pm5.below HAL.out
              have HPM6 := Lib.hid pm6
              have HFN := Lib.hid hfine
              have HPG3 := Lib.hid hpg3
              have HG := Lib.hid (And.intro gkb (And.intro gvb (And.intro gsq (And.intro gpl (And.intro gp g5)))))
              have HK5 := Lib.hid (And.intro k5 (And.intro v5 (And.intro ka5 va5)))
              have hjs : j ≤ 1048576 := by omega
              clear hfine hpg3 gkb gvb gsq gpl gok gkl gvl ge0 pm5 pm6 r5 g5 k5 v5 ka5 va5
              go_upto_region 13 with (go_at_call 24; refine CC.out.mono ?_; rintro e7 w7 ⟨rfl, hb7⟩)
              have pm7 := HPM6.out.below hb7
              have hal8 : Below w7.heap.size w7 (w7.alloc (.cells (beA ⟨o.x, B1, b1, B2, b2⟩) 29)) := (Below.refl _ w7).alloc (Nat.le_refl _) _
              have pm8 := pm7.below hal8
              have HPM8 := Lib.hid pm8
              have bk7 := HBK.out.below hb7 HBK.out.lt
              have lb7 := loadK_beB bk7
              have bk8 := bk7.below hal8 bk7.lt
              have HBK8 := Lib.hid bk8
              have HB7 := Lib.hid hb7
              have hb58 : Below w5.heap.size w5 (w7.alloc (.cells (beA ⟨o.x, B1, b1, B2, b2⟩) 29)) := (HAL.out.trans (hb7.mono HAL.out.size)).trans (hal8.mono (Nat.le_trans HAL.out.size hb7.size))
              have HB58 := Lib.hid hb58
              clear hb7 hal8 pm7 pm8 bk7 bk8 lb hb58
              go_upto_region 14 with (first | (at_builtin; go_loud (refine wpList_appE _ rfl (.tmp 45) (.tmp 47) rfl lo _ j (flatR beC acc) rfl HPM8.out.own (w7.heap.size + 1) (some ⟨w7.heap.size, 0, none⟩) 1 (beC ⟨o.x, B1, b1, B2, b2⟩) rfl rfl (Rd.lit w7 (beA ⟨o.x, B1, b1, B2, b2⟩) _) (by simp [beC, Value.oneCell']) hjs HPM8.out.hlo ?_); intro A9 c9 w9 happ))
              obtain ⟨g5b, v5b, sq5, pl5, pp5, g5⟩ := HG.out
              obtain ⟨k5, v5, ka5, va5⟩ := HK5.out
              have s5 := g5.size
              have fr4 := fun b => HPM4.out.fresh (b := b)
              have fine := HFN.out
              have fkl := fine.kl
              have fvl := fine.vl
              have hk1 : ∀ a, B1 = some a → a.block ≠ g ∧ a.block < w5.heap.size ∧ (Value.slice A1 j c1).ownBlock ≠ some a.block := fun a e => by
                obtain ⟨h1, h2⟩ := ka5 a e
                rcases h1 with h1 | h1
                · exact ⟨(HKA4.out a h1).2.1, h2, (HKA4.out a h1).2.2⟩
                · exact ⟨(fr4 _ h1).1, h2, (fr4 _ h1).2⟩
              have bok : BeOk w5 w5.heap.size ⟨o.x, B1, b1, B2, b2⟩ := ⟨k5, v5, kl5, vl5, by simp only [maxLen]; omega, by simp only [maxLen]; omega, g5b, v5b, sq5, kn5, vn5⟩
              have s58 := HB58.out.size
              have pm9 := HPM8.out.push happ ((bok.below HB58.out).more s58) (fun a e => ⟨(hk1 a e).1, Nat.lt_of_lt_of_le (hk1 a e).2.1 s58, (hk1 a e).2.2⟩) (fun _ a e => ⟨(fr4 _ (va5 a e)).1, (fr4 _ (va5 a e)).2⟩)
              have hg6 : (Value.slice A1 j c1).ownBlock ≠ some g6 := (fr4 g6 (by rw [← HG6.out]; exact s5)).2
              have bk9 := HBK8.out.grown happ.grown (fun e => hg6 e.symm)
              have c0 : w9.cell? ⟨g6, 0, none⟩ = some (.slice B1 o.x.key.length b1) := bk9.cell 0
              have k9 : Rb w9 w9.heap.size B1 o.x.key := Rd.more (Rb.beside (Rd.more (Rd.below k5 HB58.out) s58) happ.grown (fun _ a e e2 => (hk1 a e).2.2 e2)) (Nat.le_refl _)
              have hk9 : ∀ a, B1 = some a → a.block < w9.heap.size ∧ a.block ≠ g ∧ (Value.slice A9 (j + 1) c9).ownBlock ≠ some a.block := fun a e => by
                have := pm9.f1 _ (List.mem_append.2 (.inr (List.mem_singleton.2 rfl))) a e
                exact ⟨this.2.1, this.1, this.2.2⟩
              have HK9 := Lib.hid (And.intro k9 hk9)
              have HPM9 := Lib.hid pm9
              have hjo : j + 1 ≤ o.p := by omega
              clear pm9 k9 hk9 bk9 hg6 bok hk1 fr4 fine k5 v5 ka5 va5 g5b v5b sq5 g5 happ s58 s5 fvl
              go_wp2_with fail
              have hdone := HPG3.out
              rw [show ens acc ++ [o.x] = ens (acc ++ [⟨o.x, B1, b1, B2, b2⟩]) from by simp [ens]] at hdone
              go_show
              exact ⟨⟨o.p, k, A9, j + 1, c9, acc ++ [⟨o.x, B1, b1, B2, b2⟩], B1, b1, o.x.key, rfl, rfl, HPM9.out, HK9.out.1, kl5, HK9.out.2, HG.out.1, fkl, hjo, pl5, by omega, Lib.hid hdone⟩, by simp only [lenV]; omega⟩
end Go.Proofs.Ytleghbdkjdpilaa
