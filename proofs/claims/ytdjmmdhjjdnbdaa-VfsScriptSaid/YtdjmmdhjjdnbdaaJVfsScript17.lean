/- Texts of the proof of VfsScriptSaid, joined: VsK6 VsK7 VsK8 VsK9 VsK10 VsD VsE VsF. -/
import Derived.Test.YtdjmmdhjjdnbdaaJVfsScript16
import Derived.Test.YtdjmmdhjjdnbdaaJVfsScript3
import Derived.Test.YtdjmmdhjjdnbdaaJVfsScript15
import Derived.Deep.RegionHeld3
/- Layer 4: the law's act, of kind 6: Read. -/
namespace Go.Proofs.Ytdjmmdhjjdnbdaa
open Go.RowKit
theorem eqb_self (xs : List Int) : eqb xs xs = true := by simp [eqb]
theorem read_len {S : VSt} {k : Nat} (h : Sk S k) (s : ByteArray) (a n : Int) : (S.read s a n).2.1.length ≤ 300 * k := by
  unfold VSt.read
  split
  · exact Nat.zero_le _
  · split
    · exact Nat.zero_le _
    · split
      · exact Nat.zero_le _
      · rename_i i hg
        have h2 := h.few.strike.file (h.ok.strike.get_lt hg)
        simp only [VSt.readAt, List.length_take, List.length_drop]
        omega
/-- What the code's Read and the document's bring, at the end. -/
theorem read_both {w0 w1 w2 w3 : World} {K1 K2 : Nat → Prop} {F1 F2 k : Nat} {S T : VSt} {A : Option Addr} {zs : List Int} (h : Tw w0 w1 K1 K2 F1 F2 S k) (h1 : Se w0 w2 K1 F1 T (k + 1)) (f1 : FrK w1 w2 (Kis F1)) (h2 : Sr w0 w3 K2 F2 T) (f2 : FrK w2 w3 K2)
    (hA : Rb w2 w2.heap.size A zs) (hlo : ∀ a, A = some a → w1.heap.size ≤ a.block) : Rb w3 w3.heap.size A zs ∧ Tw w0 w3 K1 K2 F1 F2 T (k + 1) :=
  ⟨(Rd.frK hA f2 (fun a e e2 => by
    have h3 := hlo a e
    have h4 := (h.sr.lo e2).2
    omega) (Nat.le_refl _)).more f2.size, h1.keep f2 h.apart fun b e => (h.sr.lo e).1, h2, h.apart⟩
set_option maxRecDepth 100000 in
set_option maxHeartbeats 4000000 in
theorem vsAct6 {w0 W : World} {K1 K2 : Nat → Prop} {F1 F2 k : Nat} {S : VSt} (h : Tw w0 W K1 K2 F1 F2 S k) (hk : k ≤ 200) {kd n m er : Int} {sa sc : ByteArray} {Ab Ak : Option Addr} {zb cb zk ck : Nat}
    (hsa : sa.size ≤ 300) (hn : I64 n) (hm : I64 m) (hkd : kd % 12 = 6) :
    Calls Try.prog 29 #[ptV F1, ptV F2, .agg (acA kd sa sc Ab zb cb n m er Ak zk ck)] W (ActP w0 F1 F2 k) := by
  have b0 := ActB.new h (acA kd sa sc Ab zb cb n m er Ak zk ck)
  have sk := h.se.sk
  have hrl := read_len sk sa n m
  obtain ⟨T, zs, r, hR⟩ : ∃ T zs r, S.read sa n m = (T, zs, r) := ⟨_, _, _, rfl⟩
  rw [hR] at hrl
  simp only at hrl
  obtain ⟨zl, hzl⟩ : ∃ zl, zs.length = zl := ⟨_, rfl⟩
  obtain ⟨w1, e1⟩ : ∃ w1, W.alloc (.cells (acA kd sa sc Ab zb cb n m er Ak zk ck) 53) = w1 := ⟨_, rfl⟩
  rw [e1] at b0
  obtain ⟨x, hx⟩ : ∃ x, W.heap.size = x := ⟨_, rfl⟩
  rw [hx] at b0
  have d0 : w1.cell? ⟨x, 0, none⟩ = some (.int .i64 kd) := by rw [b0.bk.cell 0]; rfl
  have d1 : w1.cell? ⟨x, 1, none⟩ = some (.string sa) := by rw [b0.bk.cell 1]; rfl
  have d4 : w1.cell? ⟨x, 4, none⟩ = some (.int .i64 n) := by rw [b0.bk.cell 4]; rfl
  have d5 : w1.cell? ⟨x, 5, none⟩ = some (.int .i64 m) := by rw [b0.bk.cell 5]; rfl
  have CP := Lib.hid (kitPick kd 12 w1 (by omega) (by omega))
  have c1 := seRead b0.tw.se (by omega) sa (by omega) n m
  rw [hR] at c1
  unfold SeRead at c1
  simp only [hzl] at c1
  have C1 := Lib.hid c1
  have SK := Lib.hid sk
  have HR := Lib.hid hR
  have HN := Lib.hid hn
  have HM := Lib.hid hm
  have HRL := Lib.hid hrl
  have HZL := Lib.hid hzl
  have E1 := Lib.hid e1
  have HX := Lib.hid hx
  have HKD := Lib.hid hkd
  have B0 := Lib.hid b0
  clear h e1 hx hkd hn hm b0 hR hrl hzl c1 sk
  go_enter Try.func29, Try.ntmps29
  go_wp2_with fail
  rw [E1.out, HX.out]
  go_wp2_with fail
  refine CP.out.mono ?_
  rintro e w9 ⟨rfl, rfl⟩
  rw [show ((12 : Nat) : Int) = 12 from rfl, HKD.out]
  clear CP
  go_wp2_with fail
  refine C1.out.mono ?_
  rintro e w2 ⟨A, c, rfl, hA, hlo, h1, f1⟩
  have hF1 : ¬Kis F1 x := fun e => B0.out.n1 (by
    obtain ⟨m, hv⟩ := B0.out.tw.se.vf
    rw [show x = F1 from e]
    exact hv.kF)
  have hb2 := f1.bk B0.out.bk hF1
  have g1 : w2.cell? ⟨x, 1, none⟩ = some (.string sa) := by rw [hb2.cell 1]; rfl
  have g4 : w2.cell? ⟨x, 4, none⟩ = some (.int .i64 n) := by rw [hb2.cell 4]; rfl
  have g5 : w2.cell? ⟨x, 5, none⟩ = some (.int .i64 m) := by rw [hb2.cell 5]; rfl
  have hs2 : Sr w0 w2 K2 F2 S := B0.out.tw.sr.keep f1 fun b e e2 => B0.out.tw.apart b (by
    obtain ⟨m, hv⟩ := B0.out.tw.se.vf
    rw [show b = F1 from e2]
    exact hv.kF) e
  have c2 := srRead hs2 SK.out (by omega) sa (by omega) n m HN.out HM.out
  rw [HR.out] at c2
  unfold SrRead at c2
  simp only [HZL.out] at c2
  have C2 := Lib.hid c2
  have HA := Lib.hid hA
  have HLO := Lib.hid hlo
  have H1 := Lib.hid h1
  have F1' := Lib.hid f1
  clear d0 d1 d4 d5 c2 hs2 hb2 hA hlo h1 f1 hF1
  go_wp2_with fail
  refine C2.out.mono ?_
  rintro e w3 ⟨A', c', rfl, hA', -, h2, f2⟩
  obtain ⟨hA3, tw3⟩ := read_both B0.out.tw H1.out F1'.out h2 f2 HA.out HLO.out
  have ck := kitBytes (c := c) (c' := c') w3 hA3 hA' (by have := HRL.out; simp only [maxLen]; omega) (by have := HRL.out; simp only [maxLen]; omega) HZL.out HZL.out
  rw [eqb_self] at ck
  have CK := Lib.hid ck
  have TW := Lib.hid tw3
  clear ck tw3 hA3 hA' h2 f2 g1 g4 g5
  go_wp2_with fail
  refine CK.out.mono ?_
  rintro e w4 ⟨rfl, d, rfl⟩
  have hself : ((r : Int) == (r : Int)) = true := by simp
  go_wp2_with fail
  go_ret
  exact ⟨rfl, _, _, _, TW.out.below (below_drewN (Below.refl _ w3) d)⟩
end Go.Proofs.Ytdjmmdhjjdnbdaa

/- Layer 4: the law's act, of kind 7: Fuse. -/
namespace Go.Proofs.Ytdjmmdhjjdnbdaa
open Go.RowKit
set_option maxRecDepth 100000 in
set_option maxHeartbeats 4000000 in
theorem vsAct7 {w0 W : World} {K1 K2 : Nat → Prop} {F1 F2 k : Nat} {S : VSt} (h : Tw w0 W K1 K2 F1 F2 S k) (hk : k ≤ 200) {kd n m er : Int} {sa sc : ByteArray} {Ab Ak : Option Addr} {zb cb zk ck : Nat}
    (hn : I64 n) (hkd : kd % 12 = 7) :
    Calls Try.prog 29 #[ptV F1, ptV F2, .agg (acA kd sa sc Ab zb cb n m er Ak zk ck)] W (ActP w0 F1 F2 k) := by
  have b0 := ActB.new h (acA kd sa sc Ab zb cb n m er Ak zk ck)
  have HN := Lib.hid hn
  obtain ⟨w1, e1⟩ : ∃ w1, W.alloc (.cells (acA kd sa sc Ab zb cb n m er Ak zk ck) 53) = w1 := ⟨_, rfl⟩
  rw [e1] at b0
  obtain ⟨x, hx⟩ : ∃ x, W.heap.size = x := ⟨_, rfl⟩
  rw [hx] at b0
  have d0 : w1.cell? ⟨x, 0, none⟩ = some (.int .i64 kd) := by rw [b0.bk.cell 0]; rfl
  have d4 : w1.cell? ⟨x, 4, none⟩ = some (.int .i64 n) := by rw [b0.bk.cell 4]; rfl
  have CP := Lib.hid (kitPick kd 12 w1 (by omega) (by omega))
  have CF := Lib.hid (srFuse b0.tw.sr n)
  have E1 := Lib.hid e1
  have HX := Lib.hid hx
  have HKD := Lib.hid hkd
  have B0 := Lib.hid b0
  clear h e1 hx hkd hn b0
  go_enter Try.func29, Try.ntmps29
  go_wp2_with fail
  rw [E1.out, HX.out]
  go_wp2_with fail
  refine CP.out.mono ?_
  rintro e w9 ⟨rfl, rfl⟩
  rw [show ((12 : Nat) : Int) = 12 from rfl, HKD.out]
  clear CP
  go_wp2_with fail
  refine CF.out.mono ?_
  rintro e w2 ⟨rfl, h2, f2⟩
  have hb2 := f2.bk B0.out.bk B0.out.n2
  have g4 : w2.cell? ⟨x, 4, none⟩ = some (.int .i64 n) := by rw [hb2.cell 4]; rfl
  have C1 := Lib.hid (seFuse (B0.out.tw.rc f2) n HN.out.2)
  clear CF d0 d4
  go_wp2_with fail
  refine C1.out.mono ?_
  intro e w3 hp
  obtain ⟨rfl, h1, f1⟩ := hp.cl
  go_wp2_with fail
  go_ret
  exact ⟨rfl, _, _, _, B0.out.tw.rc2 (a := _) (b := 0) h2 (fun _ e => .inl e) (Nat.le_refl _) (Nat.zero_le _) f2.size h1 f1⟩
end Go.Proofs.Ytdjmmdhjjdnbdaa

/- Layer 4: the law's act, of kind 8: Fault. Printed by tools/genVsAct.py. -/
namespace Go.Proofs.Ytdjmmdhjjdnbdaa
open Go.RowKit
set_option maxRecDepth 100000 in
set_option maxHeartbeats 4000000 in
theorem vsAct8 {w0 W : World} {K1 K2 : Nat → Prop} {F1 F2 k : Nat} {S : VSt} (h : Tw w0 W K1 K2 F1 F2 S k) (hk : k ≤ 200) {kd n m er : Int} {sa sc : ByteArray} {Ab Ak : Option Addr} {zb cb zk ck : Nat}
    (hsa : sa.size ≤ 300) (hsc : sc.size ≤ 300) (hn : I64 n) (hkd : kd % 12 = 8) :
    Calls Try.prog 29 #[ptV F1, ptV F2, .agg (acA kd sa sc Ab zb cb n m er Ak zk ck)] W (ActP w0 F1 F2 k) := by
  have b0 := ActB.new h (acA kd sa sc Ab zb cb n m er Ak zk ck)
  have SK := Lib.hid h.se.sk
  obtain ⟨T, r, hR⟩ : ∃ T r, S.setFault n er = (T, r) := ⟨_, _, rfl⟩
  have HR := Lib.hid hR
  have HN := Lib.hid hn
  obtain ⟨w1, e1⟩ : ∃ w1, W.alloc (.cells (acA kd sa sc Ab zb cb n m er Ak zk ck) 53) = w1 := ⟨_, rfl⟩
  rw [e1] at b0
  obtain ⟨x, hx⟩ : ∃ x, W.heap.size = x := ⟨_, rfl⟩
  rw [hx] at b0
  have d0 : w1.cell? ⟨x, 0, none⟩ = some (.int .i64 kd) := by rw [b0.bk.cell 0]; rfl
  have CP := Lib.hid (kitPick kd 12 w1 (by omega) (by omega))
  have E1 := Lib.hid e1
  have HX := Lib.hid hx
  have HKD := Lib.hid hkd
  have B0 := Lib.hid b0
  clear h e1 hx hkd hn hR b0
  go_enter Try.func29, Try.ntmps29
  go_wp2_with fail
  rw [E1.out, HX.out]
  go_wp2_with fail
  refine CP.out.mono ?_
  rintro e w9 ⟨rfl, rfl⟩
  rw [show ((12 : Nat) : Int) = 12 from rfl, HKD.out]
  clear CP
  go_wp2_with fail
  have B1 := Lib.hid B0.out.drew
  have KC : Hid (∀ W' : World, Bk W' x 53 (acA kd sa sc Ab zb cb n m er Ak zk ck) → W'.cell? ⟨x, 1, none⟩ = some (.string sa) ∧ W'.cell? ⟨x, 2, none⟩ = some (.string sc) ∧ W'.cell? ⟨x, 4, none⟩ = some (.int .i64 n) ∧ W'.cell? ⟨x, 5, none⟩ = some (.int .i64 m) ∧ W'.cell? ⟨x, 6, none⟩ = some (.int .i64 er)) :=
    Lib.hid fun W' hb => ⟨by rw [hb.cell 1]; rfl, by rw [hb.cell 2]; rfl, by rw [hb.cell 4]; rfl, by rw [hb.cell 5]; rfl, by rw [hb.cell 6]; rfl⟩
  obtain ⟨d1, d2, d4, d5, d6⟩ := KC.out _ B0.out.bk
  have C1 := Lib.hid (seFault B1.out.tw.se n er HN.out.2)
  rw [HR.out] at C1
  go_region_held3 (fun W' => W'.cell? ⟨x, 1, none⟩ = some (.string sa) ∧ W'.cell? ⟨x, 2, none⟩ = some (.string sc) ∧ W'.cell? ⟨x, 4, none⟩ = some (.int .i64 n) ∧ W'.cell? ⟨x, 5, none⟩ = some (.int .i64 m) ∧ W'.cell? ⟨x, 6, none⟩ = some (.int .i64 er)) (first | go_keep | exact KC.out _ (f1.bk B1.out.bk B1.out.n1) | exact KC.out _ (f2.bk (f1.bk B1.out.bk B1.out.n1) B1.out.n2)) (first
    | (go_at_call 26; refine C1.out.mono ?_; intro e w2 hp1; obtain ⟨rfl, h1, f1⟩ := hp1.cl; have c2 := (srFault (B1.out.tw.cr f1) n er); rw [HR.out] at c2; have C2 := Lib.hid c2; clear c2 hp1)
    | (go_at_call 59; refine C2.out.mono ?_; intro e w3 hp2; obtain ⟨rfl, h2, f2⟩ := hp2.cl))
  all_goals go_wp2_with fail
  all_goals go_ret
  all_goals exact B1.out.two h1 f1 h2 f2
end Go.Proofs.Ytdjmmdhjjdnbdaa

/- Layer 4: the law's act, of kind 9: Crash. -/
namespace Go.Proofs.Ytdjmmdhjjdnbdaa
open Go.RowKit
theorem intinfo : (Try.prog.info? 3).map (fun i => (i.zero, i.size, i.bytes)) = some (some (.int .i64 0), 1, 8) := by kernel_rfl
theorem step_appI {w : World} {ops : Array Oper} {o : Oper} {a : Act} {K : Act → World → Prop} {Q : Exit → Act → World → Prop} {E : Prop} (hw : Region.wanted o (yielded ops a.tmps) = true) (s x : Operand)
    (ho : o.op = .call { callee := .builtin .append, args := #[s, x], argTypes := #[34, 34] })
    (base : Nat) (v : Value) (n : Nat) (xs : List Int) (hs : a.eval s = v) (hown : w.ownsRow base 3 1 v n (xs.map intV))
    (B : Nat) (A : Option Addr) (m c : Nat) (news : List Int) (hx : a.eval x = .slice A m c) (hl : news.length = m) (hr : Rd w B A (news.map intV))
    (hbytes : n + m ≤ 4000000) (hbase : base ≤ w.heap.size)
    (h : ∀ A' c' w', w'.ownsRow base 3 1 (.slice A' (n + m) c') (n + m) ((xs ++ news).map intV) → w.grownBy w' v.ownBlock → ((Value.slice A' (n + m) c').ownBlock = v.ownBlock ∨ (Value.slice A' (n + m) c').ownBlock = some w.heap.size) → K (a.put o.dst (.slice A' (n + m) c')) w') :
    if Region.wanted o (yielded ops a.tmps) = true then Oper.wp Try.prog o a w K Q else E := by
  rw [if_pos hw]
  obtain ⟨i0, hi0, hz0, hz1, hz2⟩ := info_parts intinfo
  refine wp_app w s x _ ho base 3 i0 _ 1 8 Try.underlying34 hi0 hz0 hz1 hz2 rfl (by omega) v n (xs.map intV) hs hown B A m c (news.map intV) hx (by rw [List.length_map]; omega) hr (fun u hu => by
    obtain ⟨y, -, rfl⟩ := List.mem_map.1 hu
    rfl) (by simp only [maxLen]; omega) (by omega) hbase ?_
  intro A' c' w' h1 h2 h3 h4
  rw [← List.map_append] at h1
  exact h A' c' w' h1 h2 h3
/-- What both crashes come to. -/
theorem crash_both {w0 w1 w2 w4 w5 : World} {K1 K2 : Nat → Prop} {F1 F2 k : Nat} {S : VSt} {n : Int} {kp : List Int} {L2 : List (ByteArray × Nat)} {e : Ending} (h : Tw w0 w1 K1 K2 F1 F2 S k)
    (hp : L2.Perm (S.dirN (VSt.modulo n S.chg.length))) (hs : SortV (L2.map (·.1))) (h2 : Sr w0 w2 (Kn K2 w1.heap.size w2.heap.size) F2 (S.crash n kp L2)) (f2 : FrK w1 w2 K2) (b4 : Below w2.heap.size w2 w4) (h5 : SeCrash w0 w4 K1 F1 k S n kp e w5) :
    e = .returned (.int .i64 0) ∧ ∃ K1' K2' S', Tw w0 w5 K1' K2' F1 F2 S' (k + 1) := by
  obtain ⟨L1, hp1, hs1, he, h6, f6⟩ := h5
  have := order_one (h.se.ok.keys _) hp1 hp hs1 hs
  subst this
  exact ⟨he, _, _, _, h.rc2 (h2.below b4) (fun _ e => e) (Nat.le_refl _) b4.size (Nat.le_trans f2.size b4.size) h6 f6⟩
set_option maxRecDepth 100000 in
set_option maxHeartbeats 4000000 in
theorem vsAct9 {w0 W : World} {K1 K2 : Nat → Prop} {F1 F2 k : Nat} {S : VSt} (h : Tw w0 W K1 K2 F1 F2 S k) (hk : k ≤ 200) {kd n m er : Int} {sa sc : ByteArray} {Ab Ak : Option Addr} {zb cb zk ck : Nat} {kp : List Int}
    (hn : I64 n) (hkl : kp.length = zk) (hzk : zk ≤ 80) (hkr : Rd W w0.heap.size Ak (kp.map intV)) (hki : ∀ x ∈ kp, I64 x) (hkd : kd % 12 = 9) :
    Calls Try.prog 29 #[ptV F1, ptV F2, .agg (acA kd sa sc Ab zb cb n m er Ak zk ck)] W (ActP w0 F1 F2 k) := by
  have b0 := ActB.new h (acA kd sa sc Ab zb cb n m er Ak zk ck)
  have hkr1 := hkr.below ((Below.refl w0.heap.size W).alloc h.se.bel.size (.cells (acA kd sa sc Ab zb cb n m er Ak zk ck) 53))
  obtain ⟨w1, e1⟩ : ∃ w1, W.alloc (.cells (acA kd sa sc Ab zb cb n m er Ak zk ck) 53) = w1 := ⟨_, rfl⟩
  rw [e1] at b0 hkr1
  obtain ⟨x, hx⟩ : ∃ x, W.heap.size = x := ⟨_, rfl⟩
  rw [hx] at b0
  have d0 : w1.cell? ⟨x, 0, none⟩ = some (.int .i64 kd) := by rw [b0.bk.cell 0]; rfl
  have d4 : w1.cell? ⟨x, 4, none⟩ = some (.int .i64 n) := by rw [b0.bk.cell 4]; rfl
  have d7 : w1.cell? ⟨x, 7, none⟩ = some (.slice Ak zk ck) := by rw [b0.bk.cell 7]; rfl
  have CP := Lib.hid (kitPick kd 12 w1 (by omega) (by omega))
  have C1 := Lib.hid (srCrash (ck := ck) b0.tw.sr b0.tw.se.sk (by omega) n hn.1 hn.2 hkr1 b0.tw.se.bel.size hkl hki (by omega))
  have HN := Lib.hid hn
  have HKL := Lib.hid hkl
  have HKR := Lib.hid hkr1
  have HKI := Lib.hid hki
  have E1 := Lib.hid e1
  have HX := Lib.hid hx
  have HKD := Lib.hid hkd
  have B0 := Lib.hid b0
  clear h e1 hx hkd hn b0 hkl hkr hkr1 hki
  go_enter Try.func29, Try.ntmps29
  go_wp2_with fail
  rw [E1.out, HX.out]
  go_wp2_with fail
  refine CP.out.mono ?_
  rintro e w9 ⟨rfl, rfl⟩
  rw [show ((12 : Nat) : Int) = 12 from rfl, HKD.out]
  clear CP
  go_wp2_with fail
  refine C1.out.mono ?_
  rintro e w2 ⟨rfl, L2, hp, hs, h2, f2⟩
  have hb2 := f2.bk B0.out.bk B0.out.n2
  have hkr2 : Rd w2 w0.heap.size Ak (kp.map intV) := HKR.out.below (f2.below B0.out.tw.se.bel.size fun b e => (B0.out.tw.sr.lo e).1)
  have KC : Hid (∀ W', Below w2.heap.size w2 W' → W'.cell? ⟨x, 4, none⟩ = some (.int .i64 n) ∧ W'.cell? ⟨x, 7, none⟩ = some (.slice Ak zk ck)) := Lib.hid fun W' hb => by
    have hb3 := (hb.block x hb2.lt).trans hb2
    exact ⟨by rw [Bk.cell hb3 4]; rfl, by rw [Bk.cell hb3 7]; rfl⟩
  obtain ⟨g4, g7⟩ := KC.out w2 (Below.refl _ w2)
  have hb0 : w0.heap.size ≤ w2.heap.size := Nat.le_trans B0.out.tw.se.bel.size f2.size
  have OA : Hid (((w2.alloc (.cells #[] 3)).drew).ownsRow w0.heap.size 3 1 (.slice (some ⟨w2.heap.size, 0, none⟩) 0 0) 0 (([] : List Int).map intV)) := Lib.hid (World.ownsRow_lit w2 #[] 0 hb0 (by simp [maxLen]) rfl)
  have BA : Hid (Below w2.heap.size w2 (w2.alloc (.cells #[] 3)).drew) := Lib.hid ((Below.refl _ w2).alloc (Nat.le_refl _) _).drew
  have RA : Hid (Rd (w2.alloc (.cells #[] 3)).drew w0.heap.size Ak (kp.map intV)) := Lib.hid (hkr2.below (BA.out.mono hb0))
  have H2 := Lib.hid h2
  have F2' := Lib.hid f2
  have HP := Lib.hid hp
  have HS := Lib.hid hs
  have HB0 := Lib.hid hb0
  have CC : Hid (∀ (w4 : World) (A4 : Option Addr) (c4 : Nat), Below w2.heap.size w2 w4 → w4.ownsRow w0.heap.size 3 1 (.slice A4 zk c4) zk (kp.map intV) → (∀ q, (Value.slice A4 zk c4).ownBlock = some q → w2.heap.size ≤ q) → Calls Try.prog 17 #[ptV F1, .int .i64 n, .slice A4 zk c4] w4 (SeCrash w0 w4 K1 F1 k S n kp)) := Lib.hid fun w4 A4 c4 hb hown hlo => by
    refine seCrash ((B0.out.tw.rc F2'.out).below hb) (by omega) n HN.out.1 HN.out.2 (Rd.of_own hown) (Nat.le_refl _) HKL.out (fun a e e2 => ?_) HKI.out (by omega)
    have h3 := hlo a.block (by rw [e]; rfl)
    have h4 := (B0.out.tw.se.kLo e2).2
    have h5 := F2'.out.size
    omega
  clear h2 f2 hp hs hb2 hkr2 d0 d4 d7 C1 hb0
  go_wp2_with fail
  go_region_held3 (fun W' => W'.cell? ⟨x, 4, none⟩ = some (.int .i64 n) ∧ W'.cell? ⟨x, 7, none⟩ = some (.slice Ak zk ck)) (first | go_keep | exact KC.out _ BA.out | exact KC.out _ b4 | exact KC9.out) (first
    | (go_at_call 17; refine (CC.out w4 A4 c4 b4 hown4 hlo4).mono ?_; intro e w5 hp5; obtain ⟨rfl, t5⟩ := crash_both B0.out.tw HP.out HS.out H2.out F2'.out b4 hp5; have KC9 : Hid (w5.cell? ⟨x, 4, none⟩ = some (.int .i64 n) ∧ w5.cell? ⟨x, 7, none⟩ = some (.slice Ak zk ck)) := Lib.hid (by
        obtain ⟨L9, -, -, -, -, f9⟩ := hp5
        have hb8 := f9.bk ((b4.block x ((F2'.out.bk B0.out.bk B0.out.n2).lt)).trans (F2'.out.bk B0.out.bk B0.out.n2)) B0.out.n1
        exact ⟨by rw [Bk.cell hb8 4]; rfl, by rw [Bk.cell hb8 7]; rfl⟩))
    | (refine step_appI (by rfl) _ _ (by rfl) w0.heap.size _ 0 [] (by rfl) OA.out w0.heap.size Ak zk ck kp (by rfl) HKL.out RA.out (by omega) (Nat.le_trans HB0.out BA.out.size) ?_; intro A4 c4 w4 hown4 hgr4 hbl4; rw [Nat.zero_add, List.nil_append] at hown4; rw [Nat.zero_add] at hbl4; have b4 := (insStep BA.out hgr4 (Nat.le_refl _) : Below w2.heap.size w2 w4); have hlo4 := loStep0 hbl4 (Nat.le_refl _) BA.out.size))
  all_goals go_wp2_with fail
  all_goals go_ret
  all_goals exact ⟨rfl, t5⟩
end Go.Proofs.Ytdjmmdhjjdnbdaa

/- Layer 4: the law's act, of kind 10: Turn. Printed by tools/genVsAct.py. -/
namespace Go.Proofs.Ytdjmmdhjjdnbdaa
open Go.RowKit
set_option maxRecDepth 100000 in
set_option maxHeartbeats 4000000 in
theorem vsAct10 {w0 W : World} {K1 K2 : Nat → Prop} {F1 F2 k : Nat} {S : VSt} (h : Tw w0 W K1 K2 F1 F2 S k) (hk : k ≤ 200) {kd n m er : Int} {sa sc : ByteArray} {Ab Ak : Option Addr} {zb cb zk ck : Nat}
    (hsa : sa.size ≤ 300) (hsc : sc.size ≤ 300) (hn : I64 n) (hkd : kd % 12 = 10) :
    Calls Try.prog 29 #[ptV F1, ptV F2, .agg (acA kd sa sc Ab zb cb n m er Ak zk ck)] W (ActP w0 F1 F2 k) := by
  have b0 := ActB.new h (acA kd sa sc Ab zb cb n m er Ak zk ck)
  have SK := Lib.hid h.se.sk
  obtain ⟨T, r, hR⟩ : ∃ T r, S.turn sa n (IntKind.u8.wrap m) = (T, r) := ⟨_, _, rfl⟩
  have HR := Lib.hid hR
  have HN := Lib.hid hn
  have hwr : 0 ≤ IntKind.u8.wrap m ∧ IntKind.u8.wrap m ≤ 255 := by
    have := IntKind.u8.wrap m
    constructor
    · simp [IntKind.wrap, IntKind.signed, IntKind.bits]; omega
    · simp [IntKind.wrap, IntKind.signed, IntKind.bits]; omega
  have HWR := Lib.hid hwr
  obtain ⟨w1, e1⟩ : ∃ w1, W.alloc (.cells (acA kd sa sc Ab zb cb n m er Ak zk ck) 53) = w1 := ⟨_, rfl⟩
  rw [e1] at b0
  obtain ⟨x, hx⟩ : ∃ x, W.heap.size = x := ⟨_, rfl⟩
  rw [hx] at b0
  have d0 : w1.cell? ⟨x, 0, none⟩ = some (.int .i64 kd) := by rw [b0.bk.cell 0]; rfl
  have CP := Lib.hid (kitPick kd 12 w1 (by omega) (by omega))
  have E1 := Lib.hid e1
  have HX := Lib.hid hx
  have HKD := Lib.hid hkd
  have B0 := Lib.hid b0
  clear h e1 hx hkd hn hR b0
  go_enter Try.func29, Try.ntmps29
  go_wp2_with fail
  rw [E1.out, HX.out]
  go_wp2_with fail
  refine CP.out.mono ?_
  rintro e w9 ⟨rfl, rfl⟩
  rw [show ((12 : Nat) : Int) = 12 from rfl, HKD.out]
  clear CP
  go_wp2_with fail
  have B1 := Lib.hid B0.out.drew
  have KC : Hid (∀ W' : World, Bk W' x 53 (acA kd sa sc Ab zb cb n m er Ak zk ck) → W'.cell? ⟨x, 1, none⟩ = some (.string sa) ∧ W'.cell? ⟨x, 2, none⟩ = some (.string sc) ∧ W'.cell? ⟨x, 4, none⟩ = some (.int .i64 n) ∧ W'.cell? ⟨x, 5, none⟩ = some (.int .i64 m) ∧ W'.cell? ⟨x, 6, none⟩ = some (.int .i64 er)) :=
    Lib.hid fun W' hb => ⟨by rw [hb.cell 1]; rfl, by rw [hb.cell 2]; rfl, by rw [hb.cell 4]; rfl, by rw [hb.cell 5]; rfl, by rw [hb.cell 6]; rfl⟩
  obtain ⟨d1, d2, d4, d5, d6⟩ := KC.out _ B0.out.bk
  have C1 := Lib.hid (seTurn B1.out.tw.se sa n (IntKind.u8.wrap m) hwr)
  rw [HR.out] at C1
  go_region_held3 (fun W' => W'.cell? ⟨x, 1, none⟩ = some (.string sa) ∧ W'.cell? ⟨x, 2, none⟩ = some (.string sc) ∧ W'.cell? ⟨x, 4, none⟩ = some (.int .i64 n) ∧ W'.cell? ⟨x, 5, none⟩ = some (.int .i64 m) ∧ W'.cell? ⟨x, 6, none⟩ = some (.int .i64 er)) (first | go_keep | exact KC.out _ (f1.bk B1.out.bk B1.out.n1) | exact KC.out _ (f2.bk (f1.bk B1.out.bk B1.out.n1) B1.out.n2)) (first
    | (go_at_call 33; refine C1.out.mono ?_; intro e w2 hp1; obtain ⟨rfl, h1, f1⟩ := hp1.cl; have c2 := (srTurn (B1.out.tw.cr f1) SK.out (by omega) sa n (IntKind.u8.wrap m) hwr); rw [HR.out] at c2; have C2 := Lib.hid c2; clear c2 hp1)
    | (go_at_call 61; refine C2.out.mono ?_; intro e w3 hp2; obtain ⟨rfl, h2, f2⟩ := hp2.cl))
  all_goals go_wp2_with fail
  all_goals go_ret
  all_goals exact B1.out.two h1 f1 h2 f2
end Go.Proofs.Ytdjmmdhjjdnbdaa

/- Layer 4: the law's act, whole. -/
namespace Go.Proofs.Ytdjmmdhjjdnbdaa
open Go.RowKit
theorem vsAct {w0 W : World} {K1 K2 : Nat → Prop} {F1 F2 k : Nat} {S : VSt} (h : Tw w0 W K1 K2 F1 F2 S k) (hk : k ≤ 200) (z : VAc) (hz : AcOk W w0.heap.size z) (hs : AcSmall z) :
    Calls Try.prog 29 #[ptV F1, ptV F2, acV z] W (ActP w0 F1 F2 k) := by
  obtain ⟨⟨kd, sa, sc, zs, n, m, er, kp⟩, Ab, cb, Ak, ck⟩ := z
  have h0 := Int.emod_nonneg kd (show (12 : Int) ≠ 0 by decide)
  have h1 := Int.emod_lt_of_pos kd (show (0 : Int) < 12 by decide)
  have hc : kd % 12 = 0 ∨ kd % 12 = 1 ∨ kd % 12 = 2 ∨ kd % 12 = 3 ∨ kd % 12 = 4 ∨ kd % 12 = 5 ∨ kd % 12 = 6 ∨ kd % 12 = 7 ∨ kd % 12 = 8 ∨ kd % 12 = 9 ∨ kd % 12 = 10 ∨ kd % 12 = 11 := by omega
  have e : acV ⟨⟨kd, sa, sc, zs, n, m, er, kp⟩, Ab, cb, Ak, ck⟩ = .agg (acA kd sa sc Ab zs.length cb n m er Ak kp.length ck) := rfl
  rw [e]
  have ha : sa.size ≤ 300 := hs.a
  have hc2 : sc.size ≤ 300 := hs.c
  rcases hc with hc | hc | hc | hc | hc | hc | hc | hc | hc | hc | hc | hc
  · exact vsAct0 h hk ha hc2 hz.n hc
  · exact vsAct1 h hk ha rfl hs.b hz.byt hz.b hc
  · exact vsAct2 h hk ha hc2 hz.n hc
  · exact vsAct3 h hk ha hc2 hz.n hc
  · exact vsAct4 h hk ha hc2 hz.n hc
  · exact vsAct5 h hk ha hc2 hz.n hc
  · exact vsAct6 h hk ha hz.n hz.m hc
  · exact vsAct7 h hk hz.n hc
  · exact vsAct8 h hk ha hc2 hz.n hc
  · exact vsAct9 h hk hz.n rfl hs.k hz.k hz.kw hc
  · exact vsAct10 h hk ha hc2 hz.n hc
  · exact vsAct11 h hk ha rfl hs.b hz.byt hz.b hc
end Go.Proofs.Ytdjmmdhjjdnbdaa

/- Layer 4: the law's alike. -/
namespace Go.Proofs.Ytdjmmdhjjdnbdaa
open Go.RowKit
set_option maxRecDepth 100000 in
set_option maxHeartbeats 4000000 in
theorem vsAlike {w0 W : World} {K1 K2 : Nat → Prop} {F1 F2 k : Nat} {S : VSt} (h : Tw w0 W K1 K2 F1 F2 S k) (hk : k ≤ 1000) :
    Calls Try.prog 30 #[ptV F1, ptV F2] W fun e w' => e = .returned (.bool true) ∧ Below W.heap.size W w' := by
  have CN := Lib.hid (srNames h.sr h.se.sk hk)
  have hfl := h.se.few.fs
  have hdl := h.se.ok.dir_len S.chg.length
  have H := Lib.hid h
  have HDL : Hid (S.now.length ≤ 1000) := Lib.hid (by show (S.dirN _).length ≤ _; omega)
  obtain ⟨us, hus⟩ : ∃ us, S.used = us := ⟨_, rfl⟩
  obtain ⟨off, hoff⟩ : ∃ off, S.off = off := ⟨_, rfl⟩
  obtain ⟨ops, hops⟩ : ∃ ops, S.ops = ops := ⟨_, rfl⟩
  have hou := srOff h.sr
  rw [hoff, hops] at hou
  have HOU := Lib.hid hou
  have HE := Lib.hid (And.intro hus (And.intro hoff hops))
  clear h hfl hdl hus hoff hops hou
  go_enter Try.func30, Try.ntmps30
  go_wp2_with fail
  refine CN.out.mono ?_
  rintro e w1 ⟨A, c, l, rfl, hs1, hp1, hr1, -, b1⟩
  obtain ⟨n, hn⟩ : ∃ n, l.length = n := ⟨_, rfl⟩
  have hnl : n ≤ 1000 := by
    have h1 := hp1.length_eq
    rw [List.length_map] at h1
    have := HDL.out
    omega
  rw [hn]
  have HN := Lib.hid hn
  have HS1 := Lib.hid hs1
  have HP1 := Lib.hid hp1
  have HR1 := Lib.hid hr1
  have B1 := Lib.hid b1
  have hc0 := HOU.out w1.drew b1.drew
  obtain ⟨o3, o7⟩ := hc0
  have C2 := Lib.hid (seNames ((H.out.below b1.drew).se) hk)
  have CS : Hid (∀ (w2 : World) (A' : Option Addr) (c' : Nat) (l' : List ByteArray), Below w1.drew.heap.size w1.drew w2 → SortV l' → l'.Perm (S.now.map (·.1)) → Rd w2 w2.heap.size A' (l'.map strV) → l'.length = n ∧ Calls Try.prog 23 #[.slice A' n c', .slice A n c] w2 fun e w' => e = .returned (.bool true) ∧ ∃ d, w' = w2.drewN d) := Lib.hid fun w2 A' c' l' hb hs hp hr => by
    have := hs.eq HS1.out (hp.trans HP1.out.symm)
    subst this
    exact ⟨HN.out, kitStrings l' w2 hr (HR1.out.below (Below.trans (Below.refl _ _).drew hb)) HN.out (by omega)⟩
  have CU : Hid (∀ w3, Below W.heap.size W w3 → Calls Try.prog 34 #[ptV F1] w3 (fun e w' => e = .returned (.int .i64 (us : Nat)) ∧ Below w3.heap.size w3 w')) := Lib.hid fun w3 hb => by
    rw [← HE.out.1]
    exact seUsed (H.out.below hb).se hk
  have CV : Hid (∀ w3, Below W.heap.size W w3 → Calls Try.prog 64 #[ptV F2] w3 (fun e w' => e = .returned (.int .i64 (us : Nat)) ∧ Below w3.heap.size w3 w')) := Lib.hid fun w3 hb => by
    rw [← HE.out.1]
    exact srUsed (H.out.below hb).sr H.out.se.sk hk
  have CO : Hid (∀ w3, Below W.heap.size W w3 → Calls Try.prog 25 #[ptV F1] w3 (fun e w' => e = .returned (.bool (!off)) ∧ w3 = w')) := Lib.hid fun w3 hb => by
    rw [← HE.out.2.1]
    exact seOn (H.out.below hb).se
  have CP : Hid (∀ w3, Below W.heap.size W w3 → Calls Try.prog 35 #[ptV F1] w3 (fun e w' => e = .returned (.int .i64 (ops : Nat)) ∧ w3 = w')) := Lib.hid fun w3 hb => by
    rw [← HE.out.2.2]
    exact seOps (H.out.below hb).se
  clear hs1 hp1 hr1 hn CN b1
  have hself1 : ((us : Int) != (us : Int)) = false := by simp
  have hself2 : ((ops : Int) != (ops : Int)) = false := by simp
  have hoff2 : ((!off) == off) = false := by cases off <;> rfl
  go_wp2_with fail
  go_region_held3 (fun W' => W'.cell? ⟨F2, 3, none⟩ = some (.bool off) ∧ W'.cell? ⟨F2, 7, none⟩ = some (.int .i64 (ops : Nat))) (first | go_keep | exact HOU.out _ bw2 | exact HOU.out _ bw3 | exact HOU.out _ bw4 | exact HOU.out _ bw5) (first
    | (go_at_call 19; refine C2.out.mono ?_; rintro e w2 ⟨A', c', l', rfl, hs2, hp2, hr2, -, b2⟩; obtain ⟨hl2, C3⟩ := CS.out w2 A' c' l' b2 hs2 hp2 hr2; rw [hl2]; have bw2 := (B1.out.drew.trans (b2.mono B1.out.drew.size) : Below W.heap.size W w2))
    | (go_at_call 23; refine C3.mono ?_; rintro e w3 ⟨rfl, d, rfl⟩; have bw3 := below_drewN bw2 d)
    | (go_at_call 34; refine (CU.out _ bw3).mono ?_; rintro e w4 ⟨rfl, b4⟩; have bw4 := (bw3.trans (b4.mono bw3.size) : Below W.heap.size W w4))
    | (go_at_call 64; refine (CV.out _ bw4).mono ?_; rintro e w5 ⟨rfl, b5⟩; have bw5 := (bw4.trans (b5.mono bw4.size) : Below W.heap.size W w5))
    | (go_at_call 25; refine (CO.out _ bw5).mono ?_; rintro e w6 ⟨rfl, rfl⟩)
    | (go_at_call 35; refine (CP.out _ bw5).mono ?_; rintro e w7 ⟨rfl, rfl⟩))
  have BW5 := Lib.hid bw5
  have BX5 : Hid (Below w1.heap.size w1 w5) := Lib.hid (by
    have q2 := (Below.refl w1.heap.size w1).drew.trans b2
    have q3 := below_drewN q2 d
    have q4 := q3.trans (b4.mono q3.size)
    exact q4.trans (b5.mono q4.size))
  clear bw5 bw4 bw3 bw2 b2 b4 b5 C3 C2 CS CU CV CO CP hoff2 hself1 hself2 hs2 hp2 hr2 hl2
  go_wp2_with fail
  go_loopw [6] (fun i_ wx => ∃ j : Nat, j ≤ n ∧ i_ = .int .i64 j ∧ Hid (Below W.heap.size W wx ∧ Below w1.heap.size w1 wx)) (fun i_ _ => n - (intOf i_).toNat)
  case atStart => exact ⟨0, Nat.zero_le _, rfl, Lib.hid ⟨BW5.out, BX5.out⟩⟩
  case round =>
    obtain ⟨j, hj, rfl, HB⟩ := hrel
    by_cases hlt : j < n
    · have hlt' : (j : Int) < (n : Int) := by omega
      obtain ⟨s, hs⟩ : ∃ s, l[j]? = some s := ⟨_, List.getElem?_eq_getElem (by rw [HN.out]; exact hlt)⟩
      obtain ⟨b, o, rfl, hcell⟩ := Rs.get (HR1.out.below HB.out.2) hs
      have hbd := HB.out.1.drew
      obtain ⟨z, hz⟩ : ∃ z, S.size s = z := ⟨_, rfl⟩
      have c1 := seSize (H.out.below hbd).se s
      have c2 := srSize (H.out.below hbd).sr H.out.se.sk hk s
      rw [hz] at c1 c2
      have C1 := Lib.hid c1
      have C2 := Lib.hid c2
      have hd : wr.drew.cell? ⟨b, o + j, none⟩ = some (.string s) := hcell
      have KC : Hid (∀ W', Below wr.drew.heap.size wr.drew W' → W'.cell? ⟨b, o + j, none⟩ = some (.string s)) := Lib.hid fun W' hb => (hb.cell (World.block_lt_of_cell? wr.drew _ hd)).trans hd
      have hself : (z != z) = false := by simp
      clear c1 c2 hs hz hbd
      go_wp2_with fail
      go_region_held3 (fun W' => W'.cell? ⟨b, o + j, none⟩ = some (.string s)) (first | go_keep | exact KC.out _ b2) (first
        | (go_at_call 18; refine C1.out.mono ?_; rintro e w2 ⟨rfl, rfl⟩)
        | (go_at_call 65; refine C2.out.mono ?_; rintro e w3 ⟨rfl, b2⟩))
      all_goals go_wp2_with fail
      all_goals exact ⟨⟨j + 1, by omega, by go_num, Lib.hid ⟨HB.out.1.drew.trans (b2.mono HB.out.1.drew.size), HB.out.2.drew.trans (b2.mono HB.out.2.drew.size)⟩⟩, by simp only [intOf]; omega⟩
    · have hlt' : decide ((j : Int) < (n : Int)) = false := by simp; omega
      have hlt2 : ¬ (j : Int) < (n : Int) := by omega
      go_wp2_with fail
      go_ret
      exact ⟨rfl, HB.out.1⟩
end Go.Proofs.Ytdjmmdhjjdnbdaa

/- Layer 4: the law's reads. -/
namespace Go.Proofs.Ytdjmmdhjjdnbdaa
open Go.RowKit
theorem size_in {S : VSt} {k : Nat} (h : Sk S k) {l : List ByteArray} {s : ByteArray} {i : Nat} (hl : l.Perm (S.now.map (·.1))) (hs : l[i]? = some s) : 0 ≤ S.size s ∧ S.size s ≤ 300 * k := by
  obtain ⟨p, hp, rfl⟩ := List.mem_map.1 (hl.mem_iff.1 (List.mem_of_getElem? hs))
  have h1 : S.get p.1 = some p.2 := mgGet_some (v := p.2) (h.ok.keys _) hp
  have h2 := h.few.file (h.ok.get_lt h1)
  unfold VSt.size
  rw [h1]
  simp only
  omega
/-- The halves of the sizes, as they lie. -/
structure Hv (w1 wx : World) (A : Option Addr) (j c : Nat) (ks : List Int) : Prop where
  own : wx.ownsRow w1.heap.size 3 1 (.slice A j c) j (ks.map intV)
  len : ks.length = j
  i64 : ∀ x ∈ ks, I64 x
set_option maxRecDepth 100000 in
set_option maxHeartbeats 4000000 in
theorem vsReads {w0 W : World} {K1 K2 : Nat → Prop} {F1 F2 k : Nat} {S : VSt} (h : Tw w0 W K1 K2 F1 F2 S k) (hk : k ≤ 100) :
    Calls Try.prog 31 #[ptV F1, ptV F2] W fun e w' => e = .returned (.bool true) ∧ Below w0.heap.size w0 w' := by
  have CN := Lib.hid (srNames h.sr h.se.sk (by omega))
  have hfl := h.se.few.fs
  have hdl := h.se.ok.dir_len S.chg.length
  have H := Lib.hid h
  have HDL : Hid (S.now.length ≤ 1000) := Lib.hid (by show (S.dirN _).length ≤ _; omega)
  clear h hfl hdl
  go_enter Try.func31, Try.ntmps31
  go_wp2_with fail
  refine CN.out.mono ?_
  rintro e w1 ⟨A, c, l, rfl, hs1, hp1, hr1, -, b1⟩
  obtain ⟨n, hn⟩ : ∃ n, l.length = n := ⟨_, rfl⟩
  have hnl : n ≤ 1000 := by
    have h1 := hp1.length_eq
    rw [List.length_map] at h1
    have := HDL.out
    omega
  rw [hn]
  have HN := Lib.hid hn
  have HP1 := Lib.hid hp1
  have HR1 := Lib.hid hr1
  have B1 := Lib.hid b1
  have HV0 : Hid (Hv w1 w1 none 0 0 []) := Lib.hid ⟨World.ownsRow_nil _ _ _ _, rfl, fun x hx => by cases hx⟩
  clear hn hs1 hp1 hr1 b1 CN
  go_wp2_with fail
  go_loopw [6, 7] (fun v_ i_ wx => ∃ (j : Nat) (A' : Option Addr) (c' : Nat) (ks : List Int), j ≤ n ∧ i_ = .int .i64 j ∧ v_ = .slice A' j c' ∧ Hid (Hv w1 wx A' j c' ks) ∧ Hid (Below w1.heap.size w1 wx)) (fun _ i_ _ => n - (intOf i_).toNat)
  case atStart => exact ⟨0, none, 0, [], Nat.zero_le _, rfl, rfl, HV0, Lib.hid (Below.refl _ _)⟩
  case round =>
    obtain ⟨j, A', c', ks, hj, rfl, rfl, HV, HB⟩ := hrel
    by_cases hlt : j < n
    · have hlt' : (j : Int) < (n : Int) := by omega
      obtain ⟨s, hs⟩ : ∃ s, l[j]? = some s := ⟨_, List.getElem?_eq_getElem (by rw [HN.out]; exact hlt)⟩
      obtain ⟨b, o, rfl, hcell⟩ := Rs.get (HR1.out.below HB.out) hs
      have hbw := B1.out.trans (HB.out.mono B1.out.size)
      obtain ⟨hz1, hz2⟩ := size_in H.out.se.sk HP1.out hs
      obtain ⟨z, hz⟩ : ∃ z, S.size s = z := ⟨_, rfl⟩
      have c2 := srSize (H.out.below hbw).sr H.out.se.sk (by omega) s
      rw [hz] at c2 hz1 hz2
      have C2 := Lib.hid c2
      have hv1 := HV.out.own
      clear c2 hs hz hbw
      go_wp2_with fail
      refine C2.out.mono ?_
      rintro e w2 ⟨rfl, b2⟩
      have own2 := (own_of (w' := w2) hv1 fun g hg => b2.block g (hv1.lt g hg).2).alloc (.cells #[.int .i64 (z / 2)] 3)
      have bw2 := (HB.out.trans (b2.mono HB.out.size)).alloc (HB.out.trans (b2.mono HB.out.size)).size (.cells #[.int .i64 (z / 2)] 3)
      have rd2 := Rd.lit w2 #[.int .i64 (z / 2)] 3
      obtain ⟨i0, hi0, hq0, hq1, hq2⟩ := info_parts intinfo
      have hsz2 : w1.heap.size ≤ (w2.alloc (.cells #[.int .i64 (z / 2)] 3)).heap.size := bw2.size
      have hdiv : 0 ≤ z / 2 ∧ z / 2 ≤ 9223372036854775807 := by omega
      have OWN2 := Lib.hid own2
      have BW2 := Lib.hid bw2
      have RD2 := Lib.hid rd2
      have HI := Lib.hid (And.intro hi0 (And.intro hq0 (And.intro hq1 hq2)))
      have HSZ := Lib.hid hsz2
      clear own2 bw2 rd2 hi0 hq0 hq1 hq2 hsz2 hv1
      go_wp2_with (at_builtin; go_loud (refine wpList_app _ rfl (.tmp 21) (.tmp 29) 34 rfl w1.heap.size 3 i0 _ 1 8 Try.underlying34 HI.out.1 HI.out.2.1 HI.out.2.2.1 HI.out.2.2.2 rfl (by omega) (.slice A' j c') j (ks.map intV) rfl OWN2.out _ (some ⟨w2.heap.size, 0, none⟩) 1 1 [.int .i64 (z / 2)] rfl rfl RD2.out (fun u hu => by rw [List.mem_singleton.1 hu]; rfl) (by simp only [maxLen]; omega) (by omega) HSZ.out ?_))
      intro A3 c3 w3 hown3 hgr3 hblk3 hnil3
      have HV3 : Hid (Hv w1 w3 A3 (j + 1) c3 (ks ++ [z / 2])) := Lib.hid ⟨by
        rw [List.map_append]
        exact hown3, by rw [List.length_append, HV.out.len]; rfl, fun x hx => by
        rcases List.mem_append.1 hx with h1 | h1
        · exact HV.out.i64 x h1
        · rw [List.mem_singleton.1 h1]
          exact ⟨by omega, hdiv.2⟩⟩
      have HB3 : Hid (Below w1.heap.size w1 w3) := Lib.hid (insStep2 BW2.out hgr3 fun g hg => (HV.out.own.lt g hg).1)
      clear hown3 hgr3 hblk3 hnil3 OWN2 RD2
      go_wp2_with fail
      exact ⟨⟨j + 1, A3, c3, _, by omega, by go_num, rfl, HV3, HB3⟩, by simp only [intOf]; omega⟩
    · have hlt' : decide ((j : Int) < (n : Int)) = false := by simp; omega
      have hlt2 : ¬ (j : Int) < (n : Int) := by omega
      obtain rfl : j = n := by omega
      have hbw := B1.out.trans (HB.out.mono B1.out.size)
      have tw := H.out.below hbw
      have c1 := srCrash (ck := c') (nk := j) tw.sr tw.se.sk (by omega) 1048576 (by omega) (by omega) (Rd.of_own HV.out.own) (Nat.le_refl _) HV.out.len HV.out.i64 (by omega)
      have C1 := Lib.hid c1
      have TW := Lib.hid tw
      clear c1 tw hbw
      go_wp2_with fail
      refine C1.out.mono ?_
      rintro e w2 ⟨rfl, L2, hp2, hs2, h2, f2⟩
      have hlo : ∀ g, (Value.slice A' j c').ownBlock = some g → w1.heap.size ≤ g ∧ g < wr.heap.size := fun g hg => HV.out.own.lt g hg
      have hl1 : ∀ b, K1 b → b < W.heap.size := fun b e => (H.out.se.kLo e).2
      have hl2 : ∀ b, K2 b → b < W.heap.size := fun b e => (H.out.sr.lo e).2
      have hWs := B1.out.size
      have own2 : w2.ownsRow w1.heap.size 3 1 (.slice A' j c') j (ks.map intV) := own_of HV.out.own fun g hg => f2.block g (hlo g hg).2 fun e => by
        have := hl2 g e
        have := (hlo g hg).1
        omega
      have c2 := seCrash (ck := c') (nk := j) (TW.out.rc f2) (by omega) 1048576 (by omega) (by omega) (Rd.of_own own2) (Nat.le_refl _) HV.out.len (fun a e e2 => by
        have h3 := (hlo a.block (by rw [e]; rfl)).1
        have h4 := hl1 _ e2
        omega) HV.out.i64 (by omega)
      have C2 := Lib.hid c2
      have H2 := Lib.hid h2
      have F2' := Lib.hid f2
      have HP2 := Lib.hid hp2
      have HS2 := Lib.hid hs2
      clear c2 own2 h2 f2 hp2 hs2 hlo hl1 hl2 hWs C1
      go_wp2_with fail
      refine C2.out.mono ?_
      intro e w3 hp3
      obtain ⟨rfl, K1', K2', S', tw3⟩ := crash_both TW.out HP2.out HS2.out H2.out F2'.out (Below.refl _ w2) hp3
      have CA := Lib.hid (vsAlike tw3 (by omega))
      have TW3 := Lib.hid tw3
      clear tw3 hp3 C2
      go_wp2_with fail
      refine CA.out.mono ?_
      rintro e w4 ⟨rfl, b4⟩
      have tw4 := TW3.out.below b4
      have CN := Lib.hid (srNames tw4.sr tw4.se.sk (by omega))
      have hdl := tw4.se.ok.dir_len S'.chg.length
      have hfl := tw4.se.few.fs
      have TW4 := Lib.hid tw4
      clear tw4 b4 CA
      go_wp2_with fail
      refine CN.out.mono ?_
      rintro e w5 ⟨A2, c2, l2, rfl, hs5, hp5, hr5, hlo5, b5⟩
      obtain ⟨n2, hn2⟩ : ∃ n2, l2.length = n2 := ⟨_, rfl⟩
      have hn2l : n2 ≤ 300 := by
        have h1 := hp5.length_eq
        rw [List.length_map] at h1
        have h2 : S'.now.length ≤ k + 1 := Nat.le_trans hdl hfl
        omega
      rw [hn2]
      have HN2 := Lib.hid hn2
      have HR5 := Lib.hid hr5
      have HLO5 := Lib.hid hlo5
      have T5 := Lib.hid (TW4.out.below b5)
      have B5 := Lib.hid b5
      have hnm : ∀ s ∈ l2, s.size ≤ 64 := fun s hs => by
        obtain ⟨p, hp, rfl⟩ := List.mem_map.1 (hp5.mem_iff.1 hs)
        exact TW4.out.se.few.names _ p hp
      have hk1 : ∀ a, A2 = some a → ¬K1' a.block ∧ ¬K2' a.block := fun a e => ⟨fun e2 => by
        have h1 := hlo5 a e
        have h2 := (TW4.out.se.kLo e2).2
        omega, fun e2 => by
        have h1 := hlo5 a e
        have h2 := (TW4.out.sr.lo e2).2
        omega⟩
      have HNM := Lib.hid hnm
      have HK1 := Lib.hid hk1
      have R5 : Hid (Rd w5 w5.heap.size A2 (l2.map strV) ∧ w5.heap.size ≤ w5.heap.size) := Lib.hid ⟨HR5.out, Nat.le_refl _⟩
      clear hn2 hs5 hr5 hlo5 b5 CN hdl hfl hnm hk1 hp5
      go_wp2_with fail
      go_loopw [8, 9, 10, 11, 12] (fun i_ _ _ _ _ wx => ∃ (m : Nat) (S2 : VSt), m ≤ n2 ∧ i_ = .int .i64 m ∧ Hid (Tw w0 wx K1' K2' F1 F2 S2 (k + 1 + m)) ∧ Hid (Rd wx w5.heap.size A2 (l2.map strV) ∧ w5.heap.size ≤ wx.heap.size)) (fun i_ _ _ _ _ _ => n2 - (intOf i_).toNat)
      case atStart => exact ⟨0, S', Nat.zero_le _, rfl, T5, R5⟩
      case round =>
        obtain ⟨m, S2, hm, rfl, HT, HR⟩ := hrel
        by_cases hlt2 : m < n2
        · have hlt2' : (m : Int) < (n2 : Int) := by omega
          obtain ⟨s, hs⟩ : ∃ s, l2[m]? = some s := ⟨_, List.getElem?_eq_getElem (by rw [HN2.out]; exact hlt2)⟩
          have hsz := HNM.out s (List.mem_of_getElem? hs)
          obtain ⟨b, o, e0, hcell⟩ := Rs.get HR.out.1 hs
          have hrl := read_len HT.out.se.sk s 0 1073741824
          obtain ⟨T, zs, r, hR⟩ : ∃ T zs r, S2.read s 0 1073741824 = (T, zs, r) := ⟨_, _, _, rfl⟩
          rw [hR] at hrl
          simp only at hrl
          obtain ⟨zl, hzl⟩ : ∃ zl, zs.length = zl := ⟨_, rfl⟩
          have c1 := seRead HT.out.se (by omega) s (by omega) 0 1073741824
          rw [hR] at c1
          unfold SeRead at c1
          simp only [hzl] at c1
          have C1 := Lib.hid c1
          have CD : Hid (∀ w2, FrK wr w2 (Kis F1) → Rd w2 w5.heap.size A2 (l2.map strV) ∧ w2.cell? ⟨b, o + m, none⟩ = some (.string s) ∧ Calls Try.prog 57 #[ptV F2, .string s, .int .i64 0, .int .i64 1073741824] w2 (SrRead w0 w2 K2' F2 (T, zs, r))) := Lib.hid fun w2 f1 => by
            obtain ⟨mm, hv⟩ := HT.out.se.vf
            have hr2 := Rd.frK HR.out.1 f1 (fun a e e2 => (HK1.out a e).1 (by rw [show a.block = F1 from e2]; exact hv.kF)) HR.out.2
            obtain ⟨b', o', e1, hc'⟩ := Rs.get hr2 hs
            rw [e0] at e1
            cases e1
            refine ⟨hr2, hc', ?_⟩
            rw [← hR]
            exact srRead (HT.out.sr.keep f1 fun b e e2 => HT.out.apart b (by rw [show b = F1 from e2]; exact hv.kF) e) HT.out.se.sk (by omega) s (by omega) 0 1073741824 ⟨by omega, by omega⟩ ⟨by omega, by omega⟩
          have HRL := Lib.hid hrl
          have HZL := Lib.hid hzl
          clear c1 hrl hR hzl hs
          subst e0
          go_wp2_with fail
          refine C1.out.mono ?_
          rintro e w6 ⟨A6, c6, rfl, hA6, hlo6, h6, f6⟩
          obtain ⟨hr6, g6, c7⟩ := CD.out w6 f6
          unfold SrRead at c7
          simp only [HZL.out] at c7
          have C7 := Lib.hid c7
          have HR6 := Lib.hid hr6
          have HA6 := Lib.hid hA6
          have HLO6 := Lib.hid hlo6
          have H6 := Lib.hid h6
          have F6 := Lib.hid f6
          clear c7 hr6 hA6 hlo6 h6 f6 C1 CD hcell
          go_wp2_with fail
          refine C7.out.mono ?_
          rintro e w7 ⟨A7, c7, rfl, hA7, -, h7, f7⟩
          obtain ⟨hA8, tw8⟩ := read_both HT.out H6.out F6.out h7 f7 HA6.out HLO6.out
          have hr8 : Rd w7 w5.heap.size (some ⟨b, o, none⟩) (l2.map strV) ∧ w5.heap.size ≤ w7.heap.size := ⟨Rd.frK HR6.out f7 (fun a e => (HK1.out a e).2) (Nat.le_trans HR.out.2 F6.out.size), Nat.le_trans HR.out.2 (Nat.le_trans F6.out.size f7.size)⟩
          have ck := kitBytes (c := c6) (c' := c7) w7 hA8 hA7 (by have := HRL.out; simp only [maxLen]; omega) (by have := HRL.out; simp only [maxLen]; omega) HZL.out HZL.out
          rw [eqb_self] at ck
          have CK := Lib.hid ck
          have TW8 := Lib.hid tw8
          have R8 := Lib.hid hr8
          clear ck tw8 hr8 hA8 hA7 h7 f7 g6
          have hself : ((r : Int) != (r : Int)) = false := by simp
          go_wp2_with fail
          refine CK.out.mono ?_
          rintro e w9 ⟨rfl, d, rfl⟩
          go_wp2_with fail
          exact ⟨⟨m + 1, T, by omega, by go_num, Lib.hid (TW8.out.below (below_drewN (Below.refl _ w7) d)), Lib.hid ⟨R8.out.1, R8.out.2⟩⟩, by simp only [intOf]; omega⟩
        · have hlt3 : decide ((m : Int) < (n2 : Int)) = false := by simp; omega
          have hlt4 : ¬ (m : Int) < (n2 : Int) := by omega
          go_wp2_with fail
          go_ret
          exact ⟨rfl, HT.out.se.bel⟩
end Go.Proofs.Ytdjmmdhjjdnbdaa
