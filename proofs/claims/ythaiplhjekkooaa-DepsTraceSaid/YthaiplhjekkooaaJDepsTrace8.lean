/- Texts of the proof of DepsTraceSaid, joined: SoG RaQ RaV RaS RaM RaJ RaK RaO. -/
import Derived.Test.YthaiplhjekkooaaJDepsTrace2
import Derived.Test.YthaiplhjekkooaaJDepsTrace7
import Derived.Deep.RegionWith
import Derived.BigRegion
import Derived.Deep.RegionHeld3
import Derived.Deep.QuietTactic
import Derived.BigQuiet
import Derived.Test.YthaiplhjekkooaaJDepsTrace3
import Derived.Laws.OwnMore
import Derived.Test.YthaiplhjekkooaaJDepsTrace4
/- ref.Copy, ref.Order. -/
namespace Go.Proofs.Ythaiplhjekkooaa
open Go.RowKit

set_option maxRecDepth 100000 in
set_option maxHeartbeats 2000000 in
theorem rCopy {A : Option Addr} {c n B : Nat} (s : Sp) (w : World) (hf : RbT w B A s.tags) (hn : s.tags.length = n) (hB : B ≤ w.heap.size) (hnl : n ≤ 4398046511104) :
    Calls Try.prog 68 #[spV s A n c] w (CopyPost w s n A) := by
  have hb0 : Below w.heap.size w ((w.alloc (.cells (spC s A n c) 43)).alloc (.cells zspC 43)) := ((Below.refl _ w).alloc (Nat.le_refl _) _).alloc (by simp) _
  have hf1 := Rd.below hf (hb0.mono hB)
  have bk := (Bk.new w 43 (spC s A n c)).alloc (.cells zspC 43)
  have br := Bk.new (w.alloc (.cells (spC s A n c) 43)) 43 zspC
  rw [World.size_alloc] at br
  have hs1 : ((w.alloc (.cells (spC s A n c) 43)).alloc (.cells zspC 43)).heap.size = w.heap.size + 2 := by simp
  obtain ⟨w1, hw1⟩ : ∃ w1, (w.alloc (.cells (spC s A n c) 43)).alloc (.cells zspC 43) = w1 := ⟨_, rfl⟩
  rw [hw1] at hb0 hf1 bk br hs1
  have HW := Lib.hid hw1
  obtain ⟨g, hg⟩ : ∃ g, w.heap.size = g := ⟨_, rfl⟩
  rw [hg] at bk br
  have HG := Lib.hid hg
  have hg1 : g + 2 ≤ w1.heap.size := by omega
  have HN := Lib.hid hn
  have k10 : (w1.alloc (.cells #[] 90)).cell? ⟨g, 10, none⟩ = some (.slice A n c) := (bk.alloc _).cell 10
  have hBw : B ≤ w1.heap.size := by omega
  clear hw1 hg hn hf hs1
  go_enter Try.func68, Try.ntmps68
  go_upto_region 1 with fail
  rw [HW.out, HG.out]
  go_wp2_with (at_builtin; go_loud (refine wpList_appTg _ rfl (.tmp 3) (.tmp 5) rfl w1.heap.size _ 0 [] rfl (World.ownsRow_lit w1 #[] 0 (Nat.le_refl _) (by simp [maxLen]) rfl) B A n c s.tags rfl HN.out (Rd.alloc hf1 hBw _) (by omega) (by simp) ?_))
  intro A' c' w2 happ0 hne0
  have happ := happ0.fresh1
  clear happ0
  have hb2 := happ.below0
  have bk2 := bk.below hb2 bk.lt
  have br2 := br.below hb2 br.lt
  have hlo := happ.lo
  have hrd := Rd.of_own happ.own
  have hcap : n ≤ c' ∧ (A' = none → n = 0 ∧ c' = 0) := by
    rcases happ.own.2 with ⟨h1, h2⟩ | ⟨q, cap, cur, h1, _, _, h3, _⟩
    · injection h1 with _ _ h4
      exact ⟨by omega, fun _ => ⟨h2, h4⟩⟩
    · injection h1 with h4 _ h5
      subst h5
      exact ⟨h3, fun h => by rw [h] at h4; cases h4⟩
  have k10b : w2.cell? ⟨g, 10, none⟩ = some (.slice A n c) := bk2.cell 10
  have f10b : w2.frozen? ⟨g, 10, none⟩ = false := bk2.frozen 10
  have bk3 := bk2.set 10 (.slice A' n c')
  have br3 := br2.far (p := ⟨g, 10, none⟩) (by show g + 1 ≠ g; omega) (.slice A' n c')
  have hb3 := (hb0.trans (hb2.mono hb0.size)).setCell (p := ⟨g, 10, none⟩) (by show w.heap.size ≤ g; rw [HG.out]; exact Nat.le_refl _) (.slice A' n c')
  have hrd3 := hrd.grownS (grown_setCell w2 g 10 (.slice A' n c')) (fun a ha e => by
    have h1 := (hlo a ha).1
    have h2 := Option.some.inj e
    omega)
  have bk3' : Bk (w2.setCell ⟨g, 10, none⟩ (.slice A' n c')) g 43 (spC s A' n c') := bk3
  obtain ⟨w3, hw3⟩ : ∃ w3, w2.setCell ⟨g, 10, none⟩ (.slice A' n c') = w3 := ⟨_, rfl⟩
  rw [hw3] at bk3' br3 hb3 hrd3
  have HW3 := Lib.hid hw3
  clear hw3 bk3 bk2 br2 hb2 hrd happ hf1 bk br
  go_wp2_with (first
    | (refine wpList_load_row rfl 43 (.tmp 1) rfl g rfl 43 (spC s A' n c') (0, 0) _ (by rw [HW3.out]; exact bk3') Try.underlying43 rfl (by rfl) ?_; rw [HW3.out])
    | (refine wpList_store_row rfl 43 (.tmp 2) (.tmp 8) rfl (g + 1) (spC s A' n c') rfl rfl 43 zspC br3 (by rfl) rfl (spC_one s A' n c') ?_))
  try simp only [Exit.inBlock, Exit.then]
  refine bodyPost_ret (results_cell_row rfl _ _ (g + 1) 43 (spC s A' n c') (0, 0) _ rfl (br3.row _) Try.underlying43 rfl (by rfl)) rfl ?_
  refine ⟨A', c', rfl, ?_, ?_, hcap.1, ?_, ?_⟩
  · refine hrd3.grownS (only_row (g + 1) _) (fun a ha e => ?_)
    have h1 := (hlo a ha).1
    have h2 := Option.some.inj e
    omega
  · refine hb3.trans ?_
    exact ⟨rfl, rfl, rfl, by simp [World.setRow], fun i hi => by
      have := HG.out
      have := hb3.size
      simp [World.setRow, Array.getElem?_modify]
      intro e
      omega⟩
  · intro a ha
    have h1 := (hlo a ha).1
    have := hb0.size
    omega
  · intro h
    exact (hne0 h).elim


end Go.Proofs.Ythaiplhjekkooaa

/- The document's layer 21: Unique. (Turned out of SoH.) -/
namespace Go.Proofs.Ythaiplhjekkooaa
open Go.RowKit
theorem loadSp_shutQ (a : Addr) : loadVar 43 a = loadK 43 a := rfl
attribute [local go_sem ↓] loadSp_shutQ
attribute [local go_sem ↓] appK_shut
attribute [local go_sem ↓] sliced_s
attribute [local go_sem ↓ high] sliced_s0

theorem fstTo_succ (l : List Sp) (x : Sp) (i k : Nat) {y : Sp} (h : l[k]? = some y) : fstTo l x i (k + 1) = (fstTo l x i k && !ahd x y k i) := by
  simp [fstTo, List.range_succ, h]
theorem insK_le (id : Nat) (out : List Sp) : ∀ k, insK id out k ≤ k
  | 0 => Nat.le_refl _
  | k + 1 => by
    rw [insK]
    split
    · split
      · have := insK_le id out k; omega
      · exact Nat.le_refl _
    · exact Nat.le_refl _
theorem insK_step {id k : Nat} {out : List Sp} {y : Sp} (h : out[k]? = some y) : insK id out (k + 1) = if id < y.id then insK id out k else k + 1 := by
  rw [insK, h]
theorem uniqTo_step {l : List Sp} {i : Nat} {x : Sp} (h : l[i]? = some x) : uniqTo l (i + 1) = if fstTo l x i l.length = true then insAt x (uniqTo l i) else uniqTo l i := by
  rw [uniqTo, h]
theorem uniqTo_len (l : List Sp) : ∀ i, (uniqTo l i).length ≤ i
  | 0 => Nat.le_refl _
  | i + 1 => by
    have ih := uniqTo_len l i
    rw [uniqTo]
    split
    · split
      · rw [insAt, List.length_append, List.length_cons, List.length_take, List.length_drop]; omega
      · omega
    · omega
/-- What Unique hands back. -/
def UnqPost (w : World) (ss : List Sp) (e : Ending) (w' : World) : Prop :=
  ∃ A' c' n' l', e = .returned (.slice A' n' c') ∧ sps l' = ss ∧ RowS w' w.heap.size (.slice A' n' c') n' l' ∧ Below w.heap.size w w'
set_option maxRecDepth 100000 in
set_option maxHeartbeats 4000000 in
theorem raUnique {A : Option Addr} {c n B : Nat} {l : List El} (w : World) (hf : RbS w B A l) (hn : l.length = n) (hB : B ≤ w.heap.size) (hnl : n ≤ 100000) (hsm : ∀ e ∈ l, e.n ≤ 1000000) :
    Calls Try.prog 54 #[.slice A n c] w (UnqPost w (uniq (sps l))) := by
  have HN := Lib.hid hn
  have HSM := Lib.hid hsm
  clear hn hsm
  go_enter Try.func54, Try.ntmps54
  go_wp2
  go_loopw [3, 4] (fun v iv_ wr => ∃ (i m : Nat) (A' : Option Addr) (c' : Nat) (l' : List El), i ≤ n ∧ m ≤ i ∧ v = .slice A' m c' ∧ iv_ = .int .i64 i ∧ sps l' = uniqTo (sps l) i ∧ RowS wr w.heap.size (.slice A' m c') m l' ∧ Below w.heap.size w wr) (fun _ i _ => n - (intOf i).toNat)
  case atStart => exact ⟨0, 0, none, 0, [], by omega, by omega, rfl, rfl, rfl, RowS.nil _ _, Below.refl _ _⟩
  case round =>
    obtain ⟨i, j, A', c', l', hi, hji, rfl, rfl, hl', hrow, hb⟩ := hrel
    have HL := Lib.hid hl'
    clear hl'
    by_cases hlt : i < n
    · have hlt' : (i : Int) < (n : Int) := by omega
      obtain ⟨x, hx⟩ : ∃ x, l[i]? = some x := ⟨_, List.getElem?_eq_getElem (by rw [HN.out]; exact hlt)⟩
      have HX := Lib.hid hx
      have hxn := HSM.out x (List.mem_of_getElem? hx)
      obtain ⟨b, o, rfl, hbb, -, -⟩ := hf.get hx
      have HLE : Hid (∀ {W : World} {k : Nat} {e : El}, Below w.heap.size w W → l[k]? = some e → (loadK 43 ⟨b, o + k * 11, none⟩).run Try.prog W = .ok (spV e.s e.A e.n e.c) W ∧ ElOk W B e ∧ W.cell? ⟨b, o + k * 11 + 2, none⟩ = some (.int .u64 e.s.id)) := fun {W k e} hW he => by
        obtain ⟨b', o', e', -, hc', hok'⟩ := (hf.below (hW.mono hB)).get he
        cases e'
        exact ⟨loadK_el hc', hok', hc' 2 (by omega)⟩
      have hcap : l'.length ≤ c' := by rw [hrow.len]; exact hrow.cap
      have hjc := hrow.cap
      have hjn : j ≤ 100000 := by omega
      obtain ⟨xi, hxi⟩ : ∃ xi, x.s.id = xi := ⟨_, rfl⟩
      have HXI := Lib.hid hxi
      clear hx hxi
      go_wp2_with fail
      obtain ⟨wO, hwO⟩ : ∃ wO, wO = wr := ⟨_, rfl⟩
      subst hwO
      go_loopw [5, 6] (fun f_ k_ wr2 => ∃ (f : Bool) (k : Nat), k ≤ n ∧ f_ = .bool f ∧ k_ = .int .i64 k ∧ Hid (fstTo (sps l) x.s i k = f) ∧ Below wO.heap.size wO wr2) (fun _ k_ _ => n - (intOf k_).toNat)
      case atStart => exact ⟨true, 0, by omega, rfl, rfl, Lib.hid rfl, Below.refl _ _⟩
      case round =>
        obtain ⟨f, k, hk, rfl, rfl, HF, hb2⟩ := hrel
        by_cases hkn : k < n
        · have hkn' : (k : Int) < (n : Int) := by omega
          obtain ⟨e, he⟩ : ∃ e, l[k]? = some e := ⟨_, List.getElem?_eq_getElem (by rw [HN.out]; exact hkn)⟩
          have hbd : Below wO.heap.size wO wr.drew := below_drewN hb2 1
          have hbwd : Below w.heap.size w wr.drew := hb.trans (hbd.mono hb.size)
          obtain ⟨hld1, hok1, -⟩ := HLE.out hbwd he
          obtain ⟨hld2, hok2, -⟩ := HLE.out hbwd HX.out
          have hcm := rCompare (c1 := e.c) (c2 := x.c) e.s x.s wr.drew (hok1.more (Nat.le_trans hB hbwd.size)).rd (hok2.more (Nat.le_trans hB hbwd.size)).rd hok1.len hok2.len (Nat.le_refl _) hok1.max hok2.max
          obtain ⟨cv, hcv⟩ : ∃ cv, spCmp e.s x.s = cv := ⟨_, rfl⟩
          rw [hcv] at hcm
          obtain ⟨ei, hei⟩ : ∃ ei, e.s.id = ei := ⟨_, rfl⟩
          have hst := fstTo_succ (sps l) x.s i k (sps_get he)
          rw [HF.out, ahd, hei, HXI.out, hcv] at hst
          have HST := Lib.hid hst
          have HCV := Lib.hid hcv
          have HCM := Lib.hid hcm
          have HE := Lib.hid he
          have HEI := Lib.hid hei
          clear hcm hcv hok1 hok2 he hst hei
          go_wp2_with fail
          go_region_held3 (fun w' => (loadK 43 ⟨b, o + k * 11, none⟩).run Try.prog w' = .ok (spV e.s e.A e.n e.c) w' ∧ (loadK 43 ⟨b, o + i * 11, none⟩).run Try.prog w' = .ok (spV x.s x.A x.n x.c) w')
            (first | exact ⟨hld1, hld2⟩ | exact ⟨hle1, hle2⟩)
            (first
              | (go_at_call 67
                 refine HCM.out.mono ?_
                 rintro en w5 ⟨rfl, hb5⟩
                 have hb05 := hbd.trans (hb5.mono hbd.size)
                 have hle1 := (HLE.out (hb.trans (hb05.mono hb.size)) HE.out).1
                 have hle2 := (HLE.out (hb.trans (hb05.mono hb.size)) HX.out).1)
              | fail)
          have hc1 := (HLE.out (hb.trans (hb05.mono hb.size)) HE.out).2.2
          have hc2 := (HLE.out (hb.trans (hb05.mono hb.size)) HX.out).2.2
          rw [HEI.out] at hc1
          rw [HXI.out] at hc2
          clear hld1 hld2 hle1 hle2 HCM hb5 HE
          have hnew : ∀ W, Below wO.heap.size w5 W → Below wO.heap.size wO W := fun W hW => hb05.trans hW
          by_cases q1 : ei = xi
          · have q1' : ((ei : Int) == (xi : Int)) = true := by simp; omega
            by_cases q2 : cv < 0
            · have q2' : decide (cv < 0) = true := by simp [q2]
              have hs : fstTo (sps l) x.s i (k + 1) = false := by rw [HST.out]; simp [q1, q2]
              have HS := Lib.hid hs
              clear hs HST
              go_wp2_with fail
              go_quiet (fail)
              go_wp2_with fail
              exact ⟨⟨false, k + 1, by omega, rfl, by go_num, Lib.hid HS.out, hb05.trans (below_drewN (Below.refl _ _) _)⟩, by simp only [intOf]; omega⟩
            · have q2' : decide (cv < 0) = false := by simp; omega
              by_cases q3 : cv = 0
              · have q3' : (cv == 0) = true := by simp [q3]
                by_cases q4 : k < i
                · have q4' : decide ((k : Int) < (i : Int)) = true := by simp; omega
                  have hs : fstTo (sps l) x.s i (k + 1) = false := by rw [HST.out]; simp [q1, q3, q4]
                  have HS := Lib.hid hs
                  clear hs HST
                  go_wp2_with fail
                  go_quiet (fail)
                  go_wp2_with fail
                  exact ⟨⟨false, k + 1, by omega, rfl, by go_num, Lib.hid HS.out, hb05.trans (below_drewN (Below.refl _ _) _)⟩, by simp only [intOf]; omega⟩
                · have q4' : decide ((k : Int) < (i : Int)) = false := by simp; omega
                  have hs : fstTo (sps l) x.s i (k + 1) = f := by rw [HST.out]; simp [q2, q4]
                  have HS := Lib.hid hs
                  clear hs HST
                  go_wp2_with fail
                  go_quiet (fail)
                  go_wp2_with fail
                  exact ⟨⟨f, k + 1, by omega, rfl, by go_num, Lib.hid HS.out, hb05.trans (below_drewN (Below.refl _ _) _)⟩, by simp only [intOf]; omega⟩
              · have q3' : (cv == 0) = false := by simp [q3]
                have hs : fstTo (sps l) x.s i (k + 1) = f := by rw [HST.out]; simp [q2, q3]
                have HS := Lib.hid hs
                clear hs HST
                go_wp2_with fail
                go_quiet (fail)
                go_wp2_with fail
                exact ⟨⟨f, k + 1, by omega, rfl, by go_num, Lib.hid HS.out, hb05.trans (below_drewN (Below.refl _ _) _)⟩, by simp only [intOf]; omega⟩
          · have q1' : ((ei : Int) == (xi : Int)) = false := by simp; omega
            have hs : fstTo (sps l) x.s i (k + 1) = f := by rw [HST.out]; simp [q1]
            have HS := Lib.hid hs
            clear hs HST
            go_wp2_with fail
            go_quiet (fail)
            go_wp2_with fail
            exact ⟨⟨f, k + 1, by omega, rfl, by go_num, Lib.hid HS.out, hb05.trans (below_drewN (Below.refl _ _) _)⟩, by simp only [intOf]; omega⟩
        · have hkn' : decide ((k : Int) < (n : Int)) = false := by simp; omega
          obtain rfl : k = n := by omega
          have hbq := hb.trans (hb2.mono hb.size)
          have hstep := uniqTo_step (sps_get HX.out)
          rw [sps_length, HN.out, HF.out, ← HL.out] at hstep
          have HSTP := Lib.hid hstep
          clear hstep
          cases f with
          | false =>
            go_wp2_with fail
            exact ⟨⟨i + 1, j, A', c', l', by omega, by omega, rfl, by go_num, by rw [HSTP.out]; rfl, hrow.bS hb2, hbq⟩, by simp only [intOf]; omega⟩
          | true =>
            go_wp2_with fail
            have hrow2 := hrow.bS hb2
            clear hrow hb2 hb HL HF
            obtain ⟨wP, hwP⟩ : ∃ wP, wP = wr := ⟨_, rfl⟩
            subst hwP
            go_loopw [8] (fun v wr2 => ∃ k : Nat, k ≤ j ∧ v = .int .i64 k ∧ Hid (insK x.s.id (sps l') j = insK x.s.id (sps l') k) ∧ Below wP.heap.size wP wr2) (fun v _ => (intOf v).toNat)
            case atStart => exact ⟨j, Nat.le_refl _, rfl, Lib.hid rfl, Below.refl _ _⟩
            case round =>
              obtain ⟨k, hk, rfl, HK, hb2⟩ := hrel
              by_cases hk0 : k = 0
              · have k0 : decide ((0 : Int) < (k : Int)) = false := by simp; omega
                have k0' : decide (0 < k) = false := by simp; omega
                have HKK : Hid (insK x.s.id (sps l') j = k) := Lib.hid (by rw [HK.out, hk0]; rfl)
                go_wp2_with fail
                go_quiet (fail)
                clear k0 k0' hk0 HK
                have hbW : Below wP.heap.size wP (wr.drewN nq) := below_drewN hb2 nq
                obtain ⟨WX, hWX⟩ : ∃ WX, wr.drewN nq = WX := ⟨_, rfl⟩
                rw [hWX] at hbW ⊢
                clear hWX
                have HBW : Hid (Below wP.heap.size wP WX) := Lib.hid hbW
                clear hbW
                have hrowW := hrow2.bS HBW.out
                have hbase : w.heap.size ≤ WX.heap.size := Nat.le_trans hbq.size HBW.out.size
                have hkj : (k : Int) ≤ (j : Int) := by omega
                have hkc : (k : Int) ≤ (c' : Int) := by omega
                go_wp2_with (at_builtin; go_loud (refine wpList_appS _ rfl (.tmp 77) (.tmp 80) rfl WX.heap.size _ 0 [] rfl (World.ownsRow_lit WX #[] 0 (Nat.le_refl _) (by simp [maxLen]) rfl) WX.heap.size _ (j - k) _ (l'.drop k) rfl (by rw [List.length_drop, hrow2.len]) (Rd.alloc (Rd.dropS (cap := c') hrowW.rbs.rd hcap) (Nat.le_refl _) _) (by omega) (by simp) ?_))
                intro A3 c3 w3 hap _
                have hap1 := hap.fresh1
                have hb3 := hap1.below0
                have hrow3 := hrowW.bS hb3
                have hlt3 := hbq.trans ((HBW.out.trans (hb3.mono HBW.out.size)).mono hbq.size)
                obtain ⟨hld, hokx, -⟩ := HLE.out hlt3 HX.out
                have hldd : (loadK 43 ⟨b, o + i * 11, none⟩).run Try.prog w3.drew = .ok (spV x.s x.A x.n x.c) w3.drew := (HLE.out (below_drewN hlt3 1) HX.out).1
                have hokd := (HLE.out (below_drewN hlt3 1) HX.out).2.1
                have hBd : B ≤ w3.drew.heap.size := Nat.le_trans hB hlt3.size
                have hcp := rCopy (c := x.c) x.s w3.drew hokd.rd hokd.len hBd (by omega)
                have HCP := Lib.hid hcp
                clear hcp
                have hlo := hap1.lo
                have hownW := hrowW.own_lt
                have hne3 : ∀ a, A3 = some a → (Value.slice A' j c').ownBlock ≠ some a.block := fun a ha e1 => by
                  have h1 := (hownW _ e1).1
                  have h2 := (hlo a ha).1
                  omega
                have hown3 := hap1.drew.own
                have hrow3d := hrow3.drewN 1
                have hbase3 : w.heap.size ≤ w3.drew.heap.size := hlt3.size
                go_wp2_with fail
                go_region_with
                  (first
                    | (go_at_call 68
                       refine HCP.out.mono ?_
                       rintro e w4 ⟨A4, c4, rfl, hr4, hb4, hc4, hlo4, -⟩
                       obtain ⟨A5, c5, w5, A6, c6, w6, hrun5, hrun6, hrow6, hb6⟩ := insRow (e := ⟨x.s, A4, x.n, c4⟩) w3.drew w4 hrow3d hk (by omega) hown3 hne3 hbase3 hb4 ⟨hr4, hokd.len, by show x.n ≤ _; omega⟩ hlo4
                       have HR6 := Lib.hid hrow6
                       clear hrow6)
                    | fail)
                have hsps : sps (l'.take k ++ ⟨x.s, A4, x.n, c4⟩ :: l'.drop k) = uniqTo (sps l) (i + 1) := by
                  rw [HSTP.out, if_pos (by trivial), insAt, sps_length, hrow2.len, HKK.out]
                  simp [sps]
                have HSS := Lib.hid hsps
                clear hsps
                go_wp2
                go_roundw
                case rel => exact ⟨i + 1, j + 1, A6, c6, _, by omega, by omega, rfl, by go_num, HSS.out, HR6.out, (below_drewN hlt3 1).trans hb6⟩
                case measure => simp [intOf]; omega
              · obtain ⟨kk, hkk⟩ : ∃ kk, kk + 1 = k := ⟨k - 1, by omega⟩
                have k0 : (0 : Int) < (k : Int) := by omega
                have k0' : 0 < k := by omega
                have hsubw : IntKind.i64.wrap ((k : Int) - 1) = (kk : Int) := by simp [IntKind.wrap, IntKind.bits, IntKind.signed]; omega
                have hkj' : (kk : Int) < (j : Int) := by omega
                have hkjn : kk < j := by omega
                obtain ⟨y, hy⟩ : ∃ y, l'[kk]? = some y := ⟨_, List.getElem?_eq_getElem (by rw [hrow2.len]; omega)⟩
                obtain ⟨b2, o2, hAe, -, hcy, -⟩ := (hrow2.bS hb2).rbs.get hy
                subst hAe
                have cy : wr.cell? ⟨b2, o2 + kk * 11 + 2, none⟩ = some (.int .u64 y.s.id) := hcy 2 (by omega)
                have cx := (HLE.out (hbq.trans (hb2.mono hbq.size)) HX.out).2.2
                have hst := insK_step (id := x.s.id) (sps_get hy)
                rw [hkk] at hst
                rw [← HK.out, HXI.out] at hst
                rw [HXI.out] at cx
                obtain ⟨yi, hyi⟩ : ∃ yi, y.s.id = yi := ⟨_, rfl⟩
                rw [hyi] at hst cy
                have HST := Lib.hid hst
                have HKE := Lib.hid hkk
                clear hst hy hyi hcy HK hkk
                by_cases hless : xi < yi
                · have hl1 : decide ((xi : Int) < (yi : Int)) = true := by simp; omega
                  have hl2 : (xi : Int) < (yi : Int) := by omega
                  have hnk : insK xi (sps l') j = insK xi (sps l') kk := by rw [HST.out, if_pos hless]
                  have HNK := Lib.hid hnk
                  clear hnk HST
                  go_wp2_with fail
                  go_quiet (fail)
                  go_wp2_with fail
                  exact ⟨⟨kk, by omega, by go_num, Lib.hid (HXI.out ▸ HNK.out), below_drewN hb2 _⟩, by have := HKE.out; simp only [intOf]; try omega⟩
                · have hl1 : decide ((xi : Int) < (yi : Int)) = false := by simp; omega
                  have hl2 : ¬ (xi : Int) < (yi : Int) := by omega
                  have HKK : Hid (insK x.s.id (sps l') j = k) := Lib.hid (by rw [HXI.out, HST.out, if_neg hless])
                  clear HST
                  go_wp2_with fail
                  go_quiet (fail)
                  clear k0 k0' hk0 hl1 hl2 hsubw hkj' hkjn
                  have hbW : Below wP.heap.size wP (wr.drewN nq) := below_drewN hb2 nq
                  obtain ⟨WX, hWX⟩ : ∃ WX, wr.drewN nq = WX := ⟨_, rfl⟩
                  rw [hWX] at hbW ⊢
                  clear hWX cx cy
                  have HBW : Hid (Below wP.heap.size wP WX) := Lib.hid hbW
                  clear hbW
                  have hrowW := hrow2.bS HBW.out
                  have hbase : w.heap.size ≤ WX.heap.size := Nat.le_trans hbq.size HBW.out.size
                  have hkj : (k : Int) ≤ (j : Int) := by omega
                  have hkc : (k : Int) ≤ (c' : Int) := by omega
                  go_wp2_with (at_builtin; go_loud (refine wpList_appS _ rfl (.tmp 77) (.tmp 80) rfl WX.heap.size _ 0 [] rfl (World.ownsRow_lit WX #[] 0 (Nat.le_refl _) (by simp [maxLen]) rfl) WX.heap.size _ (j - k) _ (l'.drop k) rfl (by rw [List.length_drop, hrow2.len]) (Rd.alloc (Rd.dropS (cap := c') hrowW.rbs.rd hcap) (Nat.le_refl _) _) (by omega) (by simp) ?_))
                  intro A3 c3 w3 hap _
                  have hap1 := hap.fresh1
                  have hb3 := hap1.below0
                  have hrow3 := hrowW.bS hb3
                  have hlt3 := hbq.trans ((HBW.out.trans (hb3.mono HBW.out.size)).mono hbq.size)
                  obtain ⟨hld, hokx, -⟩ := HLE.out hlt3 HX.out
                  have hldd : (loadK 43 ⟨b, o + i * 11, none⟩).run Try.prog w3.drew = .ok (spV x.s x.A x.n x.c) w3.drew := (HLE.out (below_drewN hlt3 1) HX.out).1
                  have hokd := (HLE.out (below_drewN hlt3 1) HX.out).2.1
                  have hBd : B ≤ w3.drew.heap.size := Nat.le_trans hB hlt3.size
                  have hcp := rCopy (c := x.c) x.s w3.drew hokd.rd hokd.len hBd (by omega)
                  have HCP := Lib.hid hcp
                  clear hcp
                  have hlo := hap1.lo
                  have hownW := hrowW.own_lt
                  have hne3 : ∀ a, A3 = some a → (Value.slice (some ⟨b2, o2, none⟩) j c').ownBlock ≠ some a.block := fun a ha e1 => by
                    have h1 := (hownW _ e1).1
                    have h2 := (hlo a ha).1
                    omega
                  have hown3 := hap1.drew.own
                  have hrow3d := hrow3.drewN 1
                  have hbase3 : w.heap.size ≤ w3.drew.heap.size := hlt3.size
                  go_wp2_with fail
                  go_region_with
                    (first
                      | (go_at_call 68
                         refine HCP.out.mono ?_
                         rintro e w4 ⟨A4, c4, rfl, hr4, hb4, hc4, hlo4, -⟩
                         obtain ⟨A5, c5, w5, A6, c6, w6, hrun5, hrun6, hrow6, hb6⟩ := insRow (e := ⟨x.s, A4, x.n, c4⟩) w3.drew w4 hrow3d hk (by omega) hown3 hne3 hbase3 hb4 ⟨hr4, hokd.len, by show x.n ≤ _; omega⟩ hlo4
                         have HR6 := Lib.hid hrow6
                         clear hrow6)
                      | fail)
                  have hsps : sps (l'.take k ++ ⟨x.s, A4, x.n, c4⟩ :: l'.drop k) = uniqTo (sps l) (i + 1) := by
                    rw [HSTP.out, if_pos (by trivial), insAt, sps_length, hrow2.len, HKK.out]
                    simp [sps]
                  have HSS := Lib.hid hsps
                  clear hsps
                  go_wp2
                  go_roundw
                  case rel => exact ⟨i + 1, j + 1, A6, c6, _, by omega, by omega, rfl, by go_num, HSS.out, HR6.out, (below_drewN hlt3 1).trans hb6⟩
                  case measure => simp [intOf]; omega
    · have hlt' : decide ((i : Int) < (n : Int)) = false := by simp; omega
      obtain rfl : i = n := by omega
      have hfin : sps l' = uniq (sps l) := by rw [HL.out, uniq, sps_length, HN.out]
      have HF := Lib.hid hfin
      clear hfin
      go_wp2
      go_ret
      exact ⟨A', c', j, l', rfl, HF.out, hrow, hb⟩
end Go.Proofs.Ythaiplhjekkooaa

/- The document's layer 21: Up. -/
namespace Go.Proofs.Ythaiplhjekkooaa
open Go.RowKit
theorem loadSp_shutV (a : Addr) : loadVar 43 a = loadK 43 a := rfl
attribute [local go_sem ↓] loadSp_shutV
theorem loadAd_shutV (a : Addr) : loadVar 45 a = loadK 45 a := rfl
attribute [local go_sem ↓] loadAd_shutV

theorem upsTo_step {u : List Sp} {i : Nat} {x : Sp} (h : u[i]? = some x) : upsTo u (i + 1) = upsTo u i ++ [upOf u i x] := by
  rw [upsTo, h]
theorem own_baseA {w : World} {b b' size n : Nat} {e : TypeId} {v : Value} {xs : List Value} (h : w.ownsRow b e size v n xs) (hb : b' ≤ b) : w.ownsRow b' e size v n xs :=
  ⟨h.1, h.2.imp id fun ⟨g, cap, cur, h1, h2, h3⟩ => ⟨g, cap, cur, h1, Nat.le_trans hb h2, h3⟩⟩
theorem upOf_s (u : List Sp) (i : Nat) (x : Sp) : (upOf u i x).s = x := by
  unfold upOf
  split
  · rfl
  · split
    · rfl
    · split <;> rfl
theorem upOf_ok {u : List Sp} {i : Nat} {x : Sp} (h : x.U64) : (upOf u i x).Ok := by
  have h4 := h.2.2.2
  unfold upOf
  split
  · exact ⟨h, by show (0 : Nat) < _; omega, by show (_ : Int) ≤ 0; omega, by show (0 : Int) ≤ _; omega⟩
  · split
    · exact ⟨h, by show (0 : Nat) < _; omega, by show (_ : Int) ≤ 0; omega, by show (0 : Int) ≤ _; omega⟩
    · split
      · exact ⟨h, by show (0 : Nat) < _; omega, by show (_ : Int) ≤ 0; omega, by show (0 : Int) ≤ _; omega⟩
      · exact ⟨h, h4, by show (_ : Int) ≤ 0; omega, by show (0 : Int) ≤ _; omega⟩
/-- One more adjusted span in a row. -/
theorem upRow {w1 W w5 : World} {i c' c5 : Nat} {A' A5 : Option Addr} {l' : List AE} {e : El} {a : Ad} (hra : RowA W w1.heap.size (.slice A' i c') i l') (hok : ElOk w1 w1.heap.size e) (hW : Below w1.heap.size w1 W) (ha : a.Ok) (hs : a.s = e.s)
    (hap : App w1.heap.size 45 14 W (.slice A' i c') w5 (.slice A5 (i + 1) c5) (i + 1) (aes (l' ++ [⟨a, e.A, e.n, e.c⟩]))) : RowA w5 w1.heap.size (.slice A5 (i + 1) c5) (i + 1) (l' ++ [⟨a, e.A, e.n, e.c⟩]) := by
  refine RowA.app (es := [⟨a, e.A, e.n, e.c⟩]) hra hap (fun x hx => ?_) (fun x hx ht q hq => ?_)
  · rw [List.mem_singleton] at hx
    subst hx
    have h1 := (hok.below hW).more hW.size
    exact ⟨by show RbT _ _ _ a.s.tags; rw [hs]; exact h1.rd, by show a.s.tags.length = _; rw [hs]; exact h1.len, h1.max, ha⟩
  · rw [List.mem_singleton] at hx
    subst hx
    have ht' : e.s.tags ≠ [] := by rw [← hs]; exact ht
    obtain ⟨b, o, hA, hlt, _⟩ := hok.rd (by intro e0; have := tgs_length e.s.tags; rw [e0] at this; exact ht' (List.eq_nil_of_length_eq_zero (by simp at this; omega)))
    have hq' : e.A = some q := hq
    rw [hA] at hq'
    have e3 := Option.some.inj hq'
    subst e3
    intro e1
    have h2 := (hra.own_lt _ e1).2
    simp only at h2
    omega
/-- What Up hands back. -/
def UpsPost (w : World) (ads : List Ad) (e : Ending) (w' : World) : Prop :=
  ∃ A' c' n' l', e = .returned (.slice A' n' c') ∧ l'.map (·.a) = ads ∧ RowA w' w.heap.size (.slice A' n' c') n' l' ∧ Below w.heap.size w w'
set_option maxRecDepth 100000 in
set_option maxHeartbeats 4000000 in
theorem raUp {A : Option Addr} {c n B : Nat} {l : List El} (w : World) (hf : RbS w B A l) (hn : l.length = n) (hB : B ≤ w.heap.size) (hnl : n ≤ 100000) (hsm : ∀ e ∈ l, e.n ≤ 1000000) (hu : ∀ s ∈ uniq (sps l), s.U64) :
    Calls Try.prog 39 #[.slice A n c] w (UpsPost w (ups (sps l))) := by
  have cu := raUnique (c := c) w hf hn hB hnl hsm
  have hul := uniqTo_len (sps l) (sps l).length
  rw [sps_length, hn] at hul
  obtain ⟨U, hU⟩ : ∃ U, uniq (sps l) = U := ⟨_, rfl⟩
  have hups : ups (sps l) = upsTo U U.length := by rw [ups, hU]
  have hul2 : U.length ≤ n := by rw [← hU, uniq, sps_length, hn]; exact hul
  rw [hU] at cu hu
  rw [hups]
  have HU := Lib.hid hu
  clear hU hups hul hu hsm hf
  go_enter Try.func39, Try.ntmps39
  go_wp2_with fail
  refine cu.mono ?_
  rintro en w1 ⟨Au, uc, m, ul, rfl, hus, hrow, hb1⟩
  have hml : ul.length = m := hrow.len
  have hmU : U.length = m := by rw [← hus, sps_length, hml]
  have HS := Lib.hid hus
  have HM := Lib.hid hml
  have HMU := Lib.hid hmU
  have HROW := Lib.hid hrow
  have HB1 := Lib.hid hb1
  have hmn : m ≤ n := by omega
  rw [hmU]
  clear hus hml hmU hrow cu hb1
  go_wp2_with fail
  go_loopw [4, 5] (fun v iv_ wr => ∃ (i : Nat) (A' : Option Addr) (c' : Nat) (l' : List AE), i ≤ m ∧ v = .slice A' i c' ∧ iv_ = .int .i64 i ∧ Hid (l'.map (·.a) = upsTo U i) ∧ RowA wr w1.heap.size (.slice A' i c') i l' ∧ Below w1.heap.size w1 wr) (fun _ i _ => m - (intOf i).toNat)
  case atStart => exact ⟨0, none, 0, [], by omega, rfl, rfl, Lib.hid rfl, RowA.nil _ _, Below.refl _ _⟩
  case round =>
    obtain ⟨i, A', c', l', hi, rfl, rfl, HL, hra, hbr⟩ := hrel
    by_cases hlt : i < m
    · have hlt' : (i : Int) < (m : Int) := by omega
      obtain ⟨e, he⟩ : ∃ e, ul[i]? = some e := ⟨_, List.getElem?_eq_getElem (by rw [HM.out]; exact hlt)⟩
      have hrs := HROW.out.rbs
      obtain ⟨b, o, e1, hbb, -, hok⟩ := hrs.get he
      subst e1
      have HLE : Hid (∀ W, Below w1.heap.size w1 W → (loadK 43 ⟨b, o + i * 11, none⟩).run Try.prog W = .ok (spV e.s e.A e.n e.c) W ∧ W.cell? ⟨b, o + i * 11 + 3, none⟩ = some (.int .u64 e.s.parent)) := Lib.hid fun W hW => by
        obtain ⟨b', o', e', -, hc', -⟩ := (hrs.below hW).get he
        cases e'
        exact ⟨loadK_el hc', hc' 3 (by omega)⟩
      obtain ⟨pa, hpa⟩ : ∃ pa, e.s.parent = pa := ⟨_, rfl⟩
      have HP : Hid (∀ W, Below w1.heap.size w1 W → (loadK 43 ⟨b, o + i * 11, none⟩).run Try.prog W = .ok (spV e.s e.A e.n e.c) W ∧ W.cell? ⟨b, o + i * 11 + 3, none⟩ = some (.int .u64 pa)) := Lib.hid fun W hW => by rw [← hpa]; exact HLE.out W hW
      have hbd := below_drewN hbr 1
      have BD : Hid (Below w1.heap.size w1 wr.drew) := Lib.hid hbd
      have BA : Hid (∀ o, Below w1.heap.size w1 (wr.drew.alloc o)) := Lib.hid fun o => hbd.alloc hbd.size o
      obtain ⟨ld, pd⟩ := HP.out _ BD.out
      have HE := Lib.hid he
      have HOK := Lib.hid hok
      have HPA := Lib.hid hpa
      clear he hok hpa hrs hbd
      go_wp2_with fail
      go_region_held3 (fun w' => (loadK 43 ⟨b, o + i * 11, none⟩).run Try.prog w' = .ok (spV e.s e.A e.n e.c) w' ∧ w'.cell? ⟨b, o + i * 11 + 3, none⟩ = some (.int .u64 pa))
        (first | exact HP.out _ BD.out | exact HP.out _ (BA.out _)) (fail)
      have bk0 := (Bk.new wr 45 (adC ⟨e.s, pa, 0, 0⟩ e.A e.n e.c)).drew
      have hb0 : Below wr.heap.size wr (wr.alloc (.cells (adC ⟨e.s, pa, 0, 0⟩ e.A e.n e.c) 45)).drew := ((Below.refl _ wr).alloc (Nat.le_refl _) _).drew
      obtain ⟨g, hg⟩ : ∃ g, wr.heap.size = g := ⟨_, rfl⟩
      obtain ⟨W2, hW2⟩ : ∃ W2, (wr.alloc (.cells (adC ⟨e.s, pa, 0, 0⟩ e.A e.n e.c) 45)).drew = W2 := ⟨_, rfl⟩
      rw [hW2] at bk0 hb0 ⊢
      have HGg := Lib.hid hg
      rw [hg] at bk0 ⊢
      clear hW2 hg ld pd BD BA
      have BAL : Hid (∀ (W : World) (o : Obj), Below W.heap.size W (W.alloc o)) := Lib.hid fun W o => (Below.refl _ W).alloc (Nat.le_refl _) o
      have HSX : Hid (U[i]? = some e.s) := Lib.hid (by rw [← HS.out]; exact sps_get HE.out)
      have HU64 : Hid e.s.U64 := Lib.hid (HU.out _ (List.mem_of_getElem? HSX.out))
      have hb02 := hbr.trans (hb0.mono hbr.size)
      have pd := (HP.out W2 hb02).2
      have BK0 := Lib.hid bk0
      clear bk0
      by_cases hp0 : pa = 0
      · have hq : upOf U i e.s = ⟨e.s, pa, 0, 0⟩ := by rw [upOf, HPA.out, if_pos hp0, hp0]
        have HQ := Lib.hid hq.symm
        subst hp0
        have BK3 := BK0.out
        have hb3 := hb0
        obtain ⟨W3, hW3⟩ : ∃ W3, W3 = W2 := ⟨_, rfl⟩
        subst hW3
        clear hq
        have hra3 := hra.bS hb3
        have lx := loadK_ad BK3
        clear BK3
        go_wp2_with (at_builtin; go_loud (refine wpList_appAd _ rfl (.tmp 49) (.tmp 51) rfl w1.heap.size _ i l' rfl (hra3.bS (BAL.out W3 _)).own (W3.heap.size + 1) _ 1 1 [⟨⟨e.s, 0, 0, 0⟩, e.A, e.n, e.c⟩] rfl rfl (rd_adj rfl _) (by omega) (by have h1 := hbr.size; have h2 := hb3.size; simp; omega) ?_))
        intro A5 c5 w5 hap _
        have hr5 := upRow (hra3.bS (BAL.out W3 _)) HOK.out ((hbr.trans (hb3.mono hbr.size)).trans ((BAL.out W3 _).mono (Nat.le_trans hbr.size hb3.size))) (a := ⟨e.s, 0, 0, 0⟩) (by rw [HQ.out]; exact upOf_ok HU64.out) (by rw [HQ.out]; exact upOf_s _ _ _) hap
        have hb5 : Below w1.heap.size w1 w5 := ((hbr.trans (hb3.mono hbr.size)).trans ((BAL.out W3 _).mono (Nat.le_trans hbr.size hb3.size))).trans (hap.below (by have h1 := hbr.size; have h2 := hb3.size; simp; omega) (fun k hk => (hra3.own_lt k hk).2))
        have HR5 := Lib.hid hr5
        clear hr5 hap hra3 lx
        go_wp2_with fail
        exact ⟨⟨i + 1, A5, c5, _, by omega, rfl, by go_num, Lib.hid (by rw [List.map_append, HL.out, upsTo_step HSX.out]; exact congrArg (fun q => upsTo U i ++ [q]) HQ.out), HR5.out, hb5⟩, by simp only [intOf]; omega⟩
      have hp0' : ((pa : Int) == 0) = false := by simp; omega
      have cp := raPlace (c := uc) ul pa W2 (HROW.out.rbs.below hb02) HM.out (by omega)
      rw [HS.out] at cp
      obtain ⟨pz, hpz⟩ : ∃ pz, plc U pa = pz := ⟨_, rfl⟩
      rw [hpz] at cp
      have HPZ := Lib.hid hpz
      clear hpz
      by_cases hneg : pz < 0
      · have hneg' : decide (pz < 0) = true := by simp [hneg]
        have HQ : Hid ((⟨e.s, 0, 0, 1⟩ : Ad) = upOf U i e.s) := Lib.hid (by rw [upOf, HPA.out, if_neg hp0, HPZ.out, if_pos hneg])
        have bk0 := BK0.out
        have f11 : W2.cell? ⟨g, 11, none⟩ = some (.int .u64 pa) := bk0.cell 11
        have z11 := bk0.frozen 11
        have bk1 := bk0.set 11 (.int .u64 0)
        have f13 := bk1.cell 13
        have z13 := bk1.frozen 13
        have bk2 := bk1.set 13 (.int .i64 1)
        have BK3 : Bk ((W2.setCell ⟨g, 11, none⟩ (.int .u64 0)).setCell ⟨g, 13, none⟩ (.int .i64 1)) g 45 (adC ⟨e.s, 0, 0, 1⟩ e.A e.n e.c) := bk2
        have hb3 := (hb0.setCell (p := ⟨g, 11, none⟩) (by show wr.heap.size ≤ g; rw [HGg.out]; exact Nat.le_refl _) (.int .u64 0)).setCell (p := ⟨g, 13, none⟩) (by show wr.heap.size ≤ g; rw [HGg.out]; exact Nat.le_refl _) (.int .i64 1)
        clear bk1 bk2 bk0
        go_wp2_with fail
        refine cp.mono ?_
        rintro en w3 ⟨rfl, hw3⟩
        rw [hw3]
        clear hw3
        obtain ⟨W3, hW3⟩ : ∃ W3, (W2.setCell ⟨g, 11, none⟩ (.int .u64 0)).setCell ⟨g, 13, none⟩ (.int .i64 1) = W3 := ⟨_, rfl⟩
        rw [hW3] at BK3 hb3
        have hra3 := hra.bS hb3
        have lx := loadK_ad BK3
        clear BK3
        go_wp2_with (at_builtin; go_loud (refine wpList_appAd _ rfl (.tmp 49) (.tmp 51) rfl w1.heap.size _ i l' rfl (hra3.bS (BAL.out W3 _)).own (W3.heap.size + 1) _ 1 1 [⟨⟨e.s, 0, 0, 1⟩, e.A, e.n, e.c⟩] rfl rfl (rd_adj rfl _) (by omega) (by have h1 := hbr.size; have h2 := hb3.size; simp; omega) ?_))
        intro A5 c5 w5 hap _
        have hr5 := upRow (hra3.bS (BAL.out W3 _)) HOK.out ((hbr.trans (hb3.mono hbr.size)).trans ((BAL.out W3 _).mono (Nat.le_trans hbr.size hb3.size))) (a := ⟨e.s, 0, 0, 1⟩) (by rw [HQ.out]; exact upOf_ok HU64.out) (by rw [HQ.out]; exact upOf_s _ _ _) hap
        have hb5 : Below w1.heap.size w1 w5 := ((hbr.trans (hb3.mono hbr.size)).trans ((BAL.out W3 _).mono (Nat.le_trans hbr.size hb3.size))).trans (hap.below (by have h1 := hbr.size; have h2 := hb3.size; simp; omega) (fun k hk => (hra3.own_lt k hk).2))
        have HR5 := Lib.hid hr5
        clear hr5 hap hra3 lx
        go_wp2_with fail
        exact ⟨⟨i + 1, A5, c5, _, by omega, rfl, by go_num, Lib.hid (by rw [List.map_append, HL.out, upsTo_step HSX.out]; exact congrArg (fun q => upsTo U i ++ [q]) HQ.out), HR5.out, hb5⟩, by simp only [intOf]; omega⟩
      have hneg' : decide (pz < 0) = false := by simp; omega
      have cc := raCycle (c := uc) ul e W2 (HROW.out.rbs.below hb02) HM.out (by omega) HE.out
      rw [HS.out] at cc
      obtain ⟨cy, hcy⟩ : ∃ cy, cyc U i e.s = cy := ⟨_, rfl⟩
      rw [hcy] at cc
      have HCY := Lib.hid hcy
      clear hcy
      cases cy with
      | true =>
        have HQ : Hid ((⟨e.s, 0, 0, 2⟩ : Ad) = upOf U i e.s) := Lib.hid (by rw [upOf, HPA.out, if_neg hp0, HPZ.out, if_neg hneg, HCY.out, if_pos rfl])
        go_wp2_with fail
        refine cp.mono ?_
        rintro en w3 ⟨rfl, hw3⟩
        rw [hw3]
        clear hw3
        go_wp2_with fail
        refine cc.mono ?_
        rintro en w4 ⟨rfl, d, hw4⟩
        rw [hw4]
        clear hw4 pd
        have hbd := hb0.trans (below_drewN (Below.refl _ W2) d)
        obtain ⟨W4, hW4⟩ : ∃ W4, W2.drewN d = W4 := ⟨_, rfl⟩
        have bk0 : Bk W4 g 45 (adC ⟨e.s, pa, 0, 0⟩ e.A e.n e.c) := by rw [← hW4]; exact BK0.out
        rw [hW4] at hbd ⊢
        have f11 : W4.cell? ⟨g, 11, none⟩ = some (.int .u64 pa) := bk0.cell 11
        have z11 := bk0.frozen 11
        have bk1 := bk0.set 11 (.int .u64 0)
        have f13 := bk1.cell 13
        have z13 := bk1.frozen 13
        have bk2 := bk1.set 13 (.int .i64 2)
        have BK3 : Bk ((W4.setCell ⟨g, 11, none⟩ (.int .u64 0)).setCell ⟨g, 13, none⟩ (.int .i64 2)) g 45 (adC ⟨e.s, 0, 0, 2⟩ e.A e.n e.c) := bk2
        have hb3 := (hbd.setCell (p := ⟨g, 11, none⟩) (by show wr.heap.size ≤ g; rw [HGg.out]; exact Nat.le_refl _) (.int .u64 0)).setCell (p := ⟨g, 13, none⟩) (by show wr.heap.size ≤ g; rw [HGg.out]; exact Nat.le_refl _) (.int .i64 2)
        clear bk1 bk2 bk0 hW4
        obtain ⟨W3, hW3⟩ : ∃ W3, (W4.setCell ⟨g, 11, none⟩ (.int .u64 0)).setCell ⟨g, 13, none⟩ (.int .i64 2) = W3 := ⟨_, rfl⟩
        rw [hW3] at BK3 hb3
        have hra3 := hra.bS hb3
        have lx := loadK_ad BK3
        clear BK3
        go_wp2_with (at_builtin; go_loud (refine wpList_appAd _ rfl (.tmp 49) (.tmp 51) rfl w1.heap.size _ i l' rfl (hra3.bS (BAL.out W3 _)).own (W3.heap.size + 1) _ 1 1 [⟨⟨e.s, 0, 0, 2⟩, e.A, e.n, e.c⟩] rfl rfl (rd_adj rfl _) (by omega) (by have h1 := hbr.size; have h2 := hb3.size; simp; omega) ?_))
        intro A5 c5 w5 hap _
        have hr5 := upRow (hra3.bS (BAL.out W3 _)) HOK.out ((hbr.trans (hb3.mono hbr.size)).trans ((BAL.out W3 _).mono (Nat.le_trans hbr.size hb3.size))) (a := ⟨e.s, 0, 0, 2⟩) (by rw [HQ.out]; exact upOf_ok HU64.out) (by rw [HQ.out]; exact upOf_s _ _ _) hap
        have hb5 : Below w1.heap.size w1 w5 := ((hbr.trans (hb3.mono hbr.size)).trans ((BAL.out W3 _).mono (Nat.le_trans hbr.size hb3.size))).trans (hap.below (by have h1 := hbr.size; have h2 := hb3.size; simp; omega) (fun k hk => (hra3.own_lt k hk).2))
        have HR5 := Lib.hid hr5
        clear hr5 hap hra3 lx
        go_wp2_with fail
        exact ⟨⟨i + 1, A5, c5, _, by omega, rfl, by go_num, Lib.hid (by rw [List.map_append, HL.out, upsTo_step HSX.out]; exact congrArg (fun q => upsTo U i ++ [q]) HQ.out), HR5.out, hb5⟩, by simp only [intOf]; omega⟩
      | false =>
        have HQ : Hid ((⟨e.s, pa, 0, 0⟩ : Ad) = upOf U i e.s) := Lib.hid (by rw [upOf, HPA.out, if_neg hp0, HPZ.out, if_neg hneg, HCY.out, if_neg (by simp)])
        go_wp2_with fail
        refine cp.mono ?_
        rintro en w3 ⟨rfl, hw3⟩
        rw [hw3]
        clear hw3
        go_wp2_with fail
        refine cc.mono ?_
        rintro en w4 ⟨rfl, d, hw4⟩
        rw [hw4]
        clear hw4 pd
        have hb3 := hb0.trans (below_drewN (Below.refl _ W2) d)
        obtain ⟨W3, hW3⟩ : ∃ W3, W2.drewN d = W3 := ⟨_, rfl⟩
        have BK3 : Bk W3 g 45 (adC ⟨e.s, pa, 0, 0⟩ e.A e.n e.c) := by rw [← hW3]; exact BK0.out
        rw [hW3] at hb3 ⊢
        have hra3 := hra.bS hb3
        have lx := loadK_ad BK3
        clear BK3
        go_wp2_with (at_builtin; go_loud (refine wpList_appAd _ rfl (.tmp 49) (.tmp 51) rfl w1.heap.size _ i l' rfl (hra3.bS (BAL.out W3 _)).own (W3.heap.size + 1) _ 1 1 [⟨⟨e.s, pa, 0, 0⟩, e.A, e.n, e.c⟩] rfl rfl (rd_adj rfl _) (by omega) (by have h1 := hbr.size; have h2 := hb3.size; simp; omega) ?_))
        intro A5 c5 w5 hap _
        have hr5 := upRow (hra3.bS (BAL.out W3 _)) HOK.out ((hbr.trans (hb3.mono hbr.size)).trans ((BAL.out W3 _).mono (Nat.le_trans hbr.size hb3.size))) (a := ⟨e.s, pa, 0, 0⟩) (by rw [HQ.out]; exact upOf_ok HU64.out) (by rw [HQ.out]; exact upOf_s _ _ _) hap
        have hb5 : Below w1.heap.size w1 w5 := ((hbr.trans (hb3.mono hbr.size)).trans ((BAL.out W3 _).mono (Nat.le_trans hbr.size hb3.size))).trans (hap.below (by have h1 := hbr.size; have h2 := hb3.size; simp; omega) (fun k hk => (hra3.own_lt k hk).2))
        have HR5 := Lib.hid hr5
        clear hr5 hap hra3 lx
        go_wp2_with fail
        exact ⟨⟨i + 1, A5, c5, _, by omega, rfl, by go_num, Lib.hid (by rw [List.map_append, HL.out, upsTo_step HSX.out]; exact congrArg (fun q => upsTo U i ++ [q]) HQ.out), HR5.out, hb5⟩, by simp only [intOf]; omega⟩
    · have hlt' : decide ((i : Int) < (m : Int)) = false := by simp; omega
      obtain rfl : i = m := by omega
      go_wp2_with fail
      go_ret
      have hra0 : RowA wr w.heap.size (.slice A' i c') i l' := ⟨own_baseA hra.own HB1.out.size, hra.len, hra.ok, hra.far⟩
      exact ⟨A', c', i, l', rfl, HL.out.trans (by rw [HMU.out]), hra0, HB1.out.trans (hbr.mono HB1.out.size)⟩
end Go.Proofs.Ythaiplhjekkooaa

/- The document's layer 21: shift. -/
namespace Go.Proofs.Ythaiplhjekkooaa
open Go.RowKit

/-- A span whose times may be. -/
structure Sp.Tim (s : Sp) : Prop where
  s0 : 0 ≤ s.start
  l0 : 0 ≤ s.length
  sum : s.start + s.length ≤ 4611686018427387903
set_option maxRecDepth 100000 in
set_option maxHeartbeats 4000000 in
theorem raShift {A1 A2 : Option Addr} {n1 c1 n2 c2 : Nat} (s : Sp) (p : Ad) (w : World) (hs : s.Tim) (hp : p.s.Tim) :
    Calls Try.prog 40 #[spV s A1 n1 c1, adV p A2 n2 c2] w fun e w' => e = .returned (.int .i64 (shiftS s p)) ∧ Below w.heap.size w w' := by
  have hb0 : Below w.heap.size w ((w.alloc (.cells (spC s A1 n1 c1) 43)).alloc (.cells (adC p A2 n2 c2) 45)) := ((Below.refl _ w).alloc (Nat.le_refl _) _).alloc (by simp) _
  have bk1 := (Bk.new w 43 (spC s A1 n1 c1)).alloc (.cells (adC p A2 n2 c2) 45)
  have bk2 := Bk.new (w.alloc (.cells (spC s A1 n1 c1) 43)) 45 (adC p A2 n2 c2)
  rw [World.size_alloc] at bk2
  obtain ⟨w1, hw1⟩ : ∃ w1, (w.alloc (.cells (spC s A1 n1 c1) 43)).alloc (.cells (adC p A2 n2 c2) 45) = w1 := ⟨_, rfl⟩
  obtain ⟨g, hg⟩ : ∃ g, w.heap.size = g := ⟨_, rfl⟩
  rw [hw1] at hb0 bk1 bk2
  rw [hg] at bk1 bk2
  have k4 : w1.cell? ⟨g, 4, none⟩ = some (.string s.service) := bk1.cell 4
  have k7 : w1.cell? ⟨g, 7, none⟩ = some (.int .i64 s.start) := bk1.cell 7
  have k8 : w1.cell? ⟨g, 8, none⟩ = some (.int .i64 s.length) := bk1.cell 8
  have j4 : w1.cell? ⟨g + 1, 4, none⟩ = some (.string p.s.service) := bk2.cell 4
  have j7 : w1.cell? ⟨g + 1, 7, none⟩ = some (.int .i64 p.s.start) := bk2.cell 7
  have j8 : w1.cell? ⟨g + 1, 8, none⟩ = some (.int .i64 p.s.length) := bk2.cell 8
  have j12 : w1.cell? ⟨g + 1, 12, none⟩ = some (.int .i64 p.shift) := bk2.cell 12
  obtain ⟨hs1, hs2, hs3⟩ := hs
  obtain ⟨hp1, hp2, hp3⟩ := hp
  obtain ⟨r, hr⟩ : ∃ r, shiftS s p = r := ⟨_, rfl⟩
  rw [hr]
  unfold shiftS at hr
  obtain ⟨sv, hsv⟩ : ∃ sv, s.service = sv := ⟨_, rfl⟩
  obtain ⟨pv, hpv⟩ : ∃ pv, p.s.service = pv := ⟨_, rfl⟩
  obtain ⟨a, ha⟩ : ∃ a, s.start = a := ⟨_, rfl⟩
  obtain ⟨b, hb⟩ : ∃ b, s.length = b := ⟨_, rfl⟩
  obtain ⟨x, hx⟩ : ∃ x, p.s.start = x := ⟨_, rfl⟩
  obtain ⟨y, hy⟩ : ∃ y, p.s.length = y := ⟨_, rfl⟩
  rw [hsv] at k4 hr
  rw [hpv] at j4 hr
  rw [ha] at k7 hr hs1 hs3
  rw [hb] at k8 hr hs2 hs3
  rw [hx] at j7 hr hp1 hp3
  rw [hy] at j8 hr hp2 hp3
  have HW := Lib.hid hw1
  have HG := Lib.hid hg
  have HR := Lib.hid hr
  clear hw1 hg hr bk1 bk2 hsv hpv ha hb hx hy
  go_enter Try.func40, Try.ntmps40
  go_upto_region 1 with fail
  rw [HW.out, HG.out]
  by_cases h1 : sv = pv
  · subst h1
    have hr := HR.out
    rw [if_pos rfl] at hr
    subst hr
    go_wp2_with fail
    go_ret
    exact ⟨rfl, hb0⟩
  have hr := HR.out
  rw [if_neg h1] at hr
  have HR2 := Lib.hid hr
  clear hr HR
  have h1' : (sv.toList == pv.toList) = false := by rw [strEq_of', decide_eq_false h1]
  go_wp2_with fail
  go_quiet (fail)
  go_wp2_with fail
  all_goals go_ret
  all_goals
    refine ⟨congrArg (fun v => Ending.returned (Value.int .i64 v)) ?_, below_drewN hb0 _⟩
    have h := HR2.out
    repeat' split at h
    all_goals omega
end Go.Proofs.Ythaiplhjekkooaa

/- The document's layer 21: Adjust's memory; what moving keeps. -/
namespace Go.Proofs.Ythaiplhjekkooaa
open Go.RowKit

/-- An adjusted span as Adjust keeps it. -/
structure AdGood (a : Ad) : Prop where
  tim : a.s.Tim
  lo : -4611686018427387904 ≤ a.shift
  hi : a.shift ≤ 4611686018427387904
  ok : a.Ok
theorem shiftS_rng {s : Sp} {p : Ad} (hs : s.Tim) (hp : AdGood p) : -4611686018427387904 ≤ shiftS s p ∧ shiftS s p ≤ 4611686018427387904 := by
  obtain ⟨h1, h2, h3⟩ := hs
  obtain ⟨⟨p1, p2, p3⟩, p4, p5, -⟩ := hp
  unfold shiftS
  split
  · exact ⟨p4, p5⟩
  · split
    · split <;> omega
    · split <;> omega
theorem AdGood.shift {x : Ad} (hx : AdGood x) {v : Int} (h0 : -4611686018427387904 ≤ v) (h1 : v ≤ 4611686018427387904) : AdGood ⟨x.s, x.up, v, x.flag⟩ :=
  ⟨hx.tim, h0, h1, hx.ok.1, hx.ok.2.1, by show (-9223372036854775808 : Int) ≤ v; omega, by show v ≤ (9223372036854775807 : Int); omega⟩
theorem AdGood.start {x : Ad} (hx : AdGood x) {v : Int} (h0 : 0 ≤ v) (h1 : v ≤ 4611686018427387903 - x.s.length) : AdGood ⟨{ x.s with start := v }, x.up, x.shift, x.flag⟩ :=
  ⟨⟨h0, hx.tim.l0, by show v + x.s.length ≤ _; omega⟩, hx.lo, hx.hi, hx.ok.1, hx.ok.2.1, hx.ok.2.2⟩
theorem mvAd_rng {x : Ad} (hx : AdGood x) (t : Int) : 0 ≤ min (max 0 t) (4611686018427387903 - x.s.length) ∧ min (max 0 t) (4611686018427387903 - x.s.length) ≤ 4611686018427387903 - x.s.length := by
  have h1 := hx.tim.l0
  have h2 := hx.tim.s0
  have h3 := hx.tim.sum
  omega
theorem mvAd_good {x y : Ad} (hx : AdGood x) (hy : AdGood y) : AdGood (mvAd x y) :=
  ((hx.shift (shiftS_rng hx.tim hy).1 (shiftS_rng hx.tim hy).2).start (mvAd_rng hx _).1 (mvAd_rng hx _).2)
theorem flatR_set {α : Type} {f : α → List Value} {k : Nat} (hf : ∀ x, (f x).length = k) {x x' : α} {j : Nat} {u : Value} (hj : j < k) (hx : f x' = (f x).set j u) :
    ∀ {l : List α} {i : Nat}, l[i]? = some x → (flatR f l).set (i * k + j) u = flatR f (l.set i x')
  | [], i, h => by simp at h
  | a :: l, 0, h => by
    simp at h
    subst h
    have e : flatR f (a :: l) = f a ++ flatR f l := rfl
    have e2 : flatR f ((a :: l).set 0 x') = f x' ++ flatR f l := rfl
    rw [e, e2, hx, Nat.zero_mul, Nat.zero_add, List.set_append_left _ _ (by rw [hf]; exact hj)]
  | a :: l, i + 1, h => by
    have ih := flatR_set hf hj hx (l := l) (i := i) (by simpa using h)
    have e : flatR f (a :: l) = f a ++ flatR f l := rfl
    have e2 : flatR f ((a :: l).set (i + 1) x') = f a ++ flatR f (l.set i x') := rfl
    have hk : (i + 1) * k = i * k + k := Nat.succ_mul _ _
    rw [e, e2, ← ih, List.set_append_right _ _ (by rw [hf]; omega), hf, show (i + 1) * k + j - k = i * k + j from by omega]
theorem own_besideA {w w' : World} {base n size : Nat} {e : TypeId} {v : Value} {xs : List Value} {row : Option Nat} (h : w.ownsRow base e size v n xs) (hg : w.grownBy w' row) (hne : ∀ k, v.ownBlock = some k → row ≠ some k) : w'.ownsRow base e size v n xs := by
  refine ⟨h.1, ?_⟩
  rcases h.2 with h0 | ⟨g, cap, cur, h1, h2, h3, h4⟩
  · exact .inl h0
  · refine .inr ⟨g, cap, cur, h1, h2, ?_, h4⟩
    rw [hg.block g (Array.getElem?_eq_some_iff.1 h3).1 (Ne.symm (hne g (by rw [h1]; rfl)))]
    exact h3
/-- Adjust's memory. -/
structure AjM (w W : World) (Ao : Option Addr) (co m D : Nat) (l : List AE) (ds : List Bool) : Prop where
  row : RowA W w.heap.size (.slice Ao m co) m l
  don : W.ownsRow w.heap.size 4 1 (.slice (some ⟨D, 0, none⟩) m m) m (ds.map Value.bool)
  ne : ∀ k, (Value.slice Ao m co).ownBlock = some k → k ≠ D
  far : ∀ e ∈ l, e.a.s.tags ≠ [] → ∀ a, e.A = some a → a.block ≠ D
  good : ∀ e ∈ l, AdGood e.a
  bel : Below w.heap.size w W
section
variable {w W W' : World} {Ao : Option Addr} {co m D : Nat} {l : List AE} {ds : List Bool}
theorem AjM.later (h : AjM w W Ao co m D l ds) (hb : Below W.heap.size W W') : AjM w W' Ao co m D l ds :=
  ⟨h.row.bS hb, ((App.refl h.don).later hb).own, h.ne, h.far, h.good, h.bel.trans (hb.mono h.bel.size)⟩
theorem AjM.dl (h : AjM w W Ao co m D l ds) : ds.length = m := by have := h.don.1; simpa using this
theorem AjM.base (h : AjM w W Ao co m D l ds) : w.heap.size ≤ D ∧ D < W.heap.size := by
  rcases h.don.2 with ⟨h1, _⟩ | ⟨g, cap, cur, h1, h2, h3, -⟩
  · cases h1
  · injection h1 with h4
    injection h4 with h5
    injection h5 with h6
    subst h6
    exact ⟨h2, (Array.getElem?_eq_some_iff.1 h3).1⟩
/-- One more is done. -/
theorem AjM.done (h : AjM w W Ao co m D l ds) (i : Nat) : AjM w (W.setCell ⟨D, i, none⟩ (.bool true)) Ao co m D l (ds.set i true) := by
  obtain ⟨h1, h2⟩ := h.don.stored i (.bool true)
  refine ⟨⟨own_besideA h.row.own h2 (fun k hk e => h.ne k hk (Option.some.inj e).symm), h.row.len, fun e he => ?_, h.row.far⟩, ?_, h.ne, h.far, h.good, h.bel.setCell (p := ⟨D, i, none⟩) h.base.1 _⟩
  · have ho := h.row.ok e he
    refine ⟨?_, ho.len, ho.max, ho.ok⟩
    by_cases ht : e.a.s.tags = []
    · rw [ht]; exact Rd.nil
    · exact ho.rd.grownS h2 fun a ha e1 => h.far e he ht a ha (Option.some.inj e1).symm
  · rw [List.map_set]
    exact h1
/-- One cell of a span is put. -/
theorem AjM.put {g co' i j : Nat} {e e' : AE} {u : Value} (h : AjM w W (some ⟨g, 0, none⟩) co' m D l ds) (hi : l[i]? = some e) (hj : j < 14) (hC : aeC e' = (aeC e).set j u) (hs : e'.a.s.tags = e.a.s.tags) (hA : e'.A = e.A) (hn : e'.n = e.n) (hg : AdGood e'.a) :
    AjM w (W.setCell ⟨g, i * 14 + j, none⟩ u) (some ⟨g, 0, none⟩) co' m D (l.set i e') ds := by
  obtain ⟨h1, h2⟩ := h.row.own.stored (i * 14 + j) u
  rw [flatR_set aeC_length hj hC hi] at h1
  have hgD := h.ne g rfl
  have hgb := (h.row.own_lt g rfl).2
  have hmem : ∀ x ∈ l.set i e', ∃ y ∈ l, x.a.s.tags = y.a.s.tags ∧ x.A = y.A ∧ x.n = y.n ∧ AdGood x.a := fun x hx => by
    rcases List.mem_or_eq_of_mem_set hx with hx | rfl
    · exact ⟨x, hx, rfl, rfl, rfl, h.good x hx⟩
    · exact ⟨e, List.mem_of_getElem? hi, hs, hA, hn, hg⟩
  refine ⟨⟨h1, by rw [List.length_set]; exact h.row.len, fun x hx => ?_, fun x hx ht a ha => ?_⟩, own_besideA h.don h2 (fun k hk e1 => hgD (by rw [Option.some.inj e1]; exact (Option.some.inj hk).symm)), h.ne, fun x hx ht a ha => ?_, fun x hx => ?_, h.bel.setCell (p := ⟨g, i * 14 + j, none⟩) hgb _⟩
  · obtain ⟨y, hy, e1, e2, e3, e4⟩ := hmem x hx
    have ho := h.row.ok y hy
    refine ⟨?_, by rw [e1, e3]; exact ho.len, by rw [e3]; exact ho.max, e4.ok⟩
    rw [e1, e2]
    by_cases ht : y.a.s.tags = []
    · rw [ht]; exact Rd.nil
    · exact ho.rd.grownS h2 fun a ha => h.row.far y hy ht a ha
  · obtain ⟨y, hy, e1, e2, e3, e4⟩ := hmem x hx
    exact h.row.far y hy (by rw [← e1]; exact ht) a (by rw [← e2]; exact ha)
  · obtain ⟨y, hy, e1, e2, e3, e4⟩ := hmem x hx
    exact h.far y hy (by rw [← e1]; exact ht) a (by rw [← e2]; exact ha)
  · obtain ⟨y, hy, e1, e2, e3, e4⟩ := hmem x hx
    exact e4
end
set_option maxRecDepth 100000 in
theorem loadK_tr {w : World} {b o : Nat} {e : El} (h : ∀ j, j < 11 → w.cell? ⟨b, o + j, none⟩ = (elC e)[j]?) : (loadK 40 ⟨b, o, none⟩).run Try.prog w = .ok (.agg #[.int .u64 e.s.hi, .int .u64 e.s.lo]) w :=
  run_loadVar_cells w _ _ ⟨b, o, none⟩ [.int .u64 e.s.hi, .int .u64 e.s.lo] Try.underlying40 rfl (by rfl) (fun j v hv => by
    have hj : j < 2 := (List.getElem?_eq_some_iff.1 hv).1
    rw [Addr.add_lit, h j (by omega)]
    match j, hj, hv with
    | 0, _, hv => exact hv
    | 1, _, hv => exact hv)
theorem neqTrc (W : World) (h1 l1 h2 l2 : Nat) : (binOp .neq 40 (.agg #[.int .u64 h1, .int .u64 l1]) (.agg #[.int .u64 h2, .int .u64 l2])).run Try.prog W = .ok (.bool (!(decide (h1 = h2) && decide (l1 = l2)))) W := by
  by_cases e1 : h1 = h2
  · subst e1
    by_cases e2 : l1 = l2
    · subst e2
      simp only [decide_true, Bool.and_self, Bool.not_true]
      have e : ((h1 : Int) == (h1 : Int)) = true := by simp
      have e' : ((l1 : Int) == (l1 : Int)) = true := by simp
      go_simp
    · have e : ((l1 : Int) == (l2 : Int)) = false := by simp; omega
      simp only [e2, decide_false, Bool.and_false, Bool.not_false]
      go_simp
  · have e : ((h1 : Int) == (h2 : Int)) = false := by simp; omega
    simp only [e1, decide_false, Bool.false_and, Bool.not_false]
    go_simp
end Go.Proofs.Ythaiplhjekkooaa

/- The document's layer 21: Adjust. -/
namespace Go.Proofs.Ythaiplhjekkooaa
open Go.RowKit
theorem loadSp_shutJ (a : Addr) : loadVar 43 a = loadK 43 a := rfl
attribute [local go_sem ↓] loadSp_shutJ
theorem loadAd_shutJ (a : Addr) : loadVar 45 a = loadK 45 a := rfl
attribute [local go_sem ↓] loadAd_shutJ
theorem loadTr_shutJ (a : Addr) : loadVar 40 a = loadK 40 a := rfl
attribute [local go_sem ↓] loadTr_shutJ

/-- What Adjust hands back. -/
def AdjPost (w : World) (r : List Ad × Nat) (e : Ending) (w' : World) : Prop :=
  ∃ A' c' l', e = .returned (.tuple #[.slice A' r.1.length c', .int .i64 r.2]) ∧ l'.map (·.a) = r.1 ∧ RbA w' w'.heap.size A' l' ∧ Below w.heap.size w w' ∧ r.1.length ≤ c'
theorem AdjPost.no {w w' : World} {q : Nat} (hb : Below w.heap.size w w') : AdjPost w ([], q) (.returned (.tuple #[.slice none 0 0, .int .i64 q])) w' := ⟨none, 0, [], rfl, rfl, RbA.nil, hb, Nat.le_refl _⟩
theorem spErr_drop {l : List Sp} {k : Nat} {x : Sp} (h : l[k]? = some x) : spErr (l.drop k) = if spChk x ≠ 0 then spChk x else spErr (l.drop (k + 1)) := by
  obtain ⟨hk, rfl⟩ := List.getElem?_eq_some_iff.1 h
  rw [List.drop_eq_getElem_cons hk, spErr]
theorem spErr_zero : ∀ {l : List Sp}, spErr l = 0 → ∀ x ∈ l, spChk x = 0
  | [], _, x, h => by cases h
  | y :: l, h, x, hx => by
    rw [spErr] at h
    by_cases h0 : spChk y ≠ 0
    · rw [if_pos h0] at h; exact absurd h h0
    · rw [if_neg h0] at h
      rcases List.mem_cons.1 hx with rfl | hx
      · exact Decidable.not_not.1 h0
      · exact spErr_zero h x hx
theorem spChk_parts {s : Sp} (h : spChk s = 0) : s.Tim ∧ s.tags.length ≤ 16 ∧ s.id ≠ 0 := by
  unfold spChk at h
  by_cases h1 : longB s = true
  · rw [if_pos h1] at h; omega
  rw [if_neg h1] at h
  cases h2 : (headB s && tagsOk s.tags s.tags.length) with
  | false => rw [h2] at h; simp at h
  | true =>
  rw [Bool.and_eq_true] at h2
  have hh := h2.1
  unfold headB at hh
  simp only [Bool.and_eq_true, Bool.or_eq_true, decide_eq_true_eq] at hh
  simp only [longB, Bool.or_eq_true, decide_eq_true_eq, not_or, Bool.not_eq_true] at h1
  obtain ⟨⟨⟨⟨⟨⟨⟨⟨⟨-, b0⟩, -⟩, -⟩, -⟩, -⟩, b1⟩, b2⟩, b3⟩, b4⟩ := hh
  exact ⟨⟨b1, b2, by omega⟩, by omega, b0⟩
theorem uniqTo_mem (l : List Sp) : ∀ i, ∀ x ∈ uniqTo l i, x ∈ l
  | 0, x, h => by simp [uniqTo] at h
  | i + 1, x, h => by
    rw [uniqTo] at h
    cases hl : l[i]? with
    | none => rw [hl] at h; exact uniqTo_mem l i x h
    | some y =>
      rw [hl] at h
      simp only at h
      split at h
      · rw [insAt] at h
        rcases List.mem_append.1 h with h | h
        · exact uniqTo_mem l i x (List.mem_of_mem_take h)
        · rcases List.mem_cons.1 h with rfl | h
          · exact List.mem_of_getElem? hl
          · exact uniqTo_mem l i x (List.mem_of_mem_drop h)
      · exact uniqTo_mem l i x h
theorem upsTo_len (u : List Sp) : ∀ i, i ≤ u.length → (upsTo u i).length = i
  | 0, _ => rfl
  | i + 1, h => by
    rw [upsTo_step (List.getElem?_eq_getElem (show i < u.length by omega)), List.length_append, upsTo_len u i (by omega)]
    rfl
theorem upsTo_mem (u : List Sp) : ∀ i, ∀ a ∈ upsTo u i, ∃ j x, u[j]? = some x ∧ a = upOf u j x
  | 0, a, h => by simp [upsTo] at h
  | i + 1, a, h => by
    rw [upsTo] at h
    cases hl : u[i]? with
    | none => rw [hl] at h; exact upsTo_mem u i a h
    | some y =>
      rw [hl] at h
      rcases List.mem_append.1 h with h | h
      · exact upsTo_mem u i a h
      · rw [List.mem_singleton] at h
        exact ⟨i, y, hl, h⟩
theorem upOf_shift (u : List Sp) (i : Nat) (x : Sp) : (upOf u i x).shift = 0 := by
  unfold upOf
  split
  · rfl
  · split
    · rfl
    · split <;> rfl
theorem oneTr_iff {l : List Sp} {h : Sp} (h0 : l[0]? = some h) : oneTr l = l.all fun y => decide (y.hi = h.hi) && decide (y.lo = h.lo) := by
  cases l with
  | nil => simp at h0
  | cons x l =>
    simp at h0
    subst h0
    rfl
theorem range_foldl_succ {α : Type} (f : α → Nat → α) (s : α) (k : Nat) : (List.range (k + 1)).foldl f s = f ((List.range k).foldl f s) k := by
  rw [List.range_succ, List.foldl_append]
  rfl
set_option maxRecDepth 100000 in
theorem loadK_aeSp {w : World} {b o : Nat} {e : AE} (h : ∀ j, j < 14 → w.cell? ⟨b, o + j, none⟩ = (aeC e)[j]?) : (loadK 43 ⟨b, o, none⟩).run Try.prog w = .ok (spV e.a.s e.A e.n e.c) w :=
  run_loadVar_cells w _ _ ⟨b, o, none⟩ (spC e.a.s e.A e.n e.c).toList Try.underlying43 rfl (by rfl) (fun j v hv => by
    have hj : j < 11 := (List.getElem?_eq_some_iff.1 hv).1
    rw [Addr.add_lit, h j (by omega), ← hv]
    have h14 : ∀ j, j < 11 → (aeC e)[j]? = (spC e.a.s e.A e.n e.c).toList[j]? := by
      intro j hj
      have : j = 0 ∨ j = 1 ∨ j = 2 ∨ j = 3 ∨ j = 4 ∨ j = 5 ∨ j = 6 ∨ j = 7 ∨ j = 8 ∨ j = 9 ∨ j = 10 := by omega
      rcases this with rfl | rfl | rfl | rfl | rfl | rfl | rfl | rfl | rfl | rfl | rfl <;> rfl
    exact h14 j hj)
theorem loadK_ae0 {w : World} {g k : Nat} {e : AE} (h : ∀ j, j < 14 → w.cell? ⟨g, k * 14 + j, none⟩ = (aeC e)[j]?) : (loadK 45 ⟨g, k * 14, none⟩).run Try.prog w = .ok (adV e.a e.A e.n e.c) w := by
  have h1 := loadK_ae (w := w) (b := g) (o := 0) (i := k) (e := e) (fun j hj => by rw [Nat.zero_add]; exact h j hj)
  rwa [Nat.zero_add] at h1
theorem boolinfo : (Try.prog.info? 4).map (fun i => (i.zero, i.size, i.bytes)) = some (some (.bool false), 1, 1) := by kernel_rfl
theorem ajK_skip {i k : Nat} {l : List AE} {ds : List Bool} {x y : AE} {dk : Bool} (hx : l[i]? = some x) (hy : l[k]? = some y) (hd : ds[k]? = some dk) (h : y.a.s.id ≠ x.a.up ∨ dk = false) : ajK i ⟨l.map (·.a), ds⟩ k = ⟨l.map (·.a), ds⟩ := by
  have h1 : (l.map (·.a))[i]? = some x.a := by simp [hx]
  have h2 : (l.map (·.a))[k]? = some y.a := by simp [hy]
  unfold ajK
  simp only [h1, h2, hd]
  cases dk with
  | false => rfl
  | true =>
    rcases h with h | h
    · simp only []
      rw [if_neg h]
    · cases h
theorem ajK_move {i k : Nat} {l : List AE} {ds : List Bool} {x y : AE} (hx : l[i]? = some x) (hy : l[k]? = some y) (hd : ds[k]? = some true) (h : y.a.s.id = x.a.up) : ajK i ⟨l.map (·.a), ds⟩ k = ⟨(l.set i ⟨mvAd x.a y.a, x.A, x.n, x.c⟩).map (·.a), ds.set i true⟩ := by
  have h1 : (l.map (·.a))[i]? = some x.a := by simp [hx]
  have h2 : (l.map (·.a))[k]? = some y.a := by simp [hy]
  unfold ajK
  simp only [h1, h2, hd]
  rw [if_pos h, List.map_set]
theorem ajI_skip {m i : Nat} {l : List AE} {ds : List Bool} {x : AE} (hx : l[i]? = some x) (hd : ds[i]? = some true) : ajI m ⟨l.map (·.a), ds⟩ i = ⟨l.map (·.a), ds⟩ := by
  have h1 : (l.map (·.a))[i]? = some x.a := by simp [hx]
  unfold ajI
  simp only [h1, hd]
theorem ajI_root {m i : Nat} {l : List AE} {ds : List Bool} {x : AE} (hx : l[i]? = some x) (hd : ds[i]? = some false) (h : x.a.up = 0) : ajI m ⟨l.map (·.a), ds⟩ i = ⟨l.map (·.a), ds.set i true⟩ := by
  have h1 : (l.map (·.a))[i]? = some x.a := by simp [hx]
  unfold ajI
  simp only [h1, hd]
  rw [if_pos h]
theorem ajI_look {m i : Nat} {l : List AE} {ds : List Bool} {x : AE} (hx : l[i]? = some x) (hd : ds[i]? = some false) (h : x.a.up ≠ 0) : ajI m ⟨l.map (·.a), ds⟩ i = (List.range m).foldl (ajK i) ⟨l.map (·.a), ds⟩ := by
  have h1 : (l.map (·.a))[i]? = some x.a := by simp [hx]
  unfold ajI
  simp only [h1, hd]
  rw [if_neg h]
theorem AjM.cells {w W : World} {g co m D i : Nat} {l : List AE} {ds : List Bool} {x : AE} (h : AjM w W (some ⟨g, 0, none⟩) co m D l ds) (hx : l[i]? = some x) :
    (∀ j, j < 14 → W.cell? ⟨g, i * 14 + j, none⟩ = (aeC x)[j]?) ∧ AeOk W W.heap.size x ∧ AdGood x.a := by
  obtain ⟨b, o, e1, -, hc, hok⟩ := h.row.rba.get hx
  cases e1
  refine ⟨fun j hj => ?_, hok, h.good x (List.mem_of_getElem? hx)⟩
  have h1 := hc j hj
  rwa [Nat.zero_add] at h1
theorem AjM.doneAt {w W : World} {Ao : Option Addr} {co m D i : Nat} {l : List AE} {ds : List Bool} {d : Bool} (h : AjM w W Ao co m D l ds) (hd : ds[i]? = some d) : W.cell? ⟨D, i, none⟩ = some (.bool d) ∧ W.frozen? ⟨D, i, none⟩ = false := by
  have hi : i < m := by rw [← h.dl]; exact (List.getElem?_eq_some_iff.1 hd).1
  refine ⟨?_, h.don.frozenAt i⟩
  rw [h.don.cellAt i (by omega), List.getElem?_map, hd]
  rfl
set_option maxRecDepth 100000 in
set_option maxHeartbeats 8000000 in
theorem raAdjustM {A : Option Addr} {c n B : Nat} (l : List El) (w : World) (hf : RbS w B A l) (hn : l.length = n) (hB : B ≤ w.heap.size) (hn1 : 1 ≤ n) (hnl : n ≤ 64) (hu : ∀ e ∈ l, e.s.U64) :
    Calls Try.prog 15 #[.slice A n c] w (AdjPost w (adjS (sps l))) := by
  obtain ⟨r, hr⟩ : ∃ r, adjS (sps l) = r := ⟨_, rfl⟩
  rw [hr]
  have hr1 : r = if spErr (sps l) ≠ 0 then ([], spErr (sps l)) else if oneTr (sps l) = false then ([], 2) else ((ajAll (ups (sps l))).o, 0) := by
    rw [← hr, adjS, if_neg (by rw [sps_length]; omega), if_neg (by rw [sps_length]; omega)]
  have HR := Lib.hid hr1
  have HN := Lib.hid hn
  have HU := Lib.hid hu
  obtain ⟨e0, he0⟩ : ∃ e, l[0]? = some e := ⟨_, List.getElem?_eq_getElem (by omega)⟩
  obtain ⟨b, o, eA, hbb, -, -⟩ := hf.get he0
  subst eA
  have HE0 := Lib.hid he0
  have HLE : Hid (∀ {W : World} {k : Nat} {e : El}, Below w.heap.size w W → l[k]? = some e → (loadK 43 ⟨b, o + k * 11, none⟩).run Try.prog W = .ok (spV e.s e.A e.n e.c) W ∧ ElOk W B e ∧ (loadK 40 ⟨b, o + k * 11, none⟩).run Try.prog W = .ok (.agg #[.int .u64 e.s.hi, .int .u64 e.s.lo]) W) := fun {W k e} hW he => by
    obtain ⟨b', o', e', -, hc', hok'⟩ := (hf.below (hW.mono hB)).get he
    cases e'
    exact ⟨loadK_el hc', hok', loadK_tr hc'⟩
  clear hr hr1 hn hu he0
  go_enter Try.func15, Try.ntmps15
  have hn0 : ((n : Int) == 0) = false := by simp; omega
  have hn64 : decide ((64 : Int) < (n : Int)) = false := by simp; omega
  go_wp2_with fail
  go_loopw [4] (fun i_ wr => ∃ i : Nat, i ≤ n ∧ i_ = .int .i64 i ∧ Hid (spErr (sps l) = spErr ((sps l).drop i)) ∧ Below w.heap.size w wr) (fun i _ => n - (intOf i).toNat)
  case atStart => exact ⟨0, by omega, rfl, Lib.hid rfl, Below.refl _ _⟩
  case round =>
    obtain ⟨i, hi, rfl, HG, hb⟩ := hrel
    by_cases hlt : i < n
    · have hlt' : (i : Int) < (n : Int) := by omega
      obtain ⟨e, he⟩ : ∃ e, l[i]? = some e := ⟨_, List.getElem?_eq_getElem (by rw [HN.out]; exact hlt)⟩
      obtain ⟨ld, hok, -⟩ := HLE.out hb he
      have hst := spErr_drop (sps_get he)
      have cc := rSpCheck (c := e.c) e.s wr hok.rd hok.len (Nat.le_trans hB hb.size) hok.max
      obtain ⟨ck, hck⟩ : ∃ ck, spChk e.s = ck := ⟨_, rfl⟩
      rw [hck] at cc hst
      rw [← HG.out] at hst
      have HST := Lib.hid hst
      clear hst hck hok he HG
      go_wp2_with fail
      refine cc.mono ?_
      rintro en w3 ⟨rfl, hb3⟩
      have hb4 := hb.trans (hb3.mono hb.size)
      by_cases h0 : ck = 0
      · subst h0
        go_wp2_with fail
        exact ⟨⟨i + 1, by omega, by go_num, Lib.hid (by rw [HST.out]; simp), hb4⟩, by simp only [intOf]; omega⟩
      · have h0' : ((ck : Int) != 0) = true := by simp; omega
        have hre : r = ([], ck) := by rw [HR.out, HST.out, if_pos h0, if_pos h0]
        subst hre
        go_wp2_with fail
        go_ret2
        exact AdjPost.no hb4
    · have hlt' : decide ((i : Int) < (n : Int)) = false := by simp; omega
      have hz : spErr (sps l) = 0 := by rw [HG.out, List.drop_eq_nil_of_le (by rw [sps_length, HN.out]; omega)]; rfl
      have HZ := Lib.hid hz
      clear hz HG
      go_wp2_with fail
      have HBO := Lib.hid hb
      obtain ⟨wO, hwO⟩ : ∃ wO, wO = wr := ⟨_, rfl⟩
      subst hwO
      clear hb hlt hlt' hi
      go_loopw [6] (fun i_ wr2 => ∃ i : Nat, i ≤ n ∧ i_ = .int .i64 i ∧ Hid (((sps l).take i).all (fun y => decide (y.hi = e0.s.hi) && decide (y.lo = e0.s.lo)) = true) ∧ Below w.heap.size w wr2) (fun i _ => n - (intOf i).toNat)
      case atStart => exact ⟨0, by omega, rfl, Lib.hid (by simp), HBO.out⟩
      case round =>
        obtain ⟨j, hj, rfl, HG, hb⟩ := hrel
        by_cases hlt : j < n
        · have hlt' : (j : Int) < (n : Int) := by omega
          have hn0' : (0 : Int) < (n : Int) := by omega
          have hn0n : 0 < n := by omega
          obtain ⟨e, he⟩ : ∃ e, l[j]? = some e := ⟨_, List.getElem?_eq_getElem (by rw [HN.out]; exact hlt)⟩
          have hbd := below_drewN hb 1
          have lt1 := (HLE.out (W := wr.drew) hbd he).2.2
          have lt0 := (HLE.out (W := wr.drew) hbd HE0.out).2.2
          rw [Nat.zero_mul, Nat.add_zero] at lt0
          have hst : ((sps l).take (j + 1)).all (fun y => decide (y.hi = e0.s.hi) && decide (y.lo = e0.s.lo)) = (decide (e.s.hi = e0.s.hi) && decide (e.s.lo = e0.s.lo)) := by
            rw [take_snoc (sps_get he), List.all_append, HG.out]
            simp
          obtain ⟨tb, htb⟩ : ∃ tb, (decide (e.s.hi = e0.s.hi) && decide (e.s.lo = e0.s.lo)) = tb := ⟨_, rfl⟩
          have nq := fun W => neqTrc W e.s.hi e.s.lo e0.s.hi e0.s.lo
          rw [htb] at hst
          simp only [htb] at nq
          have HST := Lib.hid hst
          have HE := Lib.hid he
          clear hst he htb HG
          go_wp2_with fail
          go_region_held3 (fun w' => (loadK 40 ⟨b, o + j * 11, none⟩).run Try.prog w' = .ok (.agg #[.int .u64 e.s.hi, .int .u64 e.s.lo]) w' ∧ (loadK 40 ⟨b, o, none⟩).run Try.prog w' = .ok (.agg #[.int .u64 e0.s.hi, .int .u64 e0.s.lo]) w')
            (exact ⟨lt1, lt0⟩) (fail)
          cases tb with
          | true =>
            go_wp2_with fail
            exact ⟨⟨j + 1, by omega, by go_num, Lib.hid HST.out, hbd⟩, by simp only [intOf]; omega⟩
          | false =>
            have hot : oneTr (sps l) = false := by
              rw [oneTr_iff (sps_get HE0.out), List.all_eq_false]
              have h1 := HST.out
              rw [List.all_eq_false] at h1
              obtain ⟨y, hy, hy2⟩ := h1
              exact ⟨y, List.mem_of_mem_take hy, hy2⟩
            have hre : r = ([], 2) := by rw [HR.out, HZ.out, if_neg (by simp), if_pos hot]
            subst hre
            go_wp2_with fail
            go_ret2
            exact AdjPost.no hbd
        · have hlt' : decide ((j : Int) < (n : Int)) = false := by simp; omega
          have hot : oneTr (sps l) = true := by
            have h1 := HG.out
            rw [List.take_of_length_le (by rw [sps_length, HN.out]; omega)] at h1
            rw [oneTr_iff (sps_get HE0.out)]
            exact h1
          have hre : r = ((ajAll (ups (sps l))).o, 0) := by rw [HR.out, HZ.out, if_neg (by simp), if_neg (by rw [hot]; simp)]
          have hck := spErr_zero HZ.out
          have hsm : ∀ e ∈ l, e.n ≤ 1000000 := fun e he => by
            have h1 := (spChk_parts (hck e.s (List.mem_map.2 ⟨e, he, rfl⟩))).2.1
            obtain ⟨k, hk⟩ := List.getElem?_of_mem he
            have h2 := (HLE.out hb hk).2.1.len
            omega
          have hum : ∀ s ∈ uniq (sps l), s ∈ sps l := fun s hs => uniqTo_mem _ _ s hs
          have hfr : RbS wr B (some ⟨b, o, none⟩) l := hf.below (hb.mono hB)
          have cu := raUp (c := c) wr hfr HN.out (Nat.le_trans hB hb.size) (by omega) hsm (fun s hs => by
            obtain ⟨e, he, rfl⟩ := List.mem_map.1 (hum s hs)
            exact HU.out e he)
          obtain ⟨st0, hst0⟩ : ∃ st0, ups (sps l) = st0 := ⟨_, rfl⟩
          have hgood : ∀ a ∈ st0, a.s.Tim ∧ a.shift = 0 := fun a ha => by
            rw [← hst0] at ha
            obtain ⟨k, x, hx, rfl⟩ := upsTo_mem _ _ a ha
            rw [upOf_s, upOf_shift]
            exact ⟨(spChk_parts (hck x (hum x (List.mem_of_getElem? hx)))).1, rfl⟩
          have hlen : st0.length ≤ 64 := by
            rw [← hst0, ups, upsTo_len _ _ (Nat.le_refl _)]
            have h1 := uniqTo_len (sps l) (sps l).length
            rw [sps_length, HN.out] at h1
            show (uniqTo (sps l) (sps l).length).length ≤ 64
            rw [sps_length, HN.out]
            omega
          rw [hst0] at cu hre
          have HRE := Lib.hid hre
          have HGOOD := Lib.hid hgood
          have HLEN := Lib.hid hlen
          clear hre hot hck hsm hum hst0 hgood hlen HG HU HZ HR
          go_wp2_with fail
          refine cu.mono ?_
          rintro en w1 ⟨Ao, co, m, la, rfl, hla, hra, hb1⟩
          have hb01 := hb.trans (hb1.mono hb.size)
          have hml : la.length = m := hra.len
          have hm64 : m ≤ 64 := by
            have h1 := HLEN.out
            rw [← hla, List.length_map, hml] at h1
            exact h1
          obtain ⟨ib, hib, hz0, hz1, hz2⟩ := info_parts boolinfo
          have hmk := run_makeSlice_full (P := Try.prog) w1 w.heap.size 76 4 ib (.bool false) 1 Try.underlying76 hib hz0 hz1 .i64 .i64 m (by omega) (by rw [hz2]; omega) (by simp only [maxLen]; omega) hb01.size
          obtain ⟨w2, hmk1, hmk2, hmk3⟩ := hmk
          go_wp2_with fail
          have hbm : Below w1.heap.size w1 w2 := (Below.refl _ w1).grown hmk3 (Nat.le_refl _) (fun k hk => by cases hk)
          have hds : (madeCells (Value.cells (.bool false)) (m * 1)).toList = (List.replicate m false).map Value.bool := by
            show (madeCells #[Value.bool false] (m * 1)).toList = _
            rw [toList_madeCells_one, Nat.mul_one, List.map_replicate]
          rw [hds] at hmk2
          have hm0 : AjM w w2 Ao co m w1.heap.size la (List.replicate m false) := by
            refine ⟨?_, hmk2, fun k hk e => ?_, fun e he ht q hq e1 => ?_, fun e he => ?_, hb01.trans (hbm.mono hb01.size)⟩
            · have h1 := hra.bS hbm
              exact ⟨own_baseA h1.own hb.size, h1.len, h1.ok, h1.far⟩
            · have := (hra.own_lt k hk).1
              omega
            · obtain ⟨b', o', hA', hlt', _⟩ := (hra.ok e he).rd (by intro e0; have := tgs_length e.a.s.tags; rw [e0] at this; exact ht (List.eq_nil_of_length_eq_zero (by simp at this; omega)))
              rw [hq] at hA'
              have e3 := Option.some.inj hA'
              subst e3
              simp only at e1
              omega
            · have h1 := HGOOD.out e.a (by rw [← hla]; exact List.mem_map.2 ⟨e, he, rfl⟩)
              exact ⟨h1.1, by rw [h1.2]; omega, by rw [h1.2]; omega, (hra.ok e he).ok⟩
          obtain ⟨D, hD⟩ : ∃ D, w1.heap.size = D := ⟨_, rfl⟩
          rw [hD] at hm0 ⊢
          have HM0 := Lib.hid hm0
          have HLA := Lib.hid hla
          have hst0l : st0.length = m := by rw [← hla, List.length_map, hml]
          have HS0 := Lib.hid hst0l
          clear hm0 hla hmk1 hmk2 hmk3 hbm hds hra hml hD hb1 hb01 cu HLE hfr hz0 hz1 hz2 hib hst0l
          go_loopw [9] (fun n_ wr3 => ∃ (nn : Nat) (l' : List AE) (ds : List Bool), nn ≤ m ∧ n_ = .int .i64 nn ∧ AjM w wr3 Ao co m D l' ds ∧ Hid ((⟨l'.map (·.a), ds⟩ : AjS) = (List.range nn).foldl (ajN m) ⟨st0, List.replicate m false⟩)) (fun n_ _ => m - (intOf n_).toNat)
          case atStart => exact ⟨0, la, _, by omega, rfl, HM0.out, Lib.hid (by rw [HLA.out]; rfl)⟩
          case round =>
            obtain ⟨nn, l1, d1, hnn, rfl, hm1, HN1⟩ := hrel
            by_cases hnm : nn < m
            · have hnm' : (nn : Int) < (m : Int) := by omega
              have HM1 := Lib.hid hm1
              clear hm1
              obtain ⟨wN, hwN⟩ : ∃ wN, wN = wr := ⟨_, rfl⟩
              subst hwN
              go_wp2_with fail
              go_loopw [10] (fun i_ wr4 => ∃ (i : Nat) (l' : List AE) (ds : List Bool), i ≤ m ∧ i_ = .int .i64 i ∧ AjM w wr4 Ao co m D l' ds ∧ Hid ((⟨l'.map (·.a), ds⟩ : AjS) = (List.range i).foldl (ajI m) ⟨l1.map (·.a), d1⟩)) (fun i_ _ => m - (intOf i_).toNat)
              case atStart => exact ⟨0, l1, d1, by omega, rfl, HM1.out, Lib.hid rfl⟩
              case round =>
                obtain ⟨q, l2, d2, hq, rfl, hm2, HN2⟩ := hrel
                by_cases hqm : q < m
                · have hqm' : (q : Int) < (m : Int) := by omega
                  obtain ⟨x, hx⟩ : ∃ x, l2[q]? = some x := ⟨_, List.getElem?_eq_getElem (by rw [hm2.row.len]; exact hqm)⟩
                  obtain ⟨dq, hdq⟩ : ∃ dq, d2[q]? = some dq := ⟨_, List.getElem?_eq_getElem (by rw [hm2.dl]; exact hqm)⟩
                  have hg : ∃ g, Ao = some ⟨g, 0, none⟩ := by
                    rcases hm2.row.own.2 with ⟨-, h0⟩ | ⟨g, cap, cur, h1, -⟩
                    · omega
                    · injection h1 with h2
                      exact ⟨g, h2⟩
                  obtain ⟨g, rfl⟩ := hg
                  obtain ⟨cd, fd⟩ := hm2.doneAt hdq
                  obtain ⟨hcx, -, -⟩ := hm2.cells hx
                  have cup : wr.cell? ⟨g, q * 14 + 11, none⟩ = some (.int .u64 x.a.up) := hcx 11 (by omega)
                  obtain ⟨up, hup⟩ : ∃ up, x.a.up = up := ⟨_, rfl⟩
                  rw [hup] at cup
                  have hm2d := hm2.done q
                  have hstp : ∀ st, st = ajI m ⟨l2.map (·.a), d2⟩ q → st = (List.range (q + 1)).foldl (ajI m) ⟨l1.map (·.a), d1⟩ := fun st h => by
                    rw [range_foldl_succ, ← HN2.out]; exact h
                  have HSTP := Lib.hid hstp
                  have HM2 := Lib.hid hm2
                  have HM2D := Lib.hid hm2d
                  have HX := Lib.hid hx
                  have HDQ := Lib.hid hdq
                  have HUP := Lib.hid hup
                  clear hstp hm2 hm2d hx hdq hup hcx
                  cases dq with
                  | true =>
                    go_wp2_with fail
                    exact ⟨⟨q + 1, l2, d2, by omega, by go_num, HM2.out, Lib.hid (HSTP.out _ (ajI_skip HX.out HDQ.out).symm)⟩, by simp only [intOf]; omega⟩
                  | false =>
                    by_cases hup0 : up = 0
                    · subst hup0
                      go_wp2_with fail
                      exact ⟨⟨q + 1, l2, _, by omega, by go_num, HM2D.out, Lib.hid (HSTP.out _ (ajI_root HX.out HDQ.out HUP.out).symm)⟩, by simp only [intOf]; omega⟩
                    · have hup0' : ((up : Int) == 0) = false := by simp; omega
                      have hlk := ajI_look (m := m) HX.out HDQ.out (by rw [HUP.out]; exact hup0)
                      have HLK := Lib.hid hlk
                      clear hlk
                      go_wp2_with fail
                      clear cd fd cup HDQ HX HUP hup0 hup0'
                      obtain ⟨wQ, hwQ⟩ : ∃ wQ, wQ = wr := ⟨_, rfl⟩
                      subst hwQ
                      go_loopw [11] (fun k_ wr5 => ∃ (k : Nat) (l' : List AE) (ds : List Bool), k ≤ m ∧ k_ = .int .i64 k ∧ AjM w wr5 (some ⟨g, 0, none⟩) co m D l' ds ∧ Hid ((⟨l'.map (·.a), ds⟩ : AjS) = (List.range k).foldl (ajK q) ⟨l2.map (·.a), d2⟩)) (fun k_ _ => m - (intOf k_).toNat)
                      case atStart => exact ⟨0, l2, d2, by omega, rfl, HM2.out, Lib.hid rfl⟩
                      case round =>
                        obtain ⟨k, l3, d3, hk, rfl, hm3, HN3⟩ := hrel
                        by_cases hkm : k < m
                        · have hkm' : (k : Int) < (m : Int) := by omega
                          obtain ⟨x, hx⟩ : ∃ x, l3[q]? = some x := ⟨_, List.getElem?_eq_getElem (by rw [hm3.row.len]; exact hqm)⟩
                          obtain ⟨y, hy⟩ : ∃ y, l3[k]? = some y := ⟨_, List.getElem?_eq_getElem (by rw [hm3.row.len]; exact hkm)⟩
                          obtain ⟨dq, hdq⟩ : ∃ dq, d3[q]? = some dq := ⟨_, List.getElem?_eq_getElem (by rw [hm3.dl]; exact hqm)⟩
                          obtain ⟨dk, hdk⟩ : ∃ dk, d3[k]? = some dk := ⟨_, List.getElem?_eq_getElem (by rw [hm3.dl]; exact hkm)⟩
                          obtain ⟨cdk, -⟩ := hm3.doneAt hdk
                          have cup : wr.cell? ⟨g, q * 14 + 11, none⟩ = some (.int .u64 x.a.up) := (hm3.cells hx).1 11 (by omega)
                          have cid : wr.cell? ⟨g, k * 14 + 2, none⟩ = some (.int .u64 y.a.s.id) := (hm3.cells hy).1 2 (by omega)
                          obtain ⟨up, hup⟩ : ∃ up, x.a.up = up := ⟨_, rfl⟩
                          obtain ⟨yid, hyid⟩ : ∃ yid, y.a.s.id = yid := ⟨_, rfl⟩
                          rw [hup] at cup
                          rw [hyid] at cid
                          have hstp : ∀ st, st = ajK q ⟨l3.map (·.a), d3⟩ k → st = (List.range (k + 1)).foldl (ajK q) ⟨l2.map (·.a), d2⟩ := fun st h => by
                            rw [range_foldl_succ, ← HN3.out]; exact h
                          have HSTP := Lib.hid hstp
                          have HM3 := Lib.hid hm3
                          have HX := Lib.hid hx
                          have HY := Lib.hid hy
                          have HDQ := Lib.hid hdq
                          have HDK := Lib.hid hdk
                          have HUP := Lib.hid hup
                          have HYID := Lib.hid hyid
                          clear hstp hm3 hx hy hdq hdk hup hyid
                          by_cases hie : yid = up
                          · have hie' : ((yid : Int) == (up : Int)) = true := by simp; omega
                            cases dk with
                            | false =>
                              go_wp2_with fail
                              go_quiet (fail)
                              go_wp2_with fail
                              exact ⟨⟨k + 1, l3, d3, by omega, by go_num, HM3.out.later (below_drewN (Below.refl _ _) _), Lib.hid (HSTP.out _ (ajK_skip HX.out HY.out HDK.out (.inr rfl)).symm)⟩, by simp only [intOf]; omega⟩
                            | true =>
                              go_wp2_with fail
                              go_quiet (fail)
                              have hmv := HSTP.out _ (ajK_move HX.out HY.out HDK.out (by rw [HYID.out, HUP.out]; exact hie)).symm
                              have HMV := Lib.hid hmv
                              clear hmv hie hie' cup cid cdk HYID HUP
                              have hm4 := HM3.out.later (below_drewN (Below.refl wr.heap.size wr) nq)
                              obtain ⟨W0, hW0⟩ : ∃ W0, wr.drewN nq = W0 := ⟨_, rfl⟩
                              rw [hW0] at hm4 ⊢
                              clear hW0 HM3
                              obtain ⟨cdq, fdq⟩ := hm4.doneAt HDQ.out
                              have hm5 := hm4.done q
                              go_upto_region 32 with fail
                              obtain ⟨W1, hW1⟩ : ∃ W1, W0.setCell ⟨D, q, none⟩ (.bool true) = W1 := ⟨_, rfl⟩
                              rw [hW1] at hm5 ⊢
                              clear hW1 hm4 cdq fdq
                              have hm6 := hm5.later (below_drewN (Below.refl W1.heap.size W1) 1)
                              obtain ⟨hcx, hokx, hgx⟩ := hm6.cells HX.out
                              obtain ⟨hcy, hoky, hgy⟩ := hm6.cells HY.out
                              have lsx : (loadK 43 ⟨g, q * 14, none⟩).run Try.prog W1.drew = .ok (spV x.a.s x.A x.n x.c) W1.drew := loadK_aeSp hcx
                              have lay : (loadK 45 ⟨g, k * 14, none⟩).run Try.prog W1.drew = .ok (adV y.a y.A y.n y.c) W1.drew := loadK_ae0 hcy
                              have csh := raShift (A1 := x.A) (n1 := x.n) (c1 := x.c) (A2 := y.A) (n2 := y.n) (c2 := y.c) x.a.s y.a W1.drew hgx.tim hgy.tim
                              obtain ⟨v, hv⟩ : ∃ v, shiftS x.a.s y.a = v := ⟨_, rfl⟩
                              have hvr := shiftS_rng hgx.tim hgy
                              rw [hv] at csh hvr
                              have HV := Lib.hid hv
                              have HM6 := Lib.hid hm6
                              have HGX := Lib.hid hgx
                              have HCS := Lib.hid csh
                              clear hm5 hm6 hokx hgx hoky hgy hcx hcy hv csh
                              go_region_with
                                (first
                                  | (go_at_call 40
                                     refine HCS.out.mono ?_
                                     rintro en w5 ⟨rfl, hb5⟩
                                     have hm7 := HM6.out.later hb5
                                     have c12 : w5.cell? ⟨g, q * 14 + 12, none⟩ = some (.int .i64 x.a.shift) := (hm7.cells HX.out).1 12 (by omega)
                                     have z12 : w5.frozen? ⟨g, q * 14 + 12, none⟩ = false := hm7.row.own.frozenAt _
                                     have HM7 := Lib.hid hm7
                                     clear hm7)
                                  | fail)
                              all_goals
                                have hm8 := HM7.out.put (j := 12) (e' := ⟨⟨x.a.s, x.a.up, v, x.a.flag⟩, x.A, x.n, x.c⟩) (u := .int .i64 v) HX.out (by omega) rfl rfl rfl rfl (HGX.out.shift hvr.1 hvr.2)
                                obtain ⟨W2, hW2⟩ : ∃ W2, w5.setCell ⟨g, q * 14 + 12, none⟩ (.int .i64 v) = W2 := ⟨_, rfl⟩
                                rw [hW2] at hm8 ⊢
                                have hx8 : (l3.set q ⟨⟨x.a.s, x.a.up, v, x.a.flag⟩, x.A, x.n, x.c⟩)[q]? = some ⟨⟨x.a.s, x.a.up, v, x.a.flag⟩, x.A, x.n, x.c⟩ := List.getElem?_set_self (by have := (List.getElem?_eq_some_iff.1 HX.out).1; exact this)
                                obtain ⟨hc8, -, -⟩ := hm8.cells hx8
                                have c7 : W2.cell? ⟨g, q * 14 + 7, none⟩ = some (.int .i64 x.a.s.start) := hc8 7 (by omega)
                                have c8 : W2.cell? ⟨g, q * 14 + 8, none⟩ = some (.int .i64 x.a.s.length) := hc8 8 (by omega)
                                have d12 : W2.cell? ⟨g, q * 14 + 12, none⟩ = some (.int .i64 v) := hc8 12 (by omega)
                                have z7 : W2.frozen? ⟨g, q * 14 + 7, none⟩ = false := hm8.row.own.frozenAt _
                                have hrg := mvAd_rng HGX.out (x.a.s.start + v)
                                have ht1 := HGX.out.tim.s0
                                have ht2 := HGX.out.tim.l0
                                have ht3 := HGX.out.tim.sum
                                obtain ⟨sa, hsa⟩ : ∃ sa, x.a.s.start = sa := ⟨_, rfl⟩
                                obtain ⟨sl, hsl⟩ : ∃ sl, x.a.s.length = sl := ⟨_, rfl⟩
                                rw [hsa] at c7 ht1 ht3 hrg
                                rw [hsl] at c8 ht2 ht3 hrg
                                have HM8 := Lib.hid hm8
                                have HX8 := Lib.hid hx8
                                have HSA := Lib.hid hsa
                                have HSL := Lib.hid hsl
                                have HRG := Lib.hid hrg
                                have hw1 : IntKind.i64.wrap (sa + v) = sa + v := IntWalk.i64_in _ ⟨by omega, by omega⟩
                                have hw2 : IntKind.i64.wrap (4611686018427387903 - sl) = 4611686018427387903 - sl := IntWalk.i64_in _ ⟨by omega, by omega⟩
                                clear hc8 hm8 hx8 hsa hsl hW2 c12 z12 HM7 HM6 HCS lsx lay hrg
                                go_wp2_with fail
                                go_region_held3 (fun w' => w'.cell? ⟨g, q * 14 + 7, none⟩ = some (.int .i64 sa) ∧ w'.cell? ⟨g, q * 14 + 12, none⟩ = some (.int .i64 v)) (go_keep) (fail)
                                obtain ⟨tt, htt⟩ : ∃ tt, (if 0 < sa + v then sa + v else 0) = tt := ⟨_, rfl⟩
                                have htm : tt = max 0 (sa + v) := by rw [← htt]; split <;> omega
                                rw [htt]
                                have HTM := Lib.hid htm
                                have hm9 := HM8.out.later (below_drewN (Below.refl W2.heap.size W2) 1)
                                obtain ⟨W3, hW3⟩ : ∃ W3, W2.drew = W3 := ⟨_, rfl⟩
                                have hm9' : AjM w W3 (some ⟨g, 0, none⟩) co m D (l3.set q ⟨⟨x.a.s, x.a.up, v, x.a.flag⟩, x.A, x.n, x.c⟩) (d3.set q true) := by rw [← hW3]; exact hm9
                                have c8' : W3.cell? ⟨g, q * 14 + 8, none⟩ = some (.int .i64 sl) := by rw [← hW3]; exact c8
                                have c7' : W3.cell? ⟨g, q * 14 + 7, none⟩ = some (.int .i64 sa) := by rw [← hW3]; exact c7
                                have z7' : W3.frozen? ⟨g, q * 14 + 7, none⟩ = false := by rw [← hW3]; exact z7
                                rw [hW3]
                                have HM9 := Lib.hid hm9'
                                clear hm9 hm9' hW3 htt htm c7 c8 z7 d12 hw1
                                go_wp2_with fail
                                have hR : (if 4611686018427387903 - sl < tt then 4611686018427387903 - sl else tt) = min (max 0 (sa + v)) (4611686018427387903 - sl) := by rw [HTM.out]; split <;> omega
                                rw [hR]
                                have heq : (⟨⟨{ x.a.s with start := min (max 0 (sa + v)) (4611686018427387903 - sl) }, x.a.up, v, x.a.flag⟩, x.A, x.n, x.c⟩ : AE) = ⟨mvAd x.a y.a, x.A, x.n, x.c⟩ := by
                                  unfold mvAd
                                  rw [HV.out, HSA.out, HSL.out]
                                have hm10 := HM9.out.put (j := 7) (e' := ⟨⟨{ x.a.s with start := min (max 0 (sa + v)) (4611686018427387903 - sl) }, x.a.up, v, x.a.flag⟩, x.A, x.n, x.c⟩) (u := .int .i64 (min (max 0 (sa + v)) (4611686018427387903 - sl))) HX8.out (by omega) rfl rfl rfl rfl ((HGX.out.shift hvr.1 hvr.2).start HRG.out.1 (by show _ ≤ 4611686018427387903 - x.a.s.length; rw [HSL.out]; exact HRG.out.2))
                                exact ⟨⟨k + 1, _, _, by omega, by go_num, hm10, Lib.hid (by rw [List.set_set, heq]; exact HMV.out)⟩, by simp only [intOf]; omega⟩
                          · have hie' : ((yid : Int) == (up : Int)) = false := by simp; omega
                            go_wp2_with fail
                            go_quiet (fail)
                            go_wp2_with fail
                            exact ⟨⟨k + 1, l3, d3, by omega, by go_num, HM3.out.later (below_drewN (Below.refl _ _) _), Lib.hid (HSTP.out _ (ajK_skip HX.out HY.out HDK.out (.inl (by rw [HYID.out, HUP.out]; exact hie))).symm)⟩, by simp only [intOf]; omega⟩
                        · have hkm' : decide ((k : Int) < (m : Int)) = false := by simp; omega
                          obtain rfl : k = m := by omega
                          go_wp2_with fail
                          exact ⟨⟨q + 1, l3, d3, by omega, by go_num, hm3, Lib.hid (HSTP.out _ (by rw [HLK.out]; exact HN3.out))⟩, by simp only [intOf]; omega⟩
                · have hqm' : decide ((q : Int) < (m : Int)) = false := by simp; omega
                  obtain rfl : q = m := by omega
                  go_wp2_with fail
                  exact ⟨⟨nn + 1, l2, d2, by omega, by go_num, hm2, Lib.hid (by rw [range_foldl_succ, ← HN1.out]; exact HN2.out)⟩, by simp only [intOf]; omega⟩
            · have hnm' : decide ((nn : Int) < (m : Int)) = false := by simp; omega
              obtain rfl : nn = m := by omega
              go_wp2_with fail
              go_ret2
              have hfin : l1.map (·.a) = (ajAll st0).o := by
                rw [ajAll, HS0.out, ← HN1.out]
              have hll : l1.length = nn := hm1.row.len
              have hre := HRE.out
              rw [← hfin] at hre
              subst hre
              refine ⟨Ao, co, l1, ?_, rfl, hm1.row.rba, hm1.bel, ?_⟩
              · show _ = Ending.returned (.tuple #[.slice Ao (l1.map (·.a)).length co, .int .i64 0])
                rw [List.length_map, hll]
                rfl
              · rw [List.length_map, hll]
                exact hm1.row.cap
end Go.Proofs.Ythaiplhjekkooaa

/- The document's layer 21: Adjust, of any number of spans. -/
namespace Go.Proofs.Ythaiplhjekkooaa
open Go.RowKit

theorem raAdjust0 {A : Option Addr} {c : Nat} (w : World) : Calls Try.prog 15 #[.slice A 0 c] w (AdjPost w ([], 2)) := by
  go_enter Try.func15, Try.ntmps15
  go_wp2_with fail
  go_ret2
  exact AdjPost.no (Below.refl _ _)
theorem raAdjustL {A : Option Addr} {n c : Nat} (w : World) (h : 64 < n) : Calls Try.prog 15 #[.slice A n c] w (AdjPost w ([], 3)) := by
  have h0 : ((n : Int) == 0) = false := by simp; omega
  have h1 : decide ((64 : Int) < (n : Int)) = true := by simp; omega
  have h2 : (64 : Int) < (n : Int) := by omega
  go_enter Try.func15, Try.ntmps15
  go_wp2_with fail
  go_ret2
  exact AdjPost.no (Below.refl _ _)
theorem raAdjust {A : Option Addr} {c n B : Nat} (l : List El) (w : World) (hf : RbS w B A l) (hn : l.length = n) (hB : B ≤ w.heap.size) (hu : ∀ e ∈ l, e.s.U64) :
    Calls Try.prog 15 #[.slice A n c] w (AdjPost w (adjS (sps l))) := by
  by_cases h0 : n = 0
  · subst h0
    have : adjS (sps l) = ([], 2) := by rw [adjS, if_pos (by rw [sps_length, hn])]
    rw [this]
    exact raAdjust0 w
  · by_cases h1 : 64 < n
    · have : adjS (sps l) = ([], 3) := by rw [adjS, if_neg (by rw [sps_length, hn]; exact h0), if_pos (by rw [sps_length, hn]; exact h1)]
      rw [this]
      exact raAdjustL w h1
    · exact raAdjustM l w hf hn hB (by omega) (by omega) hu
end Go.Proofs.Ythaiplhjekkooaa

/- The document's layer 21, plain: what Adjust's answer is: IDs rise, one trace, each span may be. -/
namespace Go.Proofs.Ythaiplhjekkooaa
open Go.RowKit

theorem fstTo_at {l : List Sp} {x y : Sp} {i n k : Nat} (h : fstTo l x i n = true) (hk : k < n) (hy : l[k]? = some y) : ahd x y k i = false := by
  have h1 := List.all_eq_true.1 h k (List.mem_range.2 hk)
  rw [hy] at h1
  simpa using h1
theorem fstTo_of {l : List Sp} {x : Sp} {i n : Nat} (h : ∀ k y, k < n → l[k]? = some y → ahd x y k i = false) : fstTo l x i n = true := by
  rw [fstTo, List.all_eq_true]
  intro k hk
  cases hy : l[k]? with
  | none => rfl
  | some y => simp [h k y (List.mem_range.1 hk) hy]
theorem ahd_iff {x y : Sp} {k i : Nat} : ahd x y k i = true ↔ y.id = x.id ∧ (spCmp y x < 0 ∨ (spCmp y x = 0 ∧ k < i)) := by
  simp [ahd]
theorem ahd_not {x y : Sp} {k i : Nat} : ahd x y k i = false ↔ ¬ (y.id = x.id ∧ (spCmp y x < 0 ∨ (spCmp y x = 0 ∧ k < i))) := by
  rw [← ahd_iff, Bool.not_eq_true]
theorem spCmp_self (x : Sp) : spCmp x x = 0 := (spCmp_cmp.eq x x).2 rfl
/-- Two first ones of one ID are one. -/
theorem fst_one {l : List Sp} {i j : Nat} {x y : Sp} (hx : l[i]? = some x) (hy : l[j]? = some y) (fx : fstTo l x i l.length = true) (fy : fstTo l y j l.length = true) (hji : j < i) : x.id ≠ y.id := fun e => by
  have h1 := ahd_not.1 (fstTo_at fx (List.getElem?_eq_some_iff.1 hy).1 hy)
  have h2 := ahd_not.1 (fstTo_at fy (List.getElem?_eq_some_iff.1 hx).1 hx)
  have h3 := spCmp_cmp.neg x y
  have h4 : ¬ spCmp y x < 0 := fun h => h1 ⟨e.symm, .inl h⟩
  have h5 : ¬ spCmp y x = 0 := fun h => h1 ⟨e.symm, .inr ⟨h, hji⟩⟩
  have h6 : ¬ spCmp x y < 0 := fun h => h2 ⟨e, .inl h⟩
  omega
/-- Among the first n there is a first one. -/
theorem fst_some (l : List Sp) : ∀ n, 0 < n → n ≤ l.length → ∃ i x, i < n ∧ l[i]? = some x ∧ fstTo l x i n = true
  | 0, h, _ => by omega
  | n + 1, _, hn => by
    obtain ⟨z, hz⟩ : ∃ z, l[n]? = some z := ⟨_, List.getElem?_eq_getElem (by omega)⟩
    by_cases h0 : n = 0
    · subst h0
      refine ⟨0, z, by omega, hz, fstTo_of fun k y hk hy => ?_⟩
      have : k = 0 := by omega
      subst this
      rw [hz] at hy
      cases hy
      rw [ahd_not, spCmp_self]
      omega
    · obtain ⟨i, x, hi, hx, hf⟩ := fst_some l n (by omega) (by omega)
      by_cases hc : ahd x z n i = true
      · obtain ⟨e1, e2⟩ := ahd_iff.1 hc
        have hzx : spCmp z x < 0 := by
          rcases e2 with h | ⟨-, h⟩
          · exact h
          · omega
        refine ⟨n, z, by omega, hz, fstTo_of fun k y hk hy => ?_⟩
        by_cases hkn : k = n
        · subst hkn
          rw [hz] at hy
          cases hy
          rw [ahd_not, spCmp_self]
          omega
        · have h1 := ahd_not.1 (fstTo_at hf (show k < n by omega) hy)
          rw [ahd_not]
          rintro ⟨e3, e4⟩
          refine h1 ⟨e3.trans e1, .inl ?_⟩
          have r1 := spCmp_cmp.rng y z
          have r2 := spCmp_cmp.rng z x
          rcases e4 with h | ⟨h, -⟩
          · have := spCmp_cmp.tr y z x (by omega) (by omega)
            omega
          · have := (spCmp_cmp.eq y z).1 h
            rw [this]
            exact hzx
      · refine ⟨i, x, by omega, hx, fstTo_of fun k y hk hy => ?_⟩
        by_cases hkn : k = n
        · subst hkn
          rw [hz] at hy
          cases hy
          simpa using hc
        · exact fstTo_at hf (by omega) hy
/-- IDs that rise. -/
def RisId (u : List Sp) : Prop := u.Pairwise fun a b => a.id < b.id
theorem insK_drop (id : Nat) (out : List Sp) : ∀ k, k ≤ out.length → (∀ y ∈ out.drop k, id < y.id) → ∀ y ∈ out.drop (insK id out k), id < y.id
  | 0, _, h => h
  | k + 1, hk, h => by
    obtain ⟨z, hz⟩ : ∃ z, out[k]? = some z := ⟨_, List.getElem?_eq_getElem (by omega)⟩
    rw [insK_step hz]
    by_cases hl : id < z.id
    · rw [if_pos hl]
      refine insK_drop id out k (by omega) fun y hy => ?_
      obtain ⟨h1, h2⟩ := List.getElem?_eq_some_iff.1 hz
      rw [List.drop_eq_getElem_cons h1, h2] at hy
      rcases List.mem_cons.1 hy with rfl | hy
      · exact hl
      · exact h y hy
    · rw [if_neg hl]
      exact h
theorem insK_last (id : Nat) (out : List Sp) : ∀ k, k ≤ out.length → ∀ j y, insK id out k = j + 1 → out[j]? = some y → y.id ≤ id
  | 0, _, j, y, h, _ => by rw [insK] at h; omega
  | k + 1, hk, j, y, h, hy => by
    obtain ⟨z, hz⟩ : ∃ z, out[k]? = some z := ⟨_, List.getElem?_eq_getElem (by omega)⟩
    rw [insK_step hz] at h
    by_cases hl : id < z.id
    · rw [if_pos hl] at h
      exact insK_last id out k (by omega) j y h hy
    · rw [if_neg hl] at h
      have : j = k := by omega
      subst this
      rw [hz] at hy
      cases hy
      omega
theorem insAt_ris {x : Sp} {out : List Sp} (h : RisId out) (hne : ∀ y ∈ out, y.id ≠ x.id) : RisId (insAt x out) := by
  have h1 := insK_drop x.id out out.length (Nat.le_refl _) (by simp)
  have h2 := insK_last x.id out out.length (Nat.le_refl _)
  have h3 := insK_le x.id out out.length
  unfold insAt
  obtain ⟨k, hk⟩ : ∃ k, insK x.id out out.length = k := ⟨_, rfl⟩
  rw [hk] at h1 h2 h3 ⊢
  have hlt : ∀ y ∈ out.take k, y.id < x.id := fun y hy => by
    obtain ⟨i, hi, rfl⟩ := List.getElem_of_mem hy
    rw [List.length_take] at hi
    rw [List.getElem_take]
    have hne1 := hne _ (List.getElem_mem (show i < out.length by omega))
    obtain ⟨j, hj⟩ : ∃ j, k = j + 1 := ⟨k - 1, by omega⟩
    have h4 := h2 j out[j] hj (List.getElem?_eq_getElem (by omega))
    by_cases hij : i = j
    · subst hij; omega
    · have h5 := (List.pairwise_iff_getElem.1 h) i j (by omega) (by omega) (by omega)
      omega
  rw [RisId, List.pairwise_append]
  refine ⟨h.sublist (List.take_sublist _ _), List.pairwise_cons.2 ⟨h1, h.sublist (List.drop_sublist _ _)⟩, fun a ha b hb => ?_⟩
  rcases List.mem_cons.1 hb with rfl | hb
  · exact hlt a ha
  · exact Nat.lt_trans (hlt a ha) (h1 b hb)
theorem insAt_mem {x y : Sp} {out : List Sp} (h : y ∈ insAt x out) : y = x ∨ y ∈ out := by
  unfold insAt at h
  rcases List.mem_append.1 h with h | h
  · exact .inr (List.mem_of_mem_take h)
  · rcases List.mem_cons.1 h with h | h
    · exact .inl h
    · exact .inr (List.mem_of_mem_drop h)
theorem uniqTo_ris (l : List Sp) : ∀ i, i ≤ l.length → RisId (uniqTo l i) ∧ ∀ y ∈ uniqTo l i, ∃ j, j < i ∧ l[j]? = some y ∧ fstTo l y j l.length = true
  | 0, _ => ⟨List.Pairwise.nil, fun y h => by simp [uniqTo] at h⟩
  | i + 1, hi => by
    obtain ⟨ih1, ih2⟩ := uniqTo_ris l i (by omega)
    obtain ⟨x, hx⟩ : ∃ x, l[i]? = some x := ⟨_, List.getElem?_eq_getElem (by omega)⟩
    rw [uniqTo_step hx]
    by_cases hf : fstTo l x i l.length = true
    · rw [if_pos hf]
      refine ⟨insAt_ris ih1 fun y hy e => ?_, fun y hy => ?_⟩
      · obtain ⟨j, hj, hy1, hy2⟩ := ih2 y hy
        exact fst_one hx hy1 hf hy2 hj e.symm
      · rcases insAt_mem hy with rfl | hy
        · exact ⟨i, by omega, hx, hf⟩
        · obtain ⟨j, hj, h1, h2⟩ := ih2 y hy
          exact ⟨j, by omega, h1, h2⟩
    · rw [if_neg hf]
      exact ⟨ih1, fun y hy => by
        obtain ⟨j, hj, h1, h2⟩ := ih2 y hy
        exact ⟨j, by omega, h1, h2⟩⟩
theorem insAt_len (x : Sp) (out : List Sp) : (insAt x out).length = out.length + 1 := by
  have := insK_le x.id out out.length
  rw [insAt, List.length_append, List.length_cons, List.length_take, List.length_drop]
  omega
theorem uniqTo_grow (l : List Sp) (i : Nat) : (uniqTo l i).length ≤ (uniqTo l (i + 1)).length := by
  rw [uniqTo]
  split
  · split
    · rw [insAt_len]; omega
    · exact Nat.le_refl _
  · exact Nat.le_refl _
theorem uniqTo_mono (l : List Sp) {i j : Nat} (h : i ≤ j) : (uniqTo l i).length ≤ (uniqTo l j).length := by
  induction j with
  | zero =>
    have : i = 0 := by omega
    subst this
    exact Nat.le_refl _
  | succ j ih =>
    by_cases hj : i ≤ j
    · exact Nat.le_trans (ih hj) (uniqTo_grow l j)
    · have : i = j + 1 := by omega
      subst this
      exact Nat.le_refl _
theorem uniq_ne {l : List Sp} (h : l ≠ []) : uniq l ≠ [] := fun e => by
  have hp : 0 < l.length := List.length_pos_iff.2 h
  obtain ⟨i, x, hi, hx, hf⟩ := fst_some l l.length hp (Nat.le_refl _)
  have h1 : (uniqTo l (i + 1)).length = (uniqTo l i).length + 1 := by rw [uniqTo_step hx, if_pos hf, insAt_len]
  have h2 := uniqTo_mono l (show i + 1 ≤ l.length by omega)
  have h3 := congrArg List.length e
  rw [uniq, List.length_nil] at h3
  omega
theorem upsTo_s (u : List Sp) : ∀ i, i ≤ u.length → (upsTo u i).map (·.s) = u.take i
  | 0, _ => rfl
  | i + 1, h => by
    obtain ⟨x, hx⟩ : ∃ x, u[i]? = some x := ⟨_, List.getElem?_eq_getElem (by omega)⟩
    rw [upsTo_step hx, List.map_append, upsTo_s u i (by omega), take_snoc hx]
    simp [upOf_s]
theorem ups_s (l : List Sp) : (ups l).map (·.s) = uniq l := by
  rw [ups, upsTo_s _ _ (Nat.le_refl _), List.take_length]
theorem upOf_flag (u : List Sp) (i : Nat) (x : Sp) : 0 ≤ (upOf u i x).flag ∧ (upOf u i x).flag ≤ 2 := by
  unfold upOf
  split
  · exact ⟨by show (0 : Int) ≤ 0; omega, by show (0 : Int) ≤ 2; omega⟩
  · split
    · exact ⟨by show (0 : Int) ≤ 1; omega, by show (1 : Int) ≤ 2; omega⟩
    · split
      · exact ⟨by show (0 : Int) ≤ 2; omega, by show (2 : Int) ≤ 2; omega⟩
      · exact ⟨by show (0 : Int) ≤ 0; omega, by show (0 : Int) ≤ 2; omega⟩

/-! What moving keeps. -/
/-- All of an adjusted span but its times. -/
def core (a : Ad) : Sp × Nat × Int := ({ a.s with start := 0 }, a.up, a.flag)
theorem core_mv (x y : Ad) : core (mvAd x y) = core x := rfl
theorem spChk_start {s : Sp} (h : spChk s = 0) {v : Int} (h0 : 0 ≤ v) (h1 : v ≤ 4611686018427387903 - s.length) : spChk { s with start := v } = 0 := by
  have ht := (spChk_parts h).1.l0
  unfold spChk at h ⊢
  have e1 : longB { s with start := v } = longB s := rfl
  rw [e1]
  by_cases hl : longB s = true
  · rw [if_pos hl] at h; omega
  rw [if_neg hl] at h ⊢
  cases h2 : (headB s && tagsOk s.tags s.tags.length) with
  | false => rw [h2] at h; simp at h
  | true =>
    rw [Bool.and_eq_true] at h2
    have e2 : headB { s with start := v } = true := by
      have hh := h2.1
      unfold headB at hh ⊢
      simp only [Bool.and_eq_true, Bool.or_eq_true, decide_eq_true_eq] at hh ⊢
      obtain ⟨⟨⟨⟨⟨⟨⟨⟨⟨a1, a2⟩, a3⟩, a4⟩, a5⟩, a6⟩, a7⟩, a8⟩, a9⟩, a10⟩ := hh
      exact ⟨⟨⟨⟨⟨⟨⟨⟨⟨a1, a2⟩, a3⟩, a4⟩, a5⟩, a6⟩, h0⟩, a8⟩, by omega⟩, by omega⟩
    rw [e2, h2.2]
    rfl
theorem mv_chk {x y : Ad} (hx : adChk x = 0) : adChk (mvAd x y) = 0 := by
  unfold adChk at hx ⊢
  have hs : spChk x.s = 0 := by
    by_cases h1 : spChk x.s ≠ 0
    · rw [if_pos h1] at hx; exact absurd hx h1
    · exact Decidable.not_not.1 h1
  rw [if_neg (by rw [hs]; simp)] at hx
  have ht := (spChk_parts hs).1
  have hn : spChk (mvAd x y).s = 0 := spChk_start hs (by have := ht.l0; have := ht.s0; have := ht.sum; omega) (by omega)
  rw [if_neg (by rw [hn]; simp)]
  exact hx
theorem set_same {α : Type} {l : List α} {i : Nat} {x : α} (h : l[i]? = some x) : l.set i x = l := by
  apply List.ext_getElem?
  intro j
  by_cases hj : i = j
  · subst hj
    rw [List.getElem?_set_self (List.getElem?_eq_some_iff.1 h).1, h]
  · rw [List.getElem?_set_ne hj]
/-- What each step keeps. -/
structure AjKeep (o0 o : List Ad) : Prop where
  core : o.map core = o0.map core
  chk : ∀ a ∈ o, adChk a = 0
theorem AjKeep.set {o0 o : List Ad} (h : AjKeep o0 o) {i : Nat} {x y : Ad} (hi : o[i]? = some x) : AjKeep o0 (o.set i (mvAd x y)) := by
  refine ⟨?_, fun a ha => ?_⟩
  · rw [List.map_set, core_mv, ← h.core]
    have : (o.map Go.Proofs.Ythaiplhjekkooaa.core)[i]? = some (Go.Proofs.Ythaiplhjekkooaa.core x) := by simp [hi]
    exact set_same this
  · rcases List.mem_or_eq_of_mem_set ha with ha | rfl
    · exact h.chk a ha
    · exact mv_chk (h.chk x (List.mem_of_getElem? hi))
theorem keep_ajK {o0 : List Ad} (i : Nat) (st : AjS) (k : Nat) (h : AjKeep o0 st.o) : AjKeep o0 (ajK i st k).o := by
  unfold ajK
  split
  · rename_i y x h1 h2 h3
    split
    · exact h.set h2
    · exact h
  · exact h
theorem keep_fold {o0 : List Ad} {f : AjS → Nat → AjS} (hf : ∀ st k, AjKeep o0 st.o → AjKeep o0 (f st k).o) : ∀ (ks : List Nat) (st : AjS), AjKeep o0 st.o → AjKeep o0 (ks.foldl f st).o
  | [], _, h => h
  | k :: ks, st, h => keep_fold hf ks (f st k) (hf st k h)
theorem keep_ajI {o0 : List Ad} (n : Nat) (st : AjS) (i : Nat) (h : AjKeep o0 st.o) : AjKeep o0 (ajI n st i).o := by
  unfold ajI
  split
  · split
    · exact h
    · exact keep_fold (fun st k => keep_ajK i st k) _ _ h
  · exact h
theorem keep_all {o : List Ad} (h : ∀ a ∈ o, adChk a = 0) : AjKeep o (ajAll o).o :=
  keep_fold (fun st _ h => keep_fold (fun st k => keep_ajI _ st k) _ _ h) _ _ ⟨rfl, h⟩
/-- What is true of Adjust's answer. -/
structure AdjFine (l : List Sp) (o : List Ad) : Prop where
  ne : o ≠ []
  len : o.length ≤ l.length
  chk : ∀ a ∈ o, adChk a = 0
  ris : ∀ i a b, o[i]? = some a → o[i + 1]? = some b → a.s.id < b.s.id
  tr : ∀ a ∈ o, ∀ b ∈ o, a.s.hi = b.s.hi ∧ a.s.lo = b.s.lo
theorem adjS_fine {l : List Sp} (h : (adjS l).2 = 0) : AdjFine l (adjS l).1 := by
  unfold adjS at h ⊢
  by_cases h0 : l.length = 0
  · rw [if_pos h0] at h; cases h
  rw [if_neg h0] at h ⊢
  by_cases h1 : 64 < l.length
  · rw [if_pos h1] at h; cases h
  rw [if_neg h1] at h ⊢
  by_cases h2 : spErr l ≠ 0
  · rw [if_pos h2] at h; exact absurd h h2
  rw [if_neg h2] at h ⊢
  by_cases h3 : oneTr l = false
  · rw [if_pos h3] at h; cases h
  rw [if_neg h3]
  have hsp := spErr_zero (Decidable.not_not.1 h2)
  have hmem : ∀ x ∈ uniq l, x ∈ l := fun x hx => uniqTo_mem _ _ x hx
  have hups := ups_s l
  have hchk : ∀ a ∈ ups l, adChk a = 0 := fun a ha => by
    obtain ⟨k, x, hx, rfl⟩ := upsTo_mem _ _ a ha
    have h4 := hsp x (hmem x (List.mem_of_getElem? hx))
    have h5 := upOf_flag (uniq l) k x
    unfold adChk
    rw [upOf_s, if_neg (by rw [h4]; simp), if_neg (by omega)]
  have hk := keep_all hchk
  have hcore : ∀ (i : Nat) (a : Ad), (ajAll (ups l)).o[i]? = some a → ∃ x, (uniq l)[i]? = some x ∧ a.s.id = x.id ∧ a.s.hi = x.hi ∧ a.s.lo = x.lo := fun i a ha => by
    have h4 := congrArg (·[i]?) hk.core
    simp only [List.getElem?_map, ha, Option.map_some] at h4
    cases hu : (ups l)[i]? with
    | none => rw [hu] at h4; cases h4
    | some b =>
      rw [hu] at h4
      have h5 := Option.some.inj h4
      refine ⟨b.s, by rw [← hups]; simp [hu], ?_⟩
      have h6 := congrArg Prod.fst h5
      exact ⟨show (core a).1.id = (core b).1.id from congrArg Sp.id h6, show (core a).1.hi = (core b).1.hi from congrArg Sp.hi h6, show (core a).1.lo = (core b).1.lo from congrArg Sp.lo h6⟩
  have hlen : (ajAll (ups l)).o.length = (uniq l).length := by
    have h4 := congrArg List.length hk.core
    rw [List.length_map, List.length_map] at h4
    rw [h4, ← hups, List.length_map]
  refine ⟨fun e => ?_, ?_, hk.chk, fun i a b ha hb => ?_, fun a ha b hb => ?_⟩
  · have e' : (ajAll (ups l)).o = [] := e
    rw [e'] at hlen
    exact uniq_ne (fun e2 => h0 (by rw [e2]; rfl)) (List.eq_nil_of_length_eq_zero hlen.symm)
  · show (ajAll (ups l)).o.length ≤ _
    rw [hlen]
    exact uniqTo_len _ _
  · obtain ⟨x, hx, e1, -⟩ := hcore i a ha
    obtain ⟨y, hy, e2, -⟩ := hcore (i + 1) b hb
    obtain ⟨q1, q2⟩ := List.getElem?_eq_some_iff.1 hx
    obtain ⟨q3, q4⟩ := List.getElem?_eq_some_iff.1 hy
    have := (List.pairwise_iff_getElem.1 (uniqTo_ris l l.length (Nat.le_refl _)).1) i (i + 1) q1 q3 (by omega)
    rw [e1, e2, ← q2, ← q4]
    exact this
  · obtain ⟨i, hi⟩ := List.getElem?_of_mem ha
    obtain ⟨j, hj⟩ := List.getElem?_of_mem hb
    obtain ⟨x, hx, -, e1, e2⟩ := hcore i a hi
    obtain ⟨y, hy, -, e3, e4⟩ := hcore j b hj
    have hx2 := hmem x (List.mem_of_getElem? hx)
    have hy2 := hmem y (List.mem_of_getElem? hy)
    obtain ⟨t, ht⟩ : ∃ t, l[0]? = some t := ⟨_, List.getElem?_eq_getElem (by omega)⟩
    have h4 : oneTr l = true := by simpa using h3
    rw [oneTr_iff ht, List.all_eq_true] at h4
    have h5 := h4 x hx2
    have h6 := h4 y hy2
    simp only [Bool.and_eq_true, decide_eq_true_eq] at h5 h6
    omega
end Go.Proofs.Ythaiplhjekkooaa
