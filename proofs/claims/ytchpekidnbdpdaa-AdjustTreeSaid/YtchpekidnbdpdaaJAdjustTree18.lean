/- Texts of the proof of AdjustTreeSaid, joined: StbB StbC StbDa StbDb StbDc StbE UnD. -/
import Derived.Test.YtchpekidnbdpdaaJAdjustTree17
import Derived.Test.YtchpekidnbdpdaaJAdjustTree7
import Derived.Shelf.SlSortCmp.KitK
import Derived.Shelf.SlSortCmp.WholeK
import Derived.Shelf.SlSortCmp.NoneTotal
import Derived.Test.YtchpekidnbdpdaaJAdjustTree15
import Derived.Test.YtchpekidnbdpdaaJAdjustTree8
/- slices.SortStableFunc of spans: the exchange of ranges, the turn. -/
namespace Go.Proofs.Ytchpekidnbdpdaa
open Go.RowKit Go.Shelf Go.Sort

abbrev enS (w : World) (g : Nat) : SortEl w g → List Value := fun e => elC e.val
def storeKS (t : TypeId) (a : Addr) (v : Value) : Sem Unit := storeVar t a v
theorem storeKS_shut (a : Addr) (v : Value) : storeVar 32 a v = storeKS 32 a v := rfl
theorem loadSp_shutS (a : Addr) : loadVar 32 a = loadK 32 a := rfl
attribute [local go_sem ↓] storeKS_shut loadSp_shutS
theorem enS_len {w : World} {g : Nat} (x : SortEl w g) : (enS w g x).length = 11 := elC_length x.val
theorem enS_one {w : World} {g : Nat} (x : SortEl w g) : ∀ v ∈ enS w g x, v.oneCell' = true := by
  have := spC_one x.val.s x.val.A x.val.n x.val.c
  rw [Array.all_eq_true'] at this
  exact fun v hv => this v (by simpa [elC] using hv)
theorem spinfoS : (Try.prog.info? 32).map (·.size) = some 11 := by kernel_rfl
theorem run_storeS {w W : World} {g : Nat} {x : SortEl w g} {a : Addr} {W' : World} (h : Sem.run Try.prog (storeCells a (enS w g x) 0) W = .ok () W') : (storeKS 32 a (.agg (enS w g x).toArray)).run Try.prog W = .ok () W' := by
  have hi := spinfoS
  cases hq : Try.prog.info? 32 with
  | none => simp [hq] at hi
  | some i =>
    have hs : 11 = i.size := by simp [hq] at hi; omega
    have hl : (enS w g x).length = i.size := by rw [enS_len]; exact hs
    unfold storeKS
    simp [storeVar, sizeOf, typeInfo, hq, Value.cells]
    rw [if_pos hl]
    exact h
section
variable {w W : World} {g : Nat} [Inhabited (SortEl w g)] {d0 dk : Array (SortEl w g)}
theorem SwS.ld (S : SWK (enS w g) 11 w g 0 dk W) (R : RowK (enS w g) 11 w g 0 d0) (hs : dk.size = d0.size) (i : Nat) (hi : i < dk.size) :
    (loadK 32 ⟨g, i * 11, none⟩).run Try.prog W = .ok (.agg (enS w g dk[i]!).toArray) W := by
  have h := HoldsK.cells (S.holds R.hblk R.hH hs) R.hk hi
  rw [Nat.zero_add] at h
  exact run_loadVar_cells W _ _ ⟨g, i * 11, none⟩ (enS w g dk[i]!) Try.underlying32 rfl (by rw [enS_len]; exact spinfoS) h
theorem SwS.st1 (S : SWK (enS w g) 11 w g 0 dk W) (R : RowK (enS w g) 11 w g 0 d0) (hs : dk.size = d0.size) (i : Nat) (hi : i < dk.size) (y : SortEl w g) :
    (storeKS 32 ⟨g, i * 11, none⟩ (.agg (enS w g y).toArray)).run Try.prog W.drew = .ok () (W.drew.setCells g (i * 11) (enS w g y)) := by
  have h := S.st1 R hs Try.prog i hi y
  rw [Nat.zero_add] at h
  exact run_storeS h
theorem SwS.st2 (S : SWK (enS w g) 11 w g 0 dk W) (R : RowK (enS w g) 11 w g 0 d0) (hs : dk.size = d0.size) (i j : Nat) (hi : i < dk.size) (hj : j < dk.size) (y x : SortEl w g) :
    (storeKS 32 ⟨g, j * 11, none⟩ (.agg (enS w g x).toArray)).run Try.prog (W.drew.setCells g (i * 11) (enS w g y)) = .ok () ((W.drew.setCells g (i * 11) (enS w g y)).setCells g (j * 11) (enS w g x)) := by
  have h := S.st2 R hs Try.prog i j hi hj y x
  rw [Nat.zero_add, Nat.zero_add] at h
  exact run_storeS h
theorem SwS.swapped (S : SWK (enS w g) 11 w g 0 dk W) (R : RowK (enS w g) 11 w g 0 d0) (i j : Nat) (hi : i < dk.size) (hj : j < dk.size) :
    SWK (enS w g) 11 w g 0 (swp dk i j) ((W.drew.setCells g (i * 11) (enS w g dk[j]!)).setCells g (j * 11) (enS w g dk[i]!)) := by
  have h := S.swapped R i j hi hj
  rw [Nat.zero_add, Nat.zero_add] at h
  exact h
end
end Go.Proofs.Ytchpekidnbdpdaa


/- slices.SortStableFunc of spans: swapRangeCmpFunc, rotateCmpFunc. -/
namespace Go.Proofs.Ytchpekidnbdpdaa
open Go.RowKit Go.Shelf Go.Sort
attribute [local go_sem ↓] storeKS_shut loadSp_shutS
section
variable {w W : World} {g : Nat} [Inhabited (SortEl w g)] {d0 d : Array (SortEl w g)}
set_option maxRecDepth 100000 in
set_option maxHeartbeats 4000000 in
theorem stSwapRange (R : RowK (enS w g) 11 w g 0 d0) (S : SWK (enS w g) 11 w g 0 d W) (hs : d.size = d0.size) {n cap a b m : Nat} (hn : d.size = n) (fv : Value) (hab : a + m ≤ b) (hb : b + m ≤ n) (hz : n < 1152921504606846976) :
    Calls Try.prog 98 #[.slice (some ⟨g, 0, none⟩) n cap, .int .i64 (a : Nat), .int .i64 (b : Nat), .int .i64 (m : Nat), fv] W fun e w' =>
      e = .returned (.tuple #[]) ∧ ∃ d', SWK (enS w g) 11 w g 0 d' w' ∧ SwR a b m d d' ∧ PermIn a (b + m) d d' := by
  have mixed : Try.prog.follows .mixedOrders = true := by kernel_rfl
  have S0 : Aside _ := S
  have HR : Aside _ := R
  have HS := Lib.hid hs
  have HN := Lib.hid hn
  clear S R hs hn
  go_enter Try.func98, Try.ntmps98
  go_wp2
  go_loopw [10] (fun v wr => ∃ (i : Nat) (dk : Array (SortEl w g)), v = .int .i64 (i : Nat) ∧ i ≤ m ∧ Aside (SWK (enS w g) 11 w g 0 dk wr) ∧ Hid (SwR a b i d dk ∧ PermIn a (b + m) d dk)) (fun v _ => m - (intOf v).toNat)
  case atStart => exact ⟨0, d, rfl, by omega, S0, ⟨SwR.zero _ _ _, permIn_refl _ _ _⟩⟩
  case round =>
    obtain ⟨i, dk, rfl, hi, S1, HP⟩ := hrel
    clear S0
    by_cases hlt : i < m
    · have hltz : (i : Int) < (m : Int) := by omega
      have hk : dk.size = n := HP.out.1.1.trans HN.out
      have hk0 : dk.size = d0.size := hk.trans (HN.out.symm.trans HS.out)
      have ea : ((a : Int) + (i : Int)).toNat = a + i := by omega
      have pa : (0 : Int) ≤ (a : Int) + (i : Int) := by omega
      have ba : (a : Int) + (i : Int) < (n : Int) := by omega
      have ra : IntKind.i64.wrap ((a : Int) + (i : Int)) = (a : Int) + (i : Int) := by rw [IntKind.wrap_i64]; omega
      have eb : ((b : Int) + (i : Int)).toNat = b + i := by omega
      have pb : (0 : Int) ≤ (b : Int) + (i : Int) := by omega
      have bb : (b : Int) + (i : Int) < (n : Int) := by omega
      have rb : IntKind.i64.wrap ((b : Int) + (i : Int)) = (b : Int) + (i : Int) := by rw [IntKind.wrap_i64]; omega
      have S2 : Aside (SWK (enS w g) 11 w g 0 (swp dk (a + i) (b + i)) ((wr.drew.setCells g ((a + i) * 11) (enS w g dk[b + i]!)).setCells g ((b + i) * 11) (enS w g dk[a + i]!))) := SwS.swapped S1.out HR.out (a + i) (b + i) (by omega) (by omega)
      have la := SwS.ld S1.out.drew HR.out hk0 (a + i) (by omega)
      have lb := SwS.ld S1.out.drew HR.out hk0 (b + i) (by omega)
      have sa := SwS.st1 S1.out HR.out hk0 (a + i) (by omega) dk[b + i]!
      have sb := SwS.st2 S1.out HR.out hk0 (a + i) (b + i) (by omega) (by omega) dk[b + i]! dk[a + i]!
      generalize enS w g dk[a + i]! = cI at S2 la sb
      generalize enS w g dk[b + i]! = cJ at S2 lb sa sb
      have HP2 : Hid (SwR a b (i + 1) d (swp dk (a + i) (b + i)) ∧ PermIn a (b + m) d (swp dk (a + i) (b + i))) :=
        ⟨HP.out.1.step (by omega) (by rw [HN.out]; omega), permIn_trans _ _ _ _ _ HP.out.2 (swp_permIn dk a (b + m) (a + i) (b + i) (by omega) (by omega) (by omega) (by omega) (by omega))⟩
      clear S1 HP hk hk0
      go_wp2_with fail
      go_big_region_o
      all_goals clear la lb sa sb
      all_goals generalize (wr.drew.setCells g ((a + i) * 11) cJ).setCells g ((b + i) * 11) cI = w4 at S2 ⊢
      all_goals go_wp2_with fail
      all_goals go_roundw
      all_goals first
        | exact ⟨i + 1, _, by go_num, by omega, S2, HP2⟩
        | (simp [intOf]; omega)
    · have hltz : ¬ (i : Int) < (m : Int) := by omega
      obtain rfl : i = m := by omega
      go_wp2
      go_end0
      exact ⟨rfl, dk, S1.out, HP.out⟩
set_option maxRecDepth 100000 in
set_option maxHeartbeats 4000000 in
theorem stRotate (R : RowK (enS w g) 11 w g 0 d0) (S : SWK (enS w g) 11 w g 0 d W) (hs : d.size = d0.size) {n cap a m b : Nat} (hn : d.size = n) (fv : Value) (ham : a < m) (hmb : m < b) (hb : b ≤ n) (hz : n < 1152921504606846976) :
    Calls Try.prog 92 #[.slice (some ⟨g, 0, none⟩) n cap, .int .i64 (a : Nat), .int .i64 (m : Nat), .int .i64 (b : Nat), fv] W fun e w' =>
      e = .returned (.tuple #[]) ∧ ∃ d', SWK (enS w g) 11 w g 0 d' w' ∧ Rot a m b d d' ∧ PermIn a b d d' := by
  have S0 : Aside _ := S
  have HR : Aside _ := R
  have HS := Lib.hid hs
  have HN := Lib.hid hn
  obtain ⟨i0, hi0⟩ : ∃ i0, m - a = i0 := ⟨_, rfl⟩
  obtain ⟨j0, hj0⟩ : ∃ j0, b - m = j0 := ⟨_, rfl⟩
  have hma : IntKind.i64.wrap ((m : Int) - (a : Int)) = (i0 : Int) := by rw [IntKind.wrap_i64]; omega
  have hbm : IntKind.i64.wrap ((b : Int) - (m : Int)) = (j0 : Int) := by rw [IntKind.wrap_i64]; omega
  have HI := Lib.hid hi0
  have HJ := Lib.hid hj0
  clear hi0 hj0
  clear S R hs hn
  go_enter Try.func92, Try.ntmps92
  go_wp2
  go_loopw [10, 11] (fun vi vj wr => ∃ (i j : Nat) (dk : Array (SortEl w g)), vi = .int .i64 (i : Nat) ∧ vj = .int .i64 (j : Nat) ∧ 0 < i ∧ 0 < j ∧ a + i ≤ m ∧ m + j ≤ b ∧ Aside (SWK (enS w g) 11 w g 0 dk wr) ∧ Hid (PermIn a b d dk ∧ ∀ d2, Rot (m - i) m (m + j) dk d2 → Rot a m b d d2)) (fun vi vj _ => (intOf vi).toNat + (intOf vj).toNat)
  case atStart =>
    have h1 := HI.out; have h2 := HJ.out
    exact ⟨i0, j0, d, rfl, rfl, by omega, by omega, by omega, by omega, S0, ⟨permIn_refl _ _ _, fun d2 h => by rw [show m - i0 = a by omega, show m + j0 = b by omega] at h; exact h⟩⟩
  case round =>
    obtain ⟨i, j, dk, rfl, rfl, hi0, hj0, hi, hj, S1, HP⟩ := hrel
    clear S0 hma hbm
    have hk : dk.size = n := HP.out.1.1.trans HN.out
    have hk0 : dk.size = d0.size := hk.trans (HN.out.symm.trans HS.out)
    obtain ⟨u, hu⟩ : ∃ u, m - i = u := ⟨_, rfl⟩
    have rmi : IntKind.i64.wrap ((m : Int) - (i : Int)) = (u : Int) := by rw [IntKind.wrap_i64]; omega
    have HU := Lib.hid hu
    have hui : u + i = m := by omega
    rw [hu] at HP
    clear hu
    rcases Nat.lt_trichotomy i j with hij | hij | hij
    · -- the right is longer
      have h1 : ¬ ((i : Int) = (j : Int)) := by omega
      have h2 : ¬ ((j : Int) < (i : Int)) := by omega
      obtain ⟨x, hx⟩ : ∃ x, m + j = x := ⟨_, rfl⟩
      obtain ⟨v, hv⟩ : ∃ v, x - i = v := ⟨_, rfl⟩
      obtain ⟨y, hy⟩ : ∃ y, j - i = y := ⟨_, rfl⟩
      have rmj : IntKind.i64.wrap ((m : Int) + (j : Int)) = (x : Int) := by rw [IntKind.wrap_i64]; omega
      have rmji : IntKind.i64.wrap ((x : Int) - (i : Int)) = (v : Int) := by rw [IntKind.wrap_i64]; omega
      have rji : IntKind.i64.wrap ((j : Int) - (i : Int)) = (y : Int) := by rw [IntKind.wrap_i64]; omega
      have hc := stSwapRange (cap := cap) HR.out S1.out hk0 hk fv (a := u) (b := v) (m := i) (by omega) (by omega) hz
      have HX := Lib.hid hx
      have HV := Lib.hid hv
      have HY := Lib.hid hy
      clear hx hv hy
      clear S1 hk hk0
      go_wp2_with (go_at_call 98; refine hc.mono ?_; rintro e w1 ⟨rfl, d', S2, q1, q2⟩)
      go_roundw
      case rel =>
        have h3 := HX.out; have h4 := HV.out; have h5 := HY.out
        subst h3 h4 h5
        refine ⟨i, j - i, d', rfl, rfl, hi0, by omega, hi, by omega, S2, ⟨permIn_trans _ _ _ _ _ HP.out.1 (permIn_mono _ _ _ _ a b (by omega) (by omega) (by have := HP.out.1.1; have := HN.out; omega) q2), fun d2 h => HP.out.2 d2 ?_⟩⟩
        rw [← HU.out] at q1 ⊢
        exact Rot.right (by omega) hij q1 h
      case measure => have := HX.out; have := HY.out; simp [intOf]; omega
    · subst hij
      have hc := stSwapRange (cap := cap) HR.out S1.out hk0 hk fv (a := u) (b := m) (m := i) (by omega) (by omega) hz
      clear S1 hk hk0
      go_wp2_with (go_at_call 98; refine hc.mono ?_; rintro e w1 ⟨rfl, d', S2, q1, q2⟩)
      go_end0
      rw [← HU.out] at q1 HP
      exact ⟨rfl, d', S2, HP.out.2 d' (Rot.same (by omega) q1), permIn_trans _ _ _ _ _ HP.out.1 (permIn_mono _ _ _ _ a b (by omega) (by omega) (by have := HP.out.1.1; have := HN.out; omega) q2)⟩
    · -- the left is longer
      have h1 : ¬ ((i : Int) = (j : Int)) := by omega
      have h2 : (j : Int) < (i : Int) := by omega
      obtain ⟨y, hy⟩ : ∃ y, i - j = y := ⟨_, rfl⟩
      have rij : IntKind.i64.wrap ((i : Int) - (j : Int)) = (y : Int) := by rw [IntKind.wrap_i64]; omega
      have hc := stSwapRange (cap := cap) HR.out S1.out hk0 hk fv (a := u) (b := m) (m := j) (by omega) (by omega) hz
      have HY := Lib.hid hy
      clear hy
      clear S1 hk hk0
      go_wp2_with (go_at_call 98; refine hc.mono ?_; rintro e w1 ⟨rfl, d', S2, q1, q2⟩)
      go_roundw
      case rel =>
        have h5 := HY.out
        subst h5
        refine ⟨i - j, j, d', rfl, rfl, by omega, hj0, by omega, hj, S2, ⟨permIn_trans _ _ _ _ _ HP.out.1 (permIn_mono _ _ _ _ a b (by omega) (by omega) (by have := HP.out.1.1; have := HN.out; omega) q2), fun d2 h => HP.out.2 d2 ?_⟩⟩
        rw [← HU.out] at q1 ⊢
        exact Rot.left (by omega) hij q1 h
      case measure => have := HY.out; simp [intOf]; omega
end
end Go.Proofs.Ytchpekidnbdpdaa


/- slices.SortStableFunc of spans: symMergeCmpFunc: two sorted parts merged in place. Printed by tools/genStbD.py. -/
namespace Go.Proofs.Ytchpekidnbdpdaa
open Go.RowKit Go.Shelf Go.Sort
attribute [local go_sem ↓] storeKS_shut loadSp_shutS
theorem lt_step {β : Type} {lt : β → β → Bool} {x y : β} {b : Bool} (h : lt x y = b) : (!lt x y) = !b := by rw [h]
section
variable {w : World} {g : Nat} [Inhabited (SortEl w g)] {d0 : Array (SortEl w g)}
set_option maxRecDepth 100000 in
set_option maxHeartbeats 8000000 in
theorem stSym1 (R : RowK (enS w g) 11 w g 0 d0) {cf : SortEl w g → SortEl w g → Int} (hO : SWO (ltOf cf)) {f0 : Nat} {cb : Array Value} (eg : ∀ args W, (callFunc f0 args).run Try.prog W = .ok (.enter f0 args) W)
    (hC : CmpLays Try.prog f0 cb (enS w g) 11 cf g 0 d0.size w) {n cap : Nat} (hz : n < 1152921504606846976) {a m b : Nat} (hm : m = a + 1) (hmb : m < b) {d : Array (SortEl w g)} {W : World} (hb : b ≤ n)
    (S : SWK (enS w g) 11 w g 0 d W) (hs : d.size = d0.size) (hn : d.size = n) (hs1 : SortedIn (ltOf cf) a m d) (hs2 : SortedIn (ltOf cf) m b d) :
    Calls Try.prog 77 #[.slice (some ⟨g, 0, none⟩) n cap, .int .i64 (a : Nat), .int .i64 (m : Nat), .int .i64 (b : Nat), .func (.func f0) #[] cb] W fun e w' =>
      e = .returned (.tuple #[]) ∧ ∃ d', SWK (enS w g) 11 w g 0 d' w' ∧ PermIn a (b) d d' ∧ SortedIn (ltOf cf) a (b) d' := by
  have mixed : Try.prog.follows .mixedOrders = true := by kernel_rfl
  have S0 : Aside _ := S
  have HR : Aside _ := R
  have HC : Aside _ := hC
  have HO : Aside _ := hO
  have HS := Lib.hid hs
  have HN := Lib.hid hn
  have H1 : Aside _ := hs1
  have H2 : Aside _ := hs2
  have hk0 : d.size = d0.size := hs
  have hkn : d.size = n := hn
  have HM := Lib.hid hm
  have ba : (a : Int) < (n : Int) := by omega
  have r0 : IntKind.i64.wrap ((m : Int) - (a : Int)) = 1 := by rw [IntKind.wrap_i64]; omega
  have ham : a < m := by omega
  clear S R hs hn hC hO hs1 hs2 hm
  · go_enter Try.func77, Try.ntmps77
    go_wp2
    go_loopw [10, 11] (fun vi vj wr => ∃ i j : Nat, vi = .int .i64 (i : Nat) ∧ vj = .int .i64 (j : Nat) ∧ m ≤ i ∧ i ≤ j ∧ j ≤ b ∧ Aside (SWK (enS w g) 11 w g 0 d wr) ∧ Aside (Srch (fun x => !ltOf cf d[x]! d[a]!) m b i j)) (fun vi vj _ => (intOf vj).toNat - (intOf vi).toNat)
    case atStart => exact ⟨m, b, rfl, rfl, by omega, by omega, by omega, S0, Srch.start (by omega)⟩
    case round =>
      obtain ⟨i, j, rfl, rfl, hi, hij, hj, S1, HQ⟩ := hrel
      clear S0
      by_cases hlt : i < j
      · have hltz : (i : Int) < (j : Int) := by omega
        obtain ⟨h, hh⟩ : ∃ h, (i + j) / 2 = h := ⟨_, rfl⟩
        have hhz : ((i : Int) + (j : Int)) / 2 = (h : Int) := by omega
        have hi1 : i ≤ h := by omega
        have hj1 : h < j := by omega
        have bh : (h : Int) < (n : Int) := by omega
        have hri := rises_first HO.out d[a]! H2.out
        have rij : IntKind.i64.wrap ((i : Int) + (j : Int)) = (i : Int) + (j : Int) := by rw [IntKind.wrap_i64]; omega
        cases hL : ltOf cf d[h]! d[a]! with
        | true =>
          have HQ2 : Aside (Srch (fun x => !ltOf cf d[x]! d[a]!) m b (h + 1) j) := HQ.out.up hri hi1 hj1 (lt_step hL)
          clear HQ hri hh
          have lx1 := fun (q : Nat) (os : Array Obj) => SwS.ld (S1.out.grown q os) HR.out hk0 (h) (by omega)
          have ly1 := fun (q : Nat) (os : Array Obj) => SwS.ld (S1.out.grown q os) HR.out hk0 (a) (by omega)
          have hc1 := S1.out.cmp HC.out hk0 d[h]! d[a]!
          have hv1 : cf d[h]! d[a]! < 0 := of_decide_eq_true hL
          have hd1 : decide (cf d[h]! d[a]! < 0) = true := hL
          generalize cf d[h]! d[a]! = r1 at hc1 hv1 hd1
          generalize enS w g d[h]! = cx1 at lx1 hc1
          generalize enS w g d[a]! = cy1 at ly1 hc1
          clear hL
          go_wp2_with fail
          go_quiet_grown (first | (go_at_fn f0; refine Calls.grown_of (hc1 _ _)))
          have S2 : Aside (SWK (enS w g) 11 w g 0 d (grow (wr.drewN nq) osq)) := S1.out.grown nq osq
          clear lx1 ly1 hc1 S1
          generalize grow (wr.drewN nq) osq = w2 at S2 ⊢
          clear nq osq
          go_wp2_with fail
          go_roundw
          case rel => exact ⟨h + 1, j, by go_num, rfl, by omega, by omega, hj, S2, HQ2⟩
          case measure => simp [intOf]; omega
        | false =>
          have HQ2 : Aside (Srch (fun x => !ltOf cf d[x]! d[a]!) m b i h) := HQ.out.down hri hi1 hj1 (lt_step hL)
          clear HQ hri hh
          have lx2 := fun (q : Nat) (os : Array Obj) => SwS.ld (S1.out.grown q os) HR.out hk0 (h) (by omega)
          have ly2 := fun (q : Nat) (os : Array Obj) => SwS.ld (S1.out.grown q os) HR.out hk0 (a) (by omega)
          have hc2 := S1.out.cmp HC.out hk0 d[h]! d[a]!
          have hv2 : ¬ cf d[h]! d[a]! < 0 := of_decide_eq_false hL
          have hd2 : decide (cf d[h]! d[a]! < 0) = false := hL
          generalize cf d[h]! d[a]! = r2 at hc2 hv2 hd2
          generalize enS w g d[h]! = cx2 at lx2 hc2
          generalize enS w g d[a]! = cy2 at ly2 hc2
          clear hL
          go_wp2_with fail
          go_quiet_grown (first | (go_at_fn f0; refine Calls.grown_of (hc2 _ _)))
          have S2 : Aside (SWK (enS w g) 11 w g 0 d (grow (wr.drewN nq) osq)) := S1.out.grown nq osq
          clear lx2 ly2 hc2 S1
          generalize grow (wr.drewN nq) osq = w2 at S2 ⊢
          clear nq osq
          go_wp2_with fail
          go_roundw
          case rel => exact ⟨i, h, rfl, rfl, by omega, by omega, by omega, S2, HQ2⟩
          case measure => simp [intOf]; omega
      · have hltz : ¬ (i : Int) < (j : Int) := by omega
        obtain rfl : i = j := by omega
        have ri : IntKind.i64.wrap ((i : Int) - 1) = ((i - 1 : Nat) : Int) := by rw [IntKind.wrap_i64]; omega
        go_wp2
        go_loopw [13] (fun vk wr => ∃ (k : Nat) (dk : Array (SortEl w g)), vk = .int .i64 (k : Nat) ∧ a ≤ k ∧ k ≤ i - 1 ∧ Aside (SWK (enS w g) 11 w g 0 dk wr) ∧ Hid (Shu a k d dk ∧ PermIn a b d dk)) (fun vk _ => n - (intOf vk).toNat)
        case atStart => exact ⟨a, d, rfl, by omega, by omega, S1, ⟨Shu.zero _ _, permIn_refl _ _ _⟩⟩
        case round =>
          obtain ⟨k, dk, rfl, hak, hki, S3, HP⟩ := hrel
          clear S1
          by_cases hlt2 : k < i - 1
          · have hltz2 : (k : Int) < ((i - 1 : Nat) : Int) := by omega
            have hkn : dk.size = n := HP.out.1.1.trans HN.out
            have hk0 : dk.size = d0.size := hkn.trans (HN.out.symm.trans HS.out)
            have rk : IntKind.i64.wrap ((k : Int) + 1) = (k : Int) + 1 := by rw [IntKind.wrap_i64]; omega
            have ek : ((k : Int) + 1).toNat = k + 1 := by omega
            have pk : (0 : Int) ≤ (k : Int) + 1 := by omega
            have bk : (k : Int) + 1 < (n : Int) := by omega
            have bk0 : (k : Int) < (n : Int) := by omega
            have HP2 : Hid (Shu a (k + 1) d (swp dk k (k + 1)) ∧ PermIn a b d (swp dk k (k + 1))) := ⟨HP.out.1.step hak (by rw [HN.out]; omega), permIn_trans _ _ _ _ _ HP.out.2 (swp_permIn dk a b k (k + 1) (by omega) (by omega) (by omega) (by omega) (by omega))⟩
            clear HP
            have S4 : Aside (SWK (enS w g) 11 w g 0 (swp dk (k) (k + 1)) ((wr.drew.setCells g ((k) * 11) (enS w g dk[k + 1]!)).setCells g ((k + 1) * 11) (enS w g dk[k]!))) := SwS.swapped S3.out HR.out (k) (k + 1) (by omega) (by omega)
            have la3 := SwS.ld S3.out.drew HR.out hk0 (k) (by omega)
            have lb3 := SwS.ld S3.out.drew HR.out hk0 (k + 1) (by omega)
            have sa3 := SwS.st1 S3.out HR.out hk0 (k) (by omega) dk[k + 1]!
            have sb3 := SwS.st2 S3.out HR.out hk0 (k) (k + 1) (by omega) (by omega) dk[k + 1]! dk[k]!
            generalize enS w g dk[k]! = cI at S4 la3 sb3
            generalize enS w g dk[k + 1]! = cJ at S4 lb3 sa3 sb3
            clear S3
            go_wp2_with fail
            go_big_region_o
            clear la3 lb3 sa3 sb3
            generalize (wr.drew.setCells g ((k) * 11) cJ).setCells g ((k + 1) * 11) cI = w4 at S4 ⊢
            go_wp2_with fail
            go_roundw
            case rel => exact ⟨k + 1, _, by go_num, by omega, by omega, S4, HP2⟩
            case measure => simp [intOf]; omega
          · have hltz2 : ¬ (k : Int) < ((i - 1 : Nat) : Int) := by omega
            obtain rfl : k = i - 1 := by omega
            go_wp2
            (try simp only [Exit.inBlock, Exit.then]); refine bodyPost_ret (results_none rfl _ _ _) rfl ?_
            have hm := HM.out
            subst hm
            exact ⟨rfl, dk, S3.out, HP.out.2, HP.out.1.sorted HO.out hi hj H2.out (fun x h1 h2 => by simpa using HQ.out.2.2.2.1 x h1 h2) (fun x h1 h2 => by simpa using HQ.out.2.2.2.2 x h1 h2)⟩
end
end Go.Proofs.Ytchpekidnbdpdaa


/- slices.SortStableFunc of spans: symMergeCmpFunc: two sorted parts merged in place. Printed by tools/genStbD.py. -/
namespace Go.Proofs.Ytchpekidnbdpdaa
open Go.RowKit Go.Shelf Go.Sort
attribute [local go_sem ↓] storeKS_shut loadSp_shutS

section
variable {w : World} {g : Nat} [Inhabited (SortEl w g)] {d0 : Array (SortEl w g)}
set_option maxRecDepth 100000 in
set_option maxHeartbeats 8000000 in
theorem stSym2 (R : RowK (enS w g) 11 w g 0 d0) {cf : SortEl w g → SortEl w g → Int} (hO : SWO (ltOf cf)) {f0 : Nat} {cb : Array Value} (eg : ∀ args W, (callFunc f0 args).run Try.prog W = .ok (.enter f0 args) W)
    (hC : CmpLays Try.prog f0 cb (enS w g) 11 cf g 0 d0.size w) {n cap : Nat} (hz : n < 1152921504606846976) {a m b : Nat} (ham : a + 1 < m) (hm : b = m + 1) {d : Array (SortEl w g)} {W : World} (hb : b ≤ n)
    (S : SWK (enS w g) 11 w g 0 d W) (hs : d.size = d0.size) (hn : d.size = n) (hs1 : SortedIn (ltOf cf) a m d) (hs2 : SortedIn (ltOf cf) m b d) :
    Calls Try.prog 77 #[.slice (some ⟨g, 0, none⟩) n cap, .int .i64 (a : Nat), .int .i64 (m : Nat), .int .i64 (b : Nat), .func (.func f0) #[] cb] W fun e w' =>
      e = .returned (.tuple #[]) ∧ ∃ d', SWK (enS w g) 11 w g 0 d' w' ∧ PermIn a b d d' ∧ SortedIn (ltOf cf) a b d' := by
  have mixed : Try.prog.follows .mixedOrders = true := by kernel_rfl
  have S0 : Aside _ := S
  have HR : Aside _ := R
  have HC : Aside _ := hC
  have HO : Aside _ := hO
  have HS := Lib.hid hs
  have HN := Lib.hid hn
  have H1 : Aside _ := hs1
  have H2 : Aside _ := hs2
  have hk0 : d.size = d0.size := hs
  have hkn : d.size = n := hn
  have HM := Lib.hid hm
  have bm : (m : Int) < (n : Int) := by omega
  have hmb : m < b := by omega
  have r0 : IntKind.i64.wrap ((b : Int) - (m : Int)) = 1 := by rw [IntKind.wrap_i64]; omega
  clear S R hs hn hC hO hs1 hs2 hm
  have h1z : ((m : Int) - (a : Int) == 1) = false := by simp; omega
  have rma : IntKind.i64.wrap ((m : Int) - (a : Int)) = (m : Int) - (a : Int) := by rw [IntKind.wrap_i64]; omega
  · go_enter Try.func77, Try.ntmps77
    go_wp2
    go_loopw [14, 15] (fun vi vj wr => ∃ i j : Nat, vi = .int .i64 (i : Nat) ∧ vj = .int .i64 (j : Nat) ∧ a ≤ i ∧ i ≤ j ∧ j ≤ m ∧ Aside (SWK (enS w g) 11 w g 0 d wr) ∧ Aside (Srch (fun x => ltOf cf d[m]! d[x]!) a m i j)) (fun vi vj _ => (intOf vj).toNat - (intOf vi).toNat)
    case atStart => exact ⟨a, m, rfl, rfl, by omega, by omega, by omega, S0, Srch.start (by omega)⟩
    case round =>
      obtain ⟨i, j, rfl, rfl, hi, hij, hj, S1, HQ⟩ := hrel
      clear S0
      by_cases hlt : i < j
      · have hltz : (i : Int) < (j : Int) := by omega
        obtain ⟨h, hh⟩ : ∃ h, (i + j) / 2 = h := ⟨_, rfl⟩
        have hhz : ((i : Int) + (j : Int)) / 2 = (h : Int) := by omega
        have hi1 : i ≤ h := by omega
        have hj1 : h < j := by omega
        have bh : (h : Int) < (n : Int) := by omega
        have hri := rises_last HO.out d[m]! H1.out
        have rij : IntKind.i64.wrap ((i : Int) + (j : Int)) = (i : Int) + (j : Int) := by rw [IntKind.wrap_i64]; omega
        cases hL : ltOf cf d[m]! d[h]! with
        | false =>
          have HQ2 : Aside (Srch (fun x => ltOf cf d[m]! d[x]!) a m (h + 1) j) := HQ.out.up hri hi1 hj1 hL
          clear HQ hri hh
          have lx4 := fun (q : Nat) (os : Array Obj) => SwS.ld (S1.out.grown q os) HR.out hk0 (m) (by omega)
          have ly4 := fun (q : Nat) (os : Array Obj) => SwS.ld (S1.out.grown q os) HR.out hk0 (h) (by omega)
          have hc4 := S1.out.cmp HC.out hk0 d[m]! d[h]!
          have hv4 : ¬ cf d[m]! d[h]! < 0 := of_decide_eq_false hL
          have hd4 : decide (cf d[m]! d[h]! < 0) = false := hL
          generalize cf d[m]! d[h]! = r4 at hc4 hv4 hd4
          generalize enS w g d[m]! = cx4 at lx4 hc4
          generalize enS w g d[h]! = cy4 at ly4 hc4
          clear hL
          go_wp2_with fail
          go_quiet_grown (first | (go_at_fn f0; refine Calls.grown_of (hc4 _ _)))
          have S2 : Aside (SWK (enS w g) 11 w g 0 d (grow (wr.drewN nq) osq)) := S1.out.grown nq osq
          clear lx4 ly4 hc4 S1
          generalize grow (wr.drewN nq) osq = w2 at S2 ⊢
          clear nq osq
          go_wp2_with fail
          go_roundw
          case rel => exact ⟨h + 1, j, by go_num, rfl, by omega, by omega, hj, S2, HQ2⟩
          case measure => simp [intOf]; omega
        | true =>
          have HQ2 : Aside (Srch (fun x => ltOf cf d[m]! d[x]!) a m i h) := HQ.out.down hri hi1 hj1 hL
          clear HQ hri hh
          have lx5 := fun (q : Nat) (os : Array Obj) => SwS.ld (S1.out.grown q os) HR.out hk0 (m) (by omega)
          have ly5 := fun (q : Nat) (os : Array Obj) => SwS.ld (S1.out.grown q os) HR.out hk0 (h) (by omega)
          have hc5 := S1.out.cmp HC.out hk0 d[m]! d[h]!
          have hv5 : cf d[m]! d[h]! < 0 := of_decide_eq_true hL
          have hd5 : decide (cf d[m]! d[h]! < 0) = true := hL
          generalize cf d[m]! d[h]! = r5 at hc5 hv5 hd5
          generalize enS w g d[m]! = cx5 at lx5 hc5
          generalize enS w g d[h]! = cy5 at ly5 hc5
          clear hL
          go_wp2_with fail
          go_quiet_grown (first | (go_at_fn f0; refine Calls.grown_of (hc5 _ _)))
          have S2 : Aside (SWK (enS w g) 11 w g 0 d (grow (wr.drewN nq) osq)) := S1.out.grown nq osq
          clear lx5 ly5 hc5 S1
          generalize grow (wr.drewN nq) osq = w2 at S2 ⊢
          clear nq osq
          go_wp2_with fail
          go_roundw
          case rel => exact ⟨i, h, rfl, rfl, by omega, by omega, by omega, S2, HQ2⟩
          case measure => simp [intOf]; omega
      · have hltz : ¬ (i : Int) < (j : Int) := by omega
        obtain rfl : i = j := by omega
        go_wp2
        go_loopw [17] (fun vk wr => ∃ (k : Nat) (dk : Array (SortEl w g)), vk = .int .i64 (k : Nat) ∧ i ≤ k ∧ k ≤ m ∧ Aside (SWK (enS w g) 11 w g 0 dk wr) ∧ Hid (Shd k m d dk ∧ PermIn a b d dk)) (fun vk _ => (intOf vk).toNat)
        case atStart => exact ⟨m, d, rfl, by omega, by omega, S1, ⟨Shd.zero _ _, permIn_refl _ _ _⟩⟩
        case round =>
          obtain ⟨k, dk, rfl, hak, hki, S3, HP⟩ := hrel
          clear S1
          by_cases hlt2 : i < k
          · obtain ⟨k, rfl⟩ : ∃ k', k = k' + 1 := ⟨k - 1, by omega⟩
            have hltz2 : (i : Int) < ((k + 1 : Nat) : Int) := by omega
            have hkn : dk.size = n := HP.out.1.1.trans HN.out
            have hk0 : dk.size = d0.size := hkn.trans (HN.out.symm.trans HS.out)
            have rk : IntKind.i64.wrap (((k + 1 : Nat) : Int) - 1) = (k : Int) := by rw [IntKind.wrap_i64]; omega
            have ek : (((k + 1 : Nat) : Int)).toNat = k + 1 := by omega
            have pk : (0 : Int) ≤ ((k + 1 : Nat) : Int) := by omega
            have bk : ((k + 1 : Nat) : Int) < (n : Int) := by omega
            have bk0 : (k : Int) < (n : Int) := by omega
            have HP2 : Hid (Shd k m d (swp dk (k + 1) k) ∧ PermIn a b d (swp dk (k + 1) k)) := ⟨HP.out.1.step hki (by rw [HN.out]; omega), permIn_trans _ _ _ _ _ HP.out.2 (swp_permIn dk a b (k + 1) k (by omega) (by omega) (by omega) (by omega) (by omega))⟩
            clear HP
            have S4 : Aside (SWK (enS w g) 11 w g 0 (swp dk (k + 1) (k)) ((wr.drew.setCells g ((k + 1) * 11) (enS w g dk[k]!)).setCells g ((k) * 11) (enS w g dk[k + 1]!))) := SwS.swapped S3.out HR.out (k + 1) (k) (by omega) (by omega)
            have la6 := SwS.ld S3.out.drew HR.out hk0 (k + 1) (by omega)
            have lb6 := SwS.ld S3.out.drew HR.out hk0 (k) (by omega)
            have sa6 := SwS.st1 S3.out HR.out hk0 (k + 1) (by omega) dk[k]!
            have sb6 := SwS.st2 S3.out HR.out hk0 (k + 1) (k) (by omega) (by omega) dk[k]! dk[k + 1]!
            generalize enS w g dk[k + 1]! = cI at S4 la6 sb6
            generalize enS w g dk[k]! = cJ at S4 lb6 sa6 sb6
            clear S3
            go_wp2_with fail
            go_big_region_o
            clear la6 lb6 sa6 sb6
            generalize (wr.drew.setCells g ((k + 1) * 11) cJ).setCells g ((k) * 11) cI = w4 at S4 ⊢
            go_wp2_with fail
            go_roundw
            case rel => exact ⟨k, _, by go_num, by omega, by omega, S4, HP2⟩
            case measure => simp [intOf]
          · have hltz2 : ¬ (i : Int) < (k : Int) := by omega
            obtain rfl : k = i := by omega
            go_wp2
            (try simp only [Exit.inBlock, Exit.then]); refine bodyPost_ret (results_none rfl _ _ _) rfl ?_
            have hm := HM.out
            subst hm
            exact ⟨rfl, dk, S3.out, HP.out.2, HP.out.1.sorted HO.out hi hki H1.out (fun x h1 h2 => HQ.out.2.2.2.1 x h1 h2) (fun x h1 h2 => HQ.out.2.2.2.2 x h1 h2)⟩
end
end Go.Proofs.Ytchpekidnbdpdaa


/- slices.SortStableFunc of spans: symMergeCmpFunc: two sorted parts merged in place. Printed by tools/genStbD.py. -/
namespace Go.Proofs.Ytchpekidnbdpdaa
open Go.RowKit Go.Shelf Go.Sort
attribute [local go_sem ↓] storeKS_shut loadSp_shutS

section
variable {w : World} {g : Nat} [Inhabited (SortEl w g)] {d0 : Array (SortEl w g)}
set_option maxRecDepth 100000 in
set_option maxHeartbeats 8000000 in
theorem stSymMerge (R : RowK (enS w g) 11 w g 0 d0) {cf : SortEl w g → SortEl w g → Int} (hO : SWO (ltOf cf)) {f0 : Nat} {cb : Array Value} (eg : ∀ args W, (callFunc f0 args).run Try.prog W = .ok (.enter f0 args) W)
    (hC : CmpLays Try.prog f0 cb (enS w g) 11 cf g 0 d0.size w) {n cap : Nat} (hz : n < 1152921504606846976) : ∀ (f a m b : Nat) (d : Array (SortEl w g)) (W : World), b - a ≤ f → a < m → m < b → b ≤ n →
    SWK (enS w g) 11 w g 0 d W → d.size = d0.size → d.size = n → SortedIn (ltOf cf) a m d → SortedIn (ltOf cf) m b d →
    Calls Try.prog 77 #[.slice (some ⟨g, 0, none⟩) n cap, .int .i64 (a : Nat), .int .i64 (m : Nat), .int .i64 (b : Nat), .func (.func f0) #[] cb] W fun e w' =>
      e = .returned (.tuple #[]) ∧ ∃ d', SWK (enS w g) 11 w g 0 d' w' ∧ PermIn a b d d' ∧ SortedIn (ltOf cf) a b d' := by
  intro f
  induction f with
  | zero => intro a m b d W h1 h2 h3; omega
  | succ f ih =>
  intro a m b d W hf ham hmb hb S hs hn hs1 hs2
  have mixed : Try.prog.follows .mixedOrders = true := by kernel_rfl
  have S0 : Aside _ := S
  have HR : Aside _ := R
  have HC : Aside _ := hC
  have IH : Aside _ := ih
  have HO : Aside _ := hO
  have HS := Lib.hid hs
  have HN := Lib.hid hn
  have H1 : Aside _ := hs1
  have H2 : Aside _ := hs2
  have hk0 : d.size = d0.size := hs
  have hkn : d.size = n := hn
  clear S R hs hn hC ih hO hs1 hs2
  by_cases h1 : m = a + 1
  · exact stSym1 HR.out HO.out eg HC.out hz h1 hmb hb S0.out HS.out HN.out H1.out H2.out
  by_cases h2 : b = m + 1
  · exact stSym2 HR.out HO.out eg HC.out hz (by omega) h2 hb S0.out HS.out HN.out H1.out H2.out
  have h1z : ((m : Int) - (a : Int) == 1) = false := by simp; omega
  have rma : IntKind.i64.wrap ((m : Int) - (a : Int)) = (m : Int) - (a : Int) := by rw [IntKind.wrap_i64]; omega
  have h2z : ((b : Int) - (m : Int) == 1) = false := by simp; omega
  have rbm : IntKind.i64.wrap ((b : Int) - (m : Int)) = (b : Int) - (m : Int) := by rw [IntKind.wrap_i64]; omega
  obtain ⟨mid, hmid⟩ : ∃ mid, (a + b) / 2 = mid := ⟨_, rfl⟩
  obtain ⟨lo, hi, HB⟩ : ∃ lo hi, MgB a m b mid lo hi := ⟨_, _, by omega, by omega, hmid.symm, rfl, rfl⟩
  have hmz : ((a : Int) + (b : Int)) / 2 = (mid : Int) := by omega
  have rab : IntKind.i64.wrap ((a : Int) + (b : Int)) = (a : Int) + (b : Int) := by rw [IntKind.wrap_i64]; omega
  obtain ⟨k1, k2, k3, k4, k5, k6, k7, k8, k9, k10⟩ := HB.ok
  obtain ⟨nn, hnn⟩ : ∃ nn, mid + m = nn := ⟨_, rfl⟩
  obtain ⟨p, hp⟩ : ∃ p, mid + m - 1 = p := ⟨_, rfl⟩
  have rmm : IntKind.i64.wrap ((mid : Int) + (m : Int)) = (nn : Int) := by rw [IntKind.wrap_i64]; omega
  have rp : IntKind.i64.wrap ((nn : Int) - 1) = (p : Int) := by rw [IntKind.wrap_i64]; omega
  have hat := HB.at
  rw [hp] at hat
  have HAT : Aside _ := hat
  have hends := fun s => HB.ends (s := s)
  have HEN : Aside _ := hends
  have hri := rises_mid HO.out (p := p) H1.out H2.out k1 k3 hat
  have HRI : Aside _ := hri
  have HBB : Aside _ := HB
  have HP0 := Lib.hid hp
  have HNN := Lib.hid hnn
  clear hat hends hri hmid
  have LO : (m : Int) > (mid : Int) ∧ IntKind.i64.wrap ((nn : Int) - (b : Int)) = (lo : Int) ∧ mid = hi ∨ ¬ (m : Int) > (mid : Int) ∧ a = lo ∧ m = hi := by
    by_cases hc : mid < m
    · have := k9 hc
      left; exact ⟨by omega, by rw [IntKind.wrap_i64]; omega, by omega⟩
    · have := k10 (by omega)
      right; exact ⟨by omega, by omega, by omega⟩
  clear k9 k10 HB hp hnn
  go_enter Try.func77, Try.ntmps77
  rcases LO with ⟨c1, c2, rfl⟩ | ⟨c1, rfl, rfl⟩
  ·
    go_wp2
    go_loopw [20, 21] (fun vs vr wr => ∃ s r : Nat, vs = .int .i64 (s : Nat) ∧ vr = .int .i64 (r : Nat) ∧ lo ≤ s ∧ s ≤ r ∧ r ≤ mid ∧ Aside (SWK (enS w g) 11 w g 0 d wr) ∧ Aside (Srch (fun c => ltOf cf d[p - c]! d[c]!) lo mid s r)) (fun vs vr _ => (intOf vr).toNat - (intOf vs).toNat)
    case atStart => exact ⟨lo, mid, by go_num, by go_num, by omega, by omega, by omega, S0, Srch.start (by omega)⟩
    case round =>
      obtain ⟨s, r, rfl, rfl, hs0, hsr, hr0, S1, HQ⟩ := hrel
      have HC1 := Lib.hid c1
      clear S0 c1 c2
      by_cases hlt : s < r
      · have hltz : (s : Int) < (r : Int) := by omega
        obtain ⟨h, hh⟩ : ∃ h, (s + r) / 2 = h := ⟨_, rfl⟩
        have hhz : ((s : Int) + (r : Int)) / 2 = (h : Int) := by omega
        have hi1 : s ≤ h := by omega
        have hj1 : h < r := by omega
        obtain ⟨q1, q2, q3⟩ := HAT.out h (by omega) (by omega)
        have rij : IntKind.i64.wrap ((s : Int) + (r : Int)) = (s : Int) + (r : Int) := by rw [IntKind.wrap_i64]; omega
        obtain ⟨v, hv⟩ : ∃ v, p - h = v := ⟨_, rfl⟩
        have rv : IntKind.i64.wrap ((p : Int) - (h : Int)) = (v : Int) := by rw [IntKind.wrap_i64]; omega
        rw [hv] at q1 q2
        have bh : (h : Int) < (n : Int) := by omega
        have bv : (v : Int) < (n : Int) := by omega
        have hqv : ∀ b', ltOf cf d[v]! d[h]! = b' → (fun c => ltOf cf d[p - c]! d[c]!) h = b' := fun b' e => by simp only; rw [hv]; exact e
        cases hL : ltOf cf d[v]! d[h]! with
        | false =>
          have HQ2 : Aside (Srch (fun c => ltOf cf d[p - c]! d[c]!) lo mid (h + 1) r) := HQ.out.up HRI.out hi1 hj1 (hqv _ hL)
          clear HQ hh hv hqv
          have lx7 := fun (q : Nat) (os : Array Obj) => SwS.ld (S1.out.grown q os) HR.out hk0 (v) (by omega)
          have ly7 := fun (q : Nat) (os : Array Obj) => SwS.ld (S1.out.grown q os) HR.out hk0 (h) (by omega)
          have hc7 := S1.out.cmp HC.out hk0 d[v]! d[h]!
          have hv7 : ¬ cf d[v]! d[h]! < 0 := of_decide_eq_false hL
          have hd7 : decide (cf d[v]! d[h]! < 0) = false := hL
          generalize cf d[v]! d[h]! = r7 at hc7 hv7 hd7
          generalize enS w g d[v]! = cx7 at lx7 hc7
          generalize enS w g d[h]! = cy7 at ly7 hc7
          clear hL
          go_wp2_with fail
          go_quiet_grown (first | (go_at_fn f0; refine Calls.grown_of (hc7 _ _)))
          have S2 : Aside (SWK (enS w g) 11 w g 0 d (grow (wr.drewN nq) osq)) := S1.out.grown nq osq
          clear lx7 ly7 hc7 S1
          generalize grow (wr.drewN nq) osq = w2 at S2 ⊢
          clear nq osq
          go_wp2_with fail
          go_roundw
          case rel => exact ⟨h + 1, r, by go_num, rfl, by omega, by omega, hr0, S2, HQ2⟩
          case measure => simp [intOf]; omega
        | true =>
          have HQ2 : Aside (Srch (fun c => ltOf cf d[p - c]! d[c]!) lo mid s h) := HQ.out.down HRI.out hi1 hj1 (hqv _ hL)
          clear HQ hh hv hqv
          have lx8 := fun (q : Nat) (os : Array Obj) => SwS.ld (S1.out.grown q os) HR.out hk0 (v) (by omega)
          have ly8 := fun (q : Nat) (os : Array Obj) => SwS.ld (S1.out.grown q os) HR.out hk0 (h) (by omega)
          have hc8 := S1.out.cmp HC.out hk0 d[v]! d[h]!
          have hv8 : cf d[v]! d[h]! < 0 := of_decide_eq_true hL
          have hd8 : decide (cf d[v]! d[h]! < 0) = true := hL
          generalize cf d[v]! d[h]! = r8 at hc8 hv8 hd8
          generalize enS w g d[v]! = cx8 at lx8 hc8
          generalize enS w g d[h]! = cy8 at ly8 hc8
          clear hL
          go_wp2_with fail
          go_quiet_grown (first | (go_at_fn f0; refine Calls.grown_of (hc8 _ _)))
          have S2 : Aside (SWK (enS w g) 11 w g 0 d (grow (wr.drewN nq) osq)) := S1.out.grown nq osq
          clear lx8 ly8 hc8 S1
          generalize grow (wr.drewN nq) osq = w2 at S2 ⊢
          clear nq osq
          go_wp2_with fail
          go_roundw
          case rel => exact ⟨s, h, rfl, rfl, hs0, by omega, by omega, S2, HQ2⟩
          case measure => simp [intOf]; omega
      · have hltz : ¬ (s : Int) < (r : Int) := by omega
        obtain rfl : s = r := by omega
        obtain ⟨n1, n2, n3, n4, n5, n6⟩ := HEN.out s (by omega) (by omega)
        obtain ⟨e, he⟩ : ∃ e, mid + m - s = e := ⟨_, rfl⟩
        have re : IntKind.i64.wrap ((nn : Int) - (s : Int)) = (e : Int) := by have := HNN.out; rw [IntKind.wrap_i64]; omega
        have hes : e + s = mid + m := by omega
        rw [he] at n1 n2 n6
        have HV : ∀ d1, Rot s m e d d1 → Halves (ltOf cf) a s mid e b d1 := fun d1 hr => by
          have hQ := HQ.out
          rw [← HP0.out] at hQ
          have := halves_of HO.out HBB.out H1.out H2.out hQ (d1 := d1) (by rw [he]; exact hr)
          rwa [he] at this
        have HVV : Aside _ := HV
        have HES := Lib.hid hes
        clear HV HQ he hes hk0 hkn
        by_cases cA : s < m
        · by_cases cB : s < mid
          · by_cases cC : a < s
            · by_cases cD : e < b
              ·
                have zA : (s : Int) < (m : Int) := by have := HES.out; omega
                have zA' : (mid : Int) < (e : Int) := by have := HES.out; omega
                have zB : (s : Int) < (mid : Int) := by have := HES.out; omega
                have zB' : (m : Int) < (e : Int) := by have := HES.out; omega
                have zC : (a : Int) < (s : Int) := by have := HES.out; omega
                have zD : (e : Int) < (b : Int) := by have := HES.out; omega
                have hr := stRotate (cap := cap) HR.out S1.out HS.out HN.out (.func (.func f0) #[] cb) (a := s) (m := m) (b := e) (by omega) (by omega) (by omega) hz
                clear S1
                go_wp2_with (go_at_call 92; refine hr.mono ?_; rintro e1 w1 ⟨rfl, d1, T1, r1, p1⟩)
                have hp1 : Hid (PermIn a b d d1) := permIn_mono _ _ s e a b (by omega) (by omega) (by have := HN.out; omega) p1
                have HH : Aside (Halves (ltOf cf) a s mid e b d1) := HVV.out d1 r1
                have T1 : Aside (SWK (enS w g) 11 w g 0 d1 w1) := T1
                clear hr r1 p1
                have hz1 : Hid (d1.size = n) := hp1.out.1.trans HN.out
                have hy1 : Hid (d1.size = d0.size) := hp1.out.1.trans HS.out
                have hl := IH.out a s mid d1 w1 (by omega) (by omega) (by omega) (by omega) T1.out hy1.out hz1.out HH.out.s1 HH.out.s2
                clear T1
                go_wp2_with (go_at_call_of 77 (Value.int .i64 (s : Int)); refine hl.mono ?_; rintro e2 w2 ⟨rfl, d2, T2, p2, s2⟩)
                have T2 : Aside (SWK (enS w g) 11 w g 0 d2 w2) := T2
                have P2 : Aside (PermIn a mid d1 d2 ∧ SortedIn (ltOf cf) a mid d2) := ⟨p2, s2⟩
                clear hl p2 s2
                have O2 : Hid (∀ p, mid ≤ p → d2[p]! = d1[p]!) := fun p hp => P2.out.1.2.1 p (Or.inr hp)
                have hz2 : Hid (d2.size = n) := P2.out.1.1.trans hz1.out
                have hy2 : Hid (d2.size = d0.size) := P2.out.1.1.trans hy1.out
                have hl := IH.out mid e b d2 w2 (by omega) (by omega) (by omega) (by omega) T2.out hy2.out hz2.out (fun x y h1 h2 h3 => by rw [O2.out x h1, O2.out y (by omega)]; exact HH.out.s3 x y h1 h2 h3) (fun x y h1 h2 h3 => by rw [O2.out x (by omega), O2.out y (by omega)]; exact HH.out.s4 x y h1 h2 h3)
                clear T2
                go_wp2_with (go_at_call_of 77 (Value.int .i64 (e : Int)); refine hl.mono ?_; rintro e3 w3 ⟨rfl, d3, T3, p3, s3⟩)
                go_end0
                exact ⟨rfl, d3, T3, Halves.join (by omega) (by omega) (by have := HN.out; omega) hp1.out HH.out P2.out.1 P2.out.2 p3 s3⟩
              ·
                have zA : (s : Int) < (m : Int) := by have := HES.out; omega
                have zA' : (mid : Int) < (e : Int) := by have := HES.out; omega
                have zB : (s : Int) < (mid : Int) := by have := HES.out; omega
                have zB' : (m : Int) < (e : Int) := by have := HES.out; omega
                have zC : (a : Int) < (s : Int) := by have := HES.out; omega
                have zD : ¬ (e : Int) < (b : Int) := by have := HES.out; omega
                have hr := stRotate (cap := cap) HR.out S1.out HS.out HN.out (.func (.func f0) #[] cb) (a := s) (m := m) (b := e) (by omega) (by omega) (by omega) hz
                clear S1
                go_wp2_with (go_at_call 92; refine hr.mono ?_; rintro e1 w1 ⟨rfl, d1, T1, r1, p1⟩)
                have hp1 : Hid (PermIn a b d d1) := permIn_mono _ _ s e a b (by omega) (by omega) (by have := HN.out; omega) p1
                have HH : Aside (Halves (ltOf cf) a s mid e b d1) := HVV.out d1 r1
                have T1 : Aside (SWK (enS w g) 11 w g 0 d1 w1) := T1
                clear hr r1 p1
                have hz1 : Hid (d1.size = n) := hp1.out.1.trans HN.out
                have hy1 : Hid (d1.size = d0.size) := hp1.out.1.trans HS.out
                have hl := IH.out a s mid d1 w1 (by omega) (by omega) (by omega) (by omega) T1.out hy1.out hz1.out HH.out.s1 HH.out.s2
                clear T1
                go_wp2_with (go_at_call_of 77 (Value.int .i64 (s : Int)); refine hl.mono ?_; rintro e2 w2 ⟨rfl, d2, T2, p2, s2⟩)
                have T2 : Aside (SWK (enS w g) 11 w g 0 d2 w2) := T2
                have P2 : Aside (PermIn a mid d1 d2 ∧ SortedIn (ltOf cf) a mid d2) := ⟨p2, s2⟩
                clear hl p2 s2
                have O2 : Hid (∀ p, mid ≤ p → d2[p]! = d1[p]!) := fun p hp => P2.out.1.2.1 p (Or.inr hp)
                have hz2 : Hid (d2.size = n) := P2.out.1.1.trans hz1.out
                have hy2 : Hid (d2.size = d0.size) := P2.out.1.1.trans hy1.out
                go_wp2
                go_end0
                exact ⟨rfl, d2, T2.out, Halves.join (by omega) (by omega) (by have := HN.out; omega) hp1.out HH.out P2.out.1 P2.out.2 (permIn_refl _ _ _) (fun x y h1 h2 h3 => by
                  rw [O2.out x (by omega), O2.out y (by omega)]
                  have q3 := HH.out.s3; have q4 := HH.out.s4
                  refine (?_ : SortedIn (ltOf cf) mid b d1) x y h1 h2 h3
                  rw [show e = b by omega] at q3; exact q3)⟩
            · by_cases cD : e < b
              ·
                have zA : (s : Int) < (m : Int) := by have := HES.out; omega
                have zA' : (mid : Int) < (e : Int) := by have := HES.out; omega
                have zB : (s : Int) < (mid : Int) := by have := HES.out; omega
                have zB' : (m : Int) < (e : Int) := by have := HES.out; omega
                have zC : ¬ (a : Int) < (s : Int) := by have := HES.out; omega
                have zD : (e : Int) < (b : Int) := by have := HES.out; omega
                have hr := stRotate (cap := cap) HR.out S1.out HS.out HN.out (.func (.func f0) #[] cb) (a := s) (m := m) (b := e) (by omega) (by omega) (by omega) hz
                clear S1
                go_wp2_with (go_at_call 92; refine hr.mono ?_; rintro e1 w1 ⟨rfl, d1, T1, r1, p1⟩)
                have hp1 : Hid (PermIn a b d d1) := permIn_mono _ _ s e a b (by omega) (by omega) (by have := HN.out; omega) p1
                have HH : Aside (Halves (ltOf cf) a s mid e b d1) := HVV.out d1 r1
                have T1 : Aside (SWK (enS w g) 11 w g 0 d1 w1) := T1
                clear hr r1 p1
                have hz1 : Hid (d1.size = n) := hp1.out.1.trans HN.out
                have hy1 : Hid (d1.size = d0.size) := hp1.out.1.trans HS.out
                have P2 : Aside (PermIn a mid d1 d1 ∧ SortedIn (ltOf cf) a mid d1) := ⟨permIn_refl _ _ _, by
                  have q1 := HH.out.s1; have q2 := HH.out.s2
                  rw [show s = a by omega] at q2; exact q2⟩
                have O2 : Hid (∀ p, mid ≤ p → d1[p]! = d1[p]!) := fun p hp => P2.out.1.2.1 p (Or.inr hp)
                have hz2 : Hid (d1.size = n) := P2.out.1.1.trans hz1.out
                have hy2 : Hid (d1.size = d0.size) := P2.out.1.1.trans hy1.out
                have hl := IH.out mid e b d1 w1 (by omega) (by omega) (by omega) (by omega) T1.out hy2.out hz2.out HH.out.s3 HH.out.s4
                clear T1
                go_wp2_with (go_at_call_of 77 (Value.int .i64 (e : Int)); refine hl.mono ?_; rintro e3 w3 ⟨rfl, d3, T3, p3, s3⟩)
                go_end0
                exact ⟨rfl, d3, T3, Halves.join (by omega) (by omega) (by have := HN.out; omega) hp1.out HH.out P2.out.1 P2.out.2 p3 s3⟩
              ·
                have zA : (s : Int) < (m : Int) := by have := HES.out; omega
                have zA' : (mid : Int) < (e : Int) := by have := HES.out; omega
                have zB : (s : Int) < (mid : Int) := by have := HES.out; omega
                have zB' : (m : Int) < (e : Int) := by have := HES.out; omega
                have zC : ¬ (a : Int) < (s : Int) := by have := HES.out; omega
                have zD : ¬ (e : Int) < (b : Int) := by have := HES.out; omega
                have hr := stRotate (cap := cap) HR.out S1.out HS.out HN.out (.func (.func f0) #[] cb) (a := s) (m := m) (b := e) (by omega) (by omega) (by omega) hz
                clear S1
                go_wp2_with (go_at_call 92; refine hr.mono ?_; rintro e1 w1 ⟨rfl, d1, T1, r1, p1⟩)
                have hp1 : Hid (PermIn a b d d1) := permIn_mono _ _ s e a b (by omega) (by omega) (by have := HN.out; omega) p1
                have HH : Aside (Halves (ltOf cf) a s mid e b d1) := HVV.out d1 r1
                have T1 : Aside (SWK (enS w g) 11 w g 0 d1 w1) := T1
                clear hr r1 p1
                have hz1 : Hid (d1.size = n) := hp1.out.1.trans HN.out
                have hy1 : Hid (d1.size = d0.size) := hp1.out.1.trans HS.out
                have P2 : Aside (PermIn a mid d1 d1 ∧ SortedIn (ltOf cf) a mid d1) := ⟨permIn_refl _ _ _, by
                  have q1 := HH.out.s1; have q2 := HH.out.s2
                  rw [show s = a by omega] at q2; exact q2⟩
                have O2 : Hid (∀ p, mid ≤ p → d1[p]! = d1[p]!) := fun p hp => P2.out.1.2.1 p (Or.inr hp)
                have hz2 : Hid (d1.size = n) := P2.out.1.1.trans hz1.out
                have hy2 : Hid (d1.size = d0.size) := P2.out.1.1.trans hy1.out
                go_wp2
                go_end0
                exact ⟨rfl, d1, T1.out, Halves.join (by omega) (by omega) (by have := HN.out; omega) hp1.out HH.out P2.out.1 P2.out.2 (permIn_refl _ _ _) (fun x y h1 h2 h3 => by
                  
                  have q3 := HH.out.s3; have q4 := HH.out.s4
                  refine (?_ : SortedIn (ltOf cf) mid b d1) x y h1 h2 h3
                  rw [show e = b by omega] at q3; exact q3)⟩
          · have cC : a < s := by omega
            have cD : e < b := by have := HES.out; omega
            have zA : (s : Int) < (m : Int) := by have := HES.out; omega
            have zA' : (mid : Int) < (e : Int) := by have := HES.out; omega
            have zB : ¬ (s : Int) < (mid : Int) := by have := HES.out; omega
            have zB' : ¬ (m : Int) < (e : Int) := by have := HES.out; omega
            have zC : (a : Int) < (s : Int) := by have := HES.out; omega
            have zD : (e : Int) < (b : Int) := by have := HES.out; omega
            have hp1 : Hid (PermIn a b d d) := permIn_refl _ _ _
            have HH : Aside (Halves (ltOf cf) a s mid e b d) := HVV.out d (Rot.none d (by omega) (by omega) (by have := HES.out; omega))
            have hz1 : Hid (d.size = n) := hp1.out.1.trans HN.out
            have hy1 : Hid (d.size = d0.size) := hp1.out.1.trans HS.out
            have P2 : Aside (PermIn a mid d d ∧ SortedIn (ltOf cf) a mid d) := ⟨permIn_refl _ _ _, by
              have q1 := HH.out.s1; have q2 := HH.out.s2
              rw [show s = mid by omega] at q1; exact q1⟩
            have O2 : Hid (∀ p, mid ≤ p → d[p]! = d[p]!) := fun p hp => P2.out.1.2.1 p (Or.inr hp)
            have hz2 : Hid (d.size = n) := P2.out.1.1.trans hz1.out
            have hy2 : Hid (d.size = d0.size) := P2.out.1.1.trans hy1.out
            have hl := IH.out mid e b d wr (by omega) (by omega) (by omega) (by omega) S1.out hy2.out hz2.out HH.out.s3 HH.out.s4
            clear S1
            go_wp2_with (go_at_call_of 77 (Value.int .i64 (e : Int)); refine hl.mono ?_; rintro e3 w3 ⟨rfl, d3, T3, p3, s3⟩)
            go_end0
            exact ⟨rfl, d3, T3, Halves.join (by omega) (by omega) (by have := HN.out; omega) hp1.out HH.out P2.out.1 P2.out.2 p3 s3⟩
        · exfalso; have := HC1.out; omega
  ·
    go_wp2
    go_loopw [20, 21] (fun vs vr wr => ∃ s r : Nat, vs = .int .i64 (s : Nat) ∧ vr = .int .i64 (r : Nat) ∧ a ≤ s ∧ s ≤ r ∧ r ≤ m ∧ Aside (SWK (enS w g) 11 w g 0 d wr) ∧ Aside (Srch (fun c => ltOf cf d[p - c]! d[c]!) a m s r)) (fun vs vr _ => (intOf vr).toNat - (intOf vs).toNat)
    case atStart => exact ⟨a, m, by go_num, by go_num, by omega, by omega, by omega, S0, Srch.start (by omega)⟩
    case round =>
      obtain ⟨s, r, rfl, rfl, hs0, hsr, hr0, S1, HQ⟩ := hrel
      have HC1 := Lib.hid c1
      clear S0 c1
      by_cases hlt : s < r
      · have hltz : (s : Int) < (r : Int) := by omega
        obtain ⟨h, hh⟩ : ∃ h, (s + r) / 2 = h := ⟨_, rfl⟩
        have hhz : ((s : Int) + (r : Int)) / 2 = (h : Int) := by omega
        have hi1 : s ≤ h := by omega
        have hj1 : h < r := by omega
        obtain ⟨q1, q2, q3⟩ := HAT.out h (by omega) (by omega)
        have rij : IntKind.i64.wrap ((s : Int) + (r : Int)) = (s : Int) + (r : Int) := by rw [IntKind.wrap_i64]; omega
        obtain ⟨v, hv⟩ : ∃ v, p - h = v := ⟨_, rfl⟩
        have rv : IntKind.i64.wrap ((p : Int) - (h : Int)) = (v : Int) := by rw [IntKind.wrap_i64]; omega
        rw [hv] at q1 q2
        have bh : (h : Int) < (n : Int) := by omega
        have bv : (v : Int) < (n : Int) := by omega
        have hqv : ∀ b', ltOf cf d[v]! d[h]! = b' → (fun c => ltOf cf d[p - c]! d[c]!) h = b' := fun b' e => by simp only; rw [hv]; exact e
        cases hL : ltOf cf d[v]! d[h]! with
        | false =>
          have HQ2 : Aside (Srch (fun c => ltOf cf d[p - c]! d[c]!) a m (h + 1) r) := HQ.out.up HRI.out hi1 hj1 (hqv _ hL)
          clear HQ hh hv hqv
          have lx7 := fun (q : Nat) (os : Array Obj) => SwS.ld (S1.out.grown q os) HR.out hk0 (v) (by omega)
          have ly7 := fun (q : Nat) (os : Array Obj) => SwS.ld (S1.out.grown q os) HR.out hk0 (h) (by omega)
          have hc7 := S1.out.cmp HC.out hk0 d[v]! d[h]!
          have hv7 : ¬ cf d[v]! d[h]! < 0 := of_decide_eq_false hL
          have hd7 : decide (cf d[v]! d[h]! < 0) = false := hL
          generalize cf d[v]! d[h]! = r7 at hc7 hv7 hd7
          generalize enS w g d[v]! = cx7 at lx7 hc7
          generalize enS w g d[h]! = cy7 at ly7 hc7
          clear hL
          go_wp2_with fail
          go_quiet_grown (first | (go_at_fn f0; refine Calls.grown_of (hc7 _ _)))
          have S2 : Aside (SWK (enS w g) 11 w g 0 d (grow (wr.drewN nq) osq)) := S1.out.grown nq osq
          clear lx7 ly7 hc7 S1
          generalize grow (wr.drewN nq) osq = w2 at S2 ⊢
          clear nq osq
          go_wp2_with fail
          go_roundw
          case rel => exact ⟨h + 1, r, by go_num, rfl, by omega, by omega, hr0, S2, HQ2⟩
          case measure => simp [intOf]; omega
        | true =>
          have HQ2 : Aside (Srch (fun c => ltOf cf d[p - c]! d[c]!) a m s h) := HQ.out.down HRI.out hi1 hj1 (hqv _ hL)
          clear HQ hh hv hqv
          have lx8 := fun (q : Nat) (os : Array Obj) => SwS.ld (S1.out.grown q os) HR.out hk0 (v) (by omega)
          have ly8 := fun (q : Nat) (os : Array Obj) => SwS.ld (S1.out.grown q os) HR.out hk0 (h) (by omega)
          have hc8 := S1.out.cmp HC.out hk0 d[v]! d[h]!
          have hv8 : cf d[v]! d[h]! < 0 := of_decide_eq_true hL
          have hd8 : decide (cf d[v]! d[h]! < 0) = true := hL
          generalize cf d[v]! d[h]! = r8 at hc8 hv8 hd8
          generalize enS w g d[v]! = cx8 at lx8 hc8
          generalize enS w g d[h]! = cy8 at ly8 hc8
          clear hL
          go_wp2_with fail
          go_quiet_grown (first | (go_at_fn f0; refine Calls.grown_of (hc8 _ _)))
          have S2 : Aside (SWK (enS w g) 11 w g 0 d (grow (wr.drewN nq) osq)) := S1.out.grown nq osq
          clear lx8 ly8 hc8 S1
          generalize grow (wr.drewN nq) osq = w2 at S2 ⊢
          clear nq osq
          go_wp2_with fail
          go_roundw
          case rel => exact ⟨s, h, rfl, rfl, hs0, by omega, by omega, S2, HQ2⟩
          case measure => simp [intOf]; omega
      · have hltz : ¬ (s : Int) < (r : Int) := by omega
        obtain rfl : s = r := by omega
        obtain ⟨n1, n2, n3, n4, n5, n6⟩ := HEN.out s (by omega) (by omega)
        obtain ⟨e, he⟩ : ∃ e, mid + m - s = e := ⟨_, rfl⟩
        have re : IntKind.i64.wrap ((nn : Int) - (s : Int)) = (e : Int) := by have := HNN.out; rw [IntKind.wrap_i64]; omega
        have hes : e + s = mid + m := by omega
        rw [he] at n1 n2 n6
        have HV : ∀ d1, Rot s m e d d1 → Halves (ltOf cf) a s mid e b d1 := fun d1 hr => by
          have hQ := HQ.out
          rw [← HP0.out] at hQ
          have := halves_of HO.out HBB.out H1.out H2.out hQ (d1 := d1) (by rw [he]; exact hr)
          rwa [he] at this
        have HVV : Aside _ := HV
        have HES := Lib.hid hes
        clear HV HQ he hes hk0 hkn
        by_cases cA : s < m
        · by_cases cB : s < mid
          · by_cases cC : a < s
            · by_cases cD : e < b
              ·
                have zA : (s : Int) < (m : Int) := by have := HES.out; omega
                have zA' : (mid : Int) < (e : Int) := by have := HES.out; omega
                have zB : (s : Int) < (mid : Int) := by have := HES.out; omega
                have zB' : (m : Int) < (e : Int) := by have := HES.out; omega
                have zC : (a : Int) < (s : Int) := by have := HES.out; omega
                have zD : (e : Int) < (b : Int) := by have := HES.out; omega
                have hr := stRotate (cap := cap) HR.out S1.out HS.out HN.out (.func (.func f0) #[] cb) (a := s) (m := m) (b := e) (by omega) (by omega) (by omega) hz
                clear S1
                go_wp2_with (go_at_call 92; refine hr.mono ?_; rintro e1 w1 ⟨rfl, d1, T1, r1, p1⟩)
                have hp1 : Hid (PermIn a b d d1) := permIn_mono _ _ s e a b (by omega) (by omega) (by have := HN.out; omega) p1
                have HH : Aside (Halves (ltOf cf) a s mid e b d1) := HVV.out d1 r1
                have T1 : Aside (SWK (enS w g) 11 w g 0 d1 w1) := T1
                clear hr r1 p1
                have hz1 : Hid (d1.size = n) := hp1.out.1.trans HN.out
                have hy1 : Hid (d1.size = d0.size) := hp1.out.1.trans HS.out
                have hl := IH.out a s mid d1 w1 (by omega) (by omega) (by omega) (by omega) T1.out hy1.out hz1.out HH.out.s1 HH.out.s2
                clear T1
                go_wp2_with (go_at_call_of 77 (Value.int .i64 (s : Int)); refine hl.mono ?_; rintro e2 w2 ⟨rfl, d2, T2, p2, s2⟩)
                have T2 : Aside (SWK (enS w g) 11 w g 0 d2 w2) := T2
                have P2 : Aside (PermIn a mid d1 d2 ∧ SortedIn (ltOf cf) a mid d2) := ⟨p2, s2⟩
                clear hl p2 s2
                have O2 : Hid (∀ p, mid ≤ p → d2[p]! = d1[p]!) := fun p hp => P2.out.1.2.1 p (Or.inr hp)
                have hz2 : Hid (d2.size = n) := P2.out.1.1.trans hz1.out
                have hy2 : Hid (d2.size = d0.size) := P2.out.1.1.trans hy1.out
                have hl := IH.out mid e b d2 w2 (by omega) (by omega) (by omega) (by omega) T2.out hy2.out hz2.out (fun x y h1 h2 h3 => by rw [O2.out x h1, O2.out y (by omega)]; exact HH.out.s3 x y h1 h2 h3) (fun x y h1 h2 h3 => by rw [O2.out x (by omega), O2.out y (by omega)]; exact HH.out.s4 x y h1 h2 h3)
                clear T2
                go_wp2_with (go_at_call_of 77 (Value.int .i64 (e : Int)); refine hl.mono ?_; rintro e3 w3 ⟨rfl, d3, T3, p3, s3⟩)
                go_end0
                exact ⟨rfl, d3, T3, Halves.join (by omega) (by omega) (by have := HN.out; omega) hp1.out HH.out P2.out.1 P2.out.2 p3 s3⟩
              ·
                have zA : (s : Int) < (m : Int) := by have := HES.out; omega
                have zA' : (mid : Int) < (e : Int) := by have := HES.out; omega
                have zB : (s : Int) < (mid : Int) := by have := HES.out; omega
                have zB' : (m : Int) < (e : Int) := by have := HES.out; omega
                have zC : (a : Int) < (s : Int) := by have := HES.out; omega
                have zD : ¬ (e : Int) < (b : Int) := by have := HES.out; omega
                have hr := stRotate (cap := cap) HR.out S1.out HS.out HN.out (.func (.func f0) #[] cb) (a := s) (m := m) (b := e) (by omega) (by omega) (by omega) hz
                clear S1
                go_wp2_with (go_at_call 92; refine hr.mono ?_; rintro e1 w1 ⟨rfl, d1, T1, r1, p1⟩)
                have hp1 : Hid (PermIn a b d d1) := permIn_mono _ _ s e a b (by omega) (by omega) (by have := HN.out; omega) p1
                have HH : Aside (Halves (ltOf cf) a s mid e b d1) := HVV.out d1 r1
                have T1 : Aside (SWK (enS w g) 11 w g 0 d1 w1) := T1
                clear hr r1 p1
                have hz1 : Hid (d1.size = n) := hp1.out.1.trans HN.out
                have hy1 : Hid (d1.size = d0.size) := hp1.out.1.trans HS.out
                have hl := IH.out a s mid d1 w1 (by omega) (by omega) (by omega) (by omega) T1.out hy1.out hz1.out HH.out.s1 HH.out.s2
                clear T1
                go_wp2_with (go_at_call_of 77 (Value.int .i64 (s : Int)); refine hl.mono ?_; rintro e2 w2 ⟨rfl, d2, T2, p2, s2⟩)
                have T2 : Aside (SWK (enS w g) 11 w g 0 d2 w2) := T2
                have P2 : Aside (PermIn a mid d1 d2 ∧ SortedIn (ltOf cf) a mid d2) := ⟨p2, s2⟩
                clear hl p2 s2
                have O2 : Hid (∀ p, mid ≤ p → d2[p]! = d1[p]!) := fun p hp => P2.out.1.2.1 p (Or.inr hp)
                have hz2 : Hid (d2.size = n) := P2.out.1.1.trans hz1.out
                have hy2 : Hid (d2.size = d0.size) := P2.out.1.1.trans hy1.out
                go_wp2
                go_end0
                exact ⟨rfl, d2, T2.out, Halves.join (by omega) (by omega) (by have := HN.out; omega) hp1.out HH.out P2.out.1 P2.out.2 (permIn_refl _ _ _) (fun x y h1 h2 h3 => by
                  rw [O2.out x (by omega), O2.out y (by omega)]
                  have q3 := HH.out.s3; have q4 := HH.out.s4
                  refine (?_ : SortedIn (ltOf cf) mid b d1) x y h1 h2 h3
                  rw [show e = b by omega] at q3; exact q3)⟩
            · by_cases cD : e < b
              ·
                have zA : (s : Int) < (m : Int) := by have := HES.out; omega
                have zA' : (mid : Int) < (e : Int) := by have := HES.out; omega
                have zB : (s : Int) < (mid : Int) := by have := HES.out; omega
                have zB' : (m : Int) < (e : Int) := by have := HES.out; omega
                have zC : ¬ (a : Int) < (s : Int) := by have := HES.out; omega
                have zD : (e : Int) < (b : Int) := by have := HES.out; omega
                have hr := stRotate (cap := cap) HR.out S1.out HS.out HN.out (.func (.func f0) #[] cb) (a := s) (m := m) (b := e) (by omega) (by omega) (by omega) hz
                clear S1
                go_wp2_with (go_at_call 92; refine hr.mono ?_; rintro e1 w1 ⟨rfl, d1, T1, r1, p1⟩)
                have hp1 : Hid (PermIn a b d d1) := permIn_mono _ _ s e a b (by omega) (by omega) (by have := HN.out; omega) p1
                have HH : Aside (Halves (ltOf cf) a s mid e b d1) := HVV.out d1 r1
                have T1 : Aside (SWK (enS w g) 11 w g 0 d1 w1) := T1
                clear hr r1 p1
                have hz1 : Hid (d1.size = n) := hp1.out.1.trans HN.out
                have hy1 : Hid (d1.size = d0.size) := hp1.out.1.trans HS.out
                have P2 : Aside (PermIn a mid d1 d1 ∧ SortedIn (ltOf cf) a mid d1) := ⟨permIn_refl _ _ _, by
                  have q1 := HH.out.s1; have q2 := HH.out.s2
                  rw [show s = a by omega] at q2; exact q2⟩
                have O2 : Hid (∀ p, mid ≤ p → d1[p]! = d1[p]!) := fun p hp => P2.out.1.2.1 p (Or.inr hp)
                have hz2 : Hid (d1.size = n) := P2.out.1.1.trans hz1.out
                have hy2 : Hid (d1.size = d0.size) := P2.out.1.1.trans hy1.out
                have hl := IH.out mid e b d1 w1 (by omega) (by omega) (by omega) (by omega) T1.out hy2.out hz2.out HH.out.s3 HH.out.s4
                clear T1
                go_wp2_with (go_at_call_of 77 (Value.int .i64 (e : Int)); refine hl.mono ?_; rintro e3 w3 ⟨rfl, d3, T3, p3, s3⟩)
                go_end0
                exact ⟨rfl, d3, T3, Halves.join (by omega) (by omega) (by have := HN.out; omega) hp1.out HH.out P2.out.1 P2.out.2 p3 s3⟩
              ·
                have zA : (s : Int) < (m : Int) := by have := HES.out; omega
                have zA' : (mid : Int) < (e : Int) := by have := HES.out; omega
                have zB : (s : Int) < (mid : Int) := by have := HES.out; omega
                have zB' : (m : Int) < (e : Int) := by have := HES.out; omega
                have zC : ¬ (a : Int) < (s : Int) := by have := HES.out; omega
                have zD : ¬ (e : Int) < (b : Int) := by have := HES.out; omega
                have hr := stRotate (cap := cap) HR.out S1.out HS.out HN.out (.func (.func f0) #[] cb) (a := s) (m := m) (b := e) (by omega) (by omega) (by omega) hz
                clear S1
                go_wp2_with (go_at_call 92; refine hr.mono ?_; rintro e1 w1 ⟨rfl, d1, T1, r1, p1⟩)
                have hp1 : Hid (PermIn a b d d1) := permIn_mono _ _ s e a b (by omega) (by omega) (by have := HN.out; omega) p1
                have HH : Aside (Halves (ltOf cf) a s mid e b d1) := HVV.out d1 r1
                have T1 : Aside (SWK (enS w g) 11 w g 0 d1 w1) := T1
                clear hr r1 p1
                have hz1 : Hid (d1.size = n) := hp1.out.1.trans HN.out
                have hy1 : Hid (d1.size = d0.size) := hp1.out.1.trans HS.out
                have P2 : Aside (PermIn a mid d1 d1 ∧ SortedIn (ltOf cf) a mid d1) := ⟨permIn_refl _ _ _, by
                  have q1 := HH.out.s1; have q2 := HH.out.s2
                  rw [show s = a by omega] at q2; exact q2⟩
                have O2 : Hid (∀ p, mid ≤ p → d1[p]! = d1[p]!) := fun p hp => P2.out.1.2.1 p (Or.inr hp)
                have hz2 : Hid (d1.size = n) := P2.out.1.1.trans hz1.out
                have hy2 : Hid (d1.size = d0.size) := P2.out.1.1.trans hy1.out
                go_wp2
                go_end0
                exact ⟨rfl, d1, T1.out, Halves.join (by omega) (by omega) (by have := HN.out; omega) hp1.out HH.out P2.out.1 P2.out.2 (permIn_refl _ _ _) (fun x y h1 h2 h3 => by
                  
                  have q3 := HH.out.s3; have q4 := HH.out.s4
                  refine (?_ : SortedIn (ltOf cf) mid b d1) x y h1 h2 h3
                  rw [show e = b by omega] at q3; exact q3)⟩
          · have cC : a < s := by omega
            have cD : e < b := by have := HES.out; omega
            have zA : (s : Int) < (m : Int) := by have := HES.out; omega
            have zA' : (mid : Int) < (e : Int) := by have := HES.out; omega
            have zB : ¬ (s : Int) < (mid : Int) := by have := HES.out; omega
            have zB' : ¬ (m : Int) < (e : Int) := by have := HES.out; omega
            have zC : (a : Int) < (s : Int) := by have := HES.out; omega
            have zD : (e : Int) < (b : Int) := by have := HES.out; omega
            have hp1 : Hid (PermIn a b d d) := permIn_refl _ _ _
            have HH : Aside (Halves (ltOf cf) a s mid e b d) := HVV.out d (Rot.none d (by omega) (by omega) (by have := HES.out; omega))
            have hz1 : Hid (d.size = n) := hp1.out.1.trans HN.out
            have hy1 : Hid (d.size = d0.size) := hp1.out.1.trans HS.out
            have P2 : Aside (PermIn a mid d d ∧ SortedIn (ltOf cf) a mid d) := ⟨permIn_refl _ _ _, by
              have q1 := HH.out.s1; have q2 := HH.out.s2
              rw [show s = mid by omega] at q1; exact q1⟩
            have O2 : Hid (∀ p, mid ≤ p → d[p]! = d[p]!) := fun p hp => P2.out.1.2.1 p (Or.inr hp)
            have hz2 : Hid (d.size = n) := P2.out.1.1.trans hz1.out
            have hy2 : Hid (d.size = d0.size) := P2.out.1.1.trans hy1.out
            have hl := IH.out mid e b d wr (by omega) (by omega) (by omega) (by omega) S1.out hy2.out hz2.out HH.out.s3 HH.out.s4
            clear S1
            go_wp2_with (go_at_call_of 77 (Value.int .i64 (e : Int)); refine hl.mono ?_; rintro e3 w3 ⟨rfl, d3, T3, p3, s3⟩)
            go_end0
            exact ⟨rfl, d3, T3, Halves.join (by omega) (by omega) (by have := HN.out; omega) hp1.out HH.out P2.out.1 P2.out.2 p3 s3⟩
        · have cC : a < s := by omega
          have cD : e < b := by have := HES.out; omega
          by_cases cB : s < mid
          ·
            have zA : ¬ (s : Int) < (m : Int) := by have := HES.out; omega
            have zA' : ¬ (mid : Int) < (e : Int) := by have := HES.out; omega
            have zB : (s : Int) < (mid : Int) := by have := HES.out; omega
            have zB' : (m : Int) < (e : Int) := by have := HES.out; omega
            have zC : (a : Int) < (s : Int) := by have := HES.out; omega
            have zD : (e : Int) < (b : Int) := by have := HES.out; omega
            have hp1 : Hid (PermIn a b d d) := permIn_refl _ _ _
            have HH : Aside (Halves (ltOf cf) a s mid e b d) := HVV.out d (Rot.none d (by omega) (by omega) (by have := HES.out; omega))
            have hz1 : Hid (d.size = n) := hp1.out.1.trans HN.out
            have hy1 : Hid (d.size = d0.size) := hp1.out.1.trans HS.out
            have hl := IH.out a s mid d wr (by omega) (by omega) (by omega) (by omega) S1.out hy1.out hz1.out HH.out.s1 HH.out.s2
            clear S1
            go_wp2_with (go_at_call_of 77 (Value.int .i64 (s : Int)); refine hl.mono ?_; rintro e2 w2 ⟨rfl, d2, T2, p2, s2⟩)
            have T2 : Aside (SWK (enS w g) 11 w g 0 d2 w2) := T2
            have P2 : Aside (PermIn a mid d d2 ∧ SortedIn (ltOf cf) a mid d2) := ⟨p2, s2⟩
            clear hl p2 s2
            have O2 : Hid (∀ p, mid ≤ p → d2[p]! = d[p]!) := fun p hp => P2.out.1.2.1 p (Or.inr hp)
            have hz2 : Hid (d2.size = n) := P2.out.1.1.trans hz1.out
            have hy2 : Hid (d2.size = d0.size) := P2.out.1.1.trans hy1.out
            go_wp2
            go_end0
            exact ⟨rfl, d2, T2.out, Halves.join (by omega) (by omega) (by have := HN.out; omega) hp1.out HH.out P2.out.1 P2.out.2 (permIn_refl _ _ _) (fun x y h1 h2 h3 => by
              rw [O2.out x (by omega), O2.out y (by omega)]
              have q3 := HH.out.s3; have q4 := HH.out.s4
              refine (?_ : SortedIn (ltOf cf) mid b d) x y h1 h2 h3
              rw [show e = mid by have := HES.out; omega] at q4; exact q4)⟩
          ·
            have zA : ¬ (s : Int) < (m : Int) := by have := HES.out; omega
            have zA' : ¬ (mid : Int) < (e : Int) := by have := HES.out; omega
            have zB : ¬ (s : Int) < (mid : Int) := by have := HES.out; omega
            have zB' : ¬ (m : Int) < (e : Int) := by have := HES.out; omega
            have zC : (a : Int) < (s : Int) := by have := HES.out; omega
            have zD : (e : Int) < (b : Int) := by have := HES.out; omega
            have hp1 : Hid (PermIn a b d d) := permIn_refl _ _ _
            have HH : Aside (Halves (ltOf cf) a s mid e b d) := HVV.out d (Rot.none d (by omega) (by omega) (by have := HES.out; omega))
            have hz1 : Hid (d.size = n) := hp1.out.1.trans HN.out
            have hy1 : Hid (d.size = d0.size) := hp1.out.1.trans HS.out
            have P2 : Aside (PermIn a mid d d ∧ SortedIn (ltOf cf) a mid d) := ⟨permIn_refl _ _ _, by
              have q1 := HH.out.s1; have q2 := HH.out.s2
              rw [show s = mid by omega] at q1; exact q1⟩
            have O2 : Hid (∀ p, mid ≤ p → d[p]! = d[p]!) := fun p hp => P2.out.1.2.1 p (Or.inr hp)
            have hz2 : Hid (d.size = n) := P2.out.1.1.trans hz1.out
            have hy2 : Hid (d.size = d0.size) := P2.out.1.1.trans hy1.out
            go_wp2
            go_end0
            exact ⟨rfl, d, S1.out, Halves.join (by omega) (by omega) (by have := HN.out; omega) hp1.out HH.out P2.out.1 P2.out.2 (permIn_refl _ _ _) (fun x y h1 h2 h3 => by
              
              have q3 := HH.out.s3; have q4 := HH.out.s4
              refine (?_ : SortedIn (ltOf cf) mid b d) x y h1 h2 h3
              rw [show e = mid by have := HES.out; omega] at q4; exact q4)⟩
end
end Go.Proofs.Ytchpekidnbdpdaa


/- slices.SortStableFunc of spans: stableCmpFunc, SortStableFunc. -/
namespace Go.Proofs.Ytchpekidnbdpdaa
open Go.RowKit Go.Shelf Go.Sort
section
variable {w : World} {g : Nat} [Inhabited (SortEl w g)] {d0 : Array (SortEl w g)}
theorem stInsert (R : RowK (enS w g) 11 w g 0 d0) {cf : SortEl w g → SortEl w g → Int} (hO : SWO (ltOf cf)) {f0 : Nat} {cb : Array Value} (eg : ∀ args W, (callFunc f0 args).run Try.prog W = .ok (.enter f0 args) W)
    (hC : CmpLays Try.prog f0 cb (enS w g) 11 cf g 0 d0.size w) {n cap : Nat} (hz : n < 1152921504606846976) {a b : Nat} {d : Array (SortEl w g)} {W : World} (hab : a ≤ b) (hb : b ≤ n)
    (S : SWK (enS w g) 11 w g 0 d W) (hs : d.size = d0.size) (hn : d.size = n) :
    Calls Try.prog 76 #[.slice (some ⟨g, 0, none⟩) n cap, .int .i64 (a : Nat), .int .i64 (b : Nat), .func (.func f0) #[] cb] W fun e w' =>
      e = .returned (.tuple #[]) ∧ ∃ d', SWK (enS w g) 11 w g 0 d' w' ∧ PermIn a b d d' ∧ SortedIn (ltOf cf) a b d' := by
  have h := AnyQ.insertionSortCmpFunc_w Try.insSp 11 isAgg_span sizeOf_span (enS w g) cf f0 cb g 0 cap a b d0 d w W eg hC R hs.symm S hO hab (by rw [hn]; exact hb) (by rw [hn]; omega)
  rw [hn] at h
  have hi := insertionSort_holds hO d a b hab (by rw [hn]; exact hb)
  refine Calls.mono h ?_
  rintro e w' ⟨rfl, S'⟩
  exact ⟨rfl, _, S', hi.1, hi.2⟩
set_option maxRecDepth 100000 in
set_option maxHeartbeats 8000000 in
theorem stStable (R : RowK (enS w g) 11 w g 0 d0) {cf : SortEl w g → SortEl w g → Int} (hO : SWO (ltOf cf)) {f0 : Nat} {cb : Array Value} (eg : ∀ args W, (callFunc f0 args).run Try.prog W = .ok (.enter f0 args) W)
    (hC : CmpLays Try.prog f0 cb (enS w g) 11 cf g 0 d0.size w) {n cap : Nat} (hz : n < 1152921504606846976) {d : Array (SortEl w g)} {W : World}
    (S : SWK (enS w g) 11 w g 0 d W) (hs : d.size = d0.size) (hn : d.size = n) :
    Calls Try.prog 56 #[.slice (some ⟨g, 0, none⟩) n cap, .int .i64 (n : Nat), .func (.func f0) #[] cb] W fun e w' =>
      e = .returned (.tuple #[]) ∧ ∃ d', SWK (enS w g) 11 w g 0 d' w' ∧ PermIn 0 n d d' ∧ SortedIn (ltOf cf) 0 n d' := by
  have S0 : Aside _ := S
  have HR : Aside _ := R
  have HC : Aside _ := hC
  have HO : Aside _ := hO
  have HEG : Aside _ := eg
  have HS := Lib.hid hs
  have HN := Lib.hid hn
  clear S R hs hn hC hO
  go_enter Try.func56, Try.ntmps56
  go_wp2
  go_loopw [7, 8] (fun va vb wr => ∃ (k a b : Nat) (dk : Array (SortEl w g)), va = .int .i64 (a : Nat) ∧ vb = .int .i64 (b : Nat) ∧ Hid (a = k * 20) ∧ b = a + 20 ∧ a ≤ n ∧ Aside (SWK (enS w g) 11 w g 0 dk wr) ∧ Hid (PermIn 0 n d dk ∧ Runs (ltOf cf) 20 a 0 dk)) (fun va vb _ => n - (intOf va).toNat)
  case atStart => exact ⟨0, 0, 20, d, rfl, rfl, rfl, rfl, by omega, S0, ⟨permIn_refl _ _ _, Runs.none _ _ _⟩⟩
  case round =>
    obtain ⟨k, a, b, dk, rfl, rfl, HA, hab, han, S1, HP⟩ := hrel
    clear S0
    have HB := Lib.hid hab
    by_cases hbn : b ≤ n
    · have hbz : (b : Int) ≤ (n : Int) := by omega
      have hc := stInsert HR.out HO.out HEG.out HC.out (cap := cap) hz (a := a) (b := b) (by omega) hbn S1.out (HP.out.1.1.trans HS.out) (HP.out.1.1.trans HN.out)
      obtain ⟨b2, hb2⟩ : ∃ b2, b + 20 = b2 := ⟨_, rfl⟩
      have rb : IntKind.i64.wrap ((b : Int) + 20) = (b2 : Int) := by rw [IntKind.wrap_i64]; omega
      have HB2 := Lib.hid hb2
      clear S1 hab hb2
      go_wp2_with (go_at_call 76; refine hc.mono ?_; rintro e w1 ⟨rfl, d1, S2, p1, s1⟩)
      go_roundw
      case rel =>
        have hA := HA.out; have hB := HB.out; have hB2 := HB2.out
        have hzn := HP.out.1.1.trans HN.out
        refine ⟨k + 1, b, b2, d1, rfl, rfl, (show b = (k + 1) * 20 by omega), by omega, hbn, S2, ⟨permIn_trans _ _ _ _ _ HP.out.1 (permIn_mono _ _ a b 0 n (by omega) hbn (by omega) p1), ?_⟩⟩
        have hr := HP.out.2
        rw [hA] at hr s1 p1
        rw [hB, hA] at s1 p1 ⊢
        exact Runs.snoc (k := k) hr (fun x hx => p1.2.1 x (Or.inl hx)) (by omega) s1 (by omega)
      case measure => have := HB.out; simp [intOf]; omega
    · have hbz : ¬ (b : Int) ≤ (n : Int) := by omega
      have hc := stInsert HR.out HO.out HEG.out HC.out (cap := cap) hz (a := a) (b := n) han (Nat.le_refl _) S1.out (HP.out.1.1.trans HS.out) (HP.out.1.1.trans HN.out)
      clear S1 hab
      go_wp2_with (go_at_call 76; refine hc.mono ?_; rintro e w1 ⟨rfl, d1, S2, p1, s1⟩)
      have S2 : Aside (SWK (enS w g) 11 w g 0 d1 w1) := S2
      have HP1 : Hid (PermIn 0 n d d1 ∧ Runs (ltOf cf) 20 n 0 d1) := by
        have hA := HA.out; have hB := HB.out
        have hzn := HP.out.1.1.trans HN.out
        refine ⟨permIn_trans _ _ _ _ _ HP.out.1 (permIn_mono _ _ a n 0 n (by omega) (Nat.le_refl _) (by omega) p1), ?_⟩
        have hr := HP.out.2
        rw [hA] at hr s1 p1
        exact Runs.snoc (k := k) hr (fun x hx => p1.2.1 x (Or.inl hx)) (by omega) s1 (by omega)
      clear hc p1 s1 HP HA HB hbz
      go_loopw [6] (fun v wr => ∃ (bs : Nat) (dk : Array (SortEl w g)), v = .int .i64 (bs : Nat) ∧ 20 ≤ bs ∧ bs ≤ 2 * n + 40 ∧ Aside (SWK (enS w g) 11 w g 0 dk wr) ∧ Hid (PermIn 0 n d dk ∧ Runs (ltOf cf) bs n 0 dk)) (fun v _ => 2 * n + 40 - (intOf v).toNat)
      case atStart => exact ⟨20, d1, rfl, by omega, by omega, S2, HP1⟩
      case round =>
        obtain ⟨bs, dk, rfl, hb20, hbm, S1, HP⟩ := hrel
        clear S2 HP1
        by_cases hlt : bs < n
        · have hltz : (bs : Int) < (n : Int) := by omega
          obtain ⟨t, ht⟩ : ∃ t, 2 * bs = t := ⟨_, rfl⟩
          have rt : IntKind.i64.wrap (2 * (bs : Int)) = (t : Int) := by rw [IntKind.wrap_i64]; omega
          have rt2 : IntKind.i64.wrap ((bs : Int) * 2) = (t : Int) := by rw [IntKind.wrap_i64]; omega
          have HT := Lib.hid ht
          clear ht
          go_wp2
          go_loopw [7, 8] (fun va vb wr => ∃ (k a b : Nat) (dj : Array (SortEl w g)), va = .int .i64 (a : Nat) ∧ vb = .int .i64 (b : Nat) ∧ Hid (a = k * t) ∧ Hid (b = a + t) ∧ a ≤ n ∧ Aside (SWK (enS w g) 11 w g 0 dj wr) ∧ Hid (PermIn 0 n d dj ∧ Runs (ltOf cf) t a 0 dj ∧ Runs (ltOf cf) bs n a dj)) (fun va vb _ => n - (intOf va).toNat)
          case atStart => exact ⟨0, 0, t, dk, rfl, rfl, (show 0 = 0 * t by omega), (show t = 0 + t by omega), by omega, S1, ⟨HP.out.1, Runs.none _ _ _, HP.out.2⟩⟩
          case round =>
            obtain ⟨k, a, b, dj, rfl, rfl, HA, HB, han, S3, HQ⟩ := hrel
            clear S1
            obtain ⟨m, hm⟩ : ∃ m, a + bs = m := ⟨_, rfl⟩
            have rm : IntKind.i64.wrap ((a : Int) + (bs : Int)) = (m : Int) := by rw [IntKind.wrap_i64]; omega
            have HM := Lib.hid hm
            have hzn := HQ.out.1.1.trans HN.out
            have HZ := Lib.hid hzn
            clear hm hzn
            by_cases hbn2 : b ≤ n
            · have hbz2 : (b : Int) ≤ (n : Int) := by omega
              have hc := stSymMerge HR.out HO.out HEG.out HC.out (cap := cap) hz (b - a) a m b dj wr (Nat.le_refl _) (by have := HM.out; omega) (by have := HM.out; have := HT.out; have := HB.out; omega) hbn2 S3.out (HQ.out.1.1.trans HS.out) HZ.out
                (by rw [← HM.out]; exact HQ.out.2.2.first (by have := HT.out; have := HB.out; omega) (by omega))
                (by have := HQ.out.2.2.tail.first (by have := HT.out; have := HB.out; omega) (by omega); rw [HM.out] at this; rw [show b = m + bs by have := HT.out; have := HB.out; have := HM.out; omega]; exact this)
              obtain ⟨b2, hb2⟩ : ∃ b2, b + t = b2 := ⟨_, rfl⟩
              have rb : IntKind.i64.wrap ((b : Int) + (t : Int)) = (b2 : Int) := by have := HT.out; rw [IntKind.wrap_i64]; omega
              have HB2 := Lib.hid hb2
              clear S3 hb2
              go_wp2_with (go_at_call 77; refine hc.mono ?_; rintro e w2 ⟨rfl, d2, S4, p2, s2⟩)
              go_roundw
              case rel =>
                have hA := HA.out; have hB := HB.out; have hB2 := HB2.out; have hT := HT.out
                have hK : (k + 1) * t = b := by rw [Nat.add_mul, ← hA]; omega
                refine ⟨k + 1, b, b2, d2, rfl, rfl, hK.symm, hB2.symm, hbn2, S4, ⟨permIn_trans _ _ _ _ _ HQ.out.1 (permIn_mono _ _ a b 0 n (by omega) hbn2 (by rw [HZ.out]; omega) p2), ?_, ?_⟩⟩
                · have hr := HQ.out.2.1
                  refine Runs.snoc (k := k) (d := dj) (by rw [← hA]; exact hr) (fun x hx => p2.2.1 x (Or.inl (by omega))) (by omega) (by rw [← hA]; exact s2) (by omega)
                · have hr := HQ.out.2.2.tail.tail
                  rw [show a + bs + bs = b by omega] at hr
                  exact hr.congr fun x h1 h2 => p2.2.1 x (Or.inr h1)
              case measure => have := HB.out; have := HT.out; simp [intOf]; omega
            · have hbz2 : ¬ (b : Int) ≤ (n : Int) := by omega
              by_cases hmn : m < n
              · have hmz : (m : Int) < (n : Int) := by omega
                have hc := stSymMerge HR.out HO.out HEG.out HC.out (cap := cap) hz (n - a) a m n dj wr (Nat.le_refl _) (by have := HM.out; omega) hmn (Nat.le_refl _) S3.out (HQ.out.1.1.trans HS.out) HZ.out
                  (by rw [← HM.out]; exact HQ.out.2.2.first (by have := HM.out; omega) (by omega))
                  (by have := HQ.out.2.2.tail.all (by have := HT.out; have := HB.out; omega); rw [HM.out] at this; exact this)
                clear S3
                go_wp2_with (go_at_call 77; refine hc.mono ?_; rintro e w2 ⟨rfl, d2, S4, p2, s2⟩)
                go_roundw
                case rel =>
                  have hA := HA.out; have hB := HB.out; have hT := HT.out; have hM := HM.out
                  have hK : (k + 1) * t = b := by rw [Nat.add_mul, ← hA]; omega
                  refine ⟨t, d2, rfl, by omega, by omega, S4, ⟨permIn_trans _ _ _ _ _ HQ.out.1 (permIn_mono _ _ a n 0 n (by omega) (Nat.le_refl _) (by rw [HZ.out]; omega) p2), ?_⟩⟩
                  exact Runs.snoc (k := k) (d := dj) (by rw [← hA]; exact HQ.out.2.1) (fun x hx => p2.2.1 x (Or.inl (by omega))) (by omega) (by rw [← hA]; exact s2) (by omega)
                case measure => have := HT.out; simp [intOf]; omega
              · have hmz : ¬ (m : Int) < (n : Int) := by omega
                go_wp2
                go_roundw
                case rel =>
                  have hA := HA.out; have hB := HB.out; have hT := HT.out; have hM := HM.out
                  have hK : (k + 1) * t = b := by rw [Nat.add_mul, ← hA]; omega
                  refine ⟨t, dj, rfl, by omega, by omega, S3, ⟨HQ.out.1, ?_⟩⟩
                  exact Runs.snoc (k := k) (d := dj) (by rw [← hA]; exact HQ.out.2.1) (fun x hx => rfl) (by omega) (by rw [← hA]; exact HQ.out.2.2.all (by omega)) (by omega)
                case measure => have := HT.out; simp [intOf]; omega
        · have hltz : ¬ (bs : Int) < (n : Int) := by omega
          go_wp2
          go_end0
          exact ⟨rfl, dk, S1.out, HP.out.1, HP.out.2.all (by omega)⟩
theorem stSortStable (R : RowK (enS w g) 11 w g 0 d0) {cf : SortEl w g → SortEl w g → Int} (hO : SWO (ltOf cf)) {f0 : Nat} {cb : Array Value} (eg : ∀ args W, (callFunc f0 args).run Try.prog W = .ok (.enter f0 args) W)
    (hC : CmpLays Try.prog f0 cb (enS w g) 11 cf g 0 d0.size w) {n cap : Nat} (hz : n < 1152921504606846976) (hn : d0.size = n) :
    Calls Try.prog 34 #[.slice (some ⟨g, 0, none⟩) n cap, .func (.func f0) #[] cb] w fun e w' =>
      e = .returned (.tuple #[]) ∧ ∃ d', SWK (enS w g) 11 w g 0 d' w' ∧ PermIn 0 n d0 d' ∧ SortedIn (ltOf cf) 0 n d' := by
  have hc := stStable R hO eg hC (cap := cap) hz (SWK.start R.hH) rfl hn
  clear hC R hn
  go_enter Try.func34, Try.ntmps34
  go_wp2_with (go_at_call 56; refine hc.mono ?_; rintro e w1 ⟨rfl, d', h⟩)
  go_end0
  exact ⟨rfl, d', h⟩
end
end Go.Proofs.Ytchpekidnbdpdaa


/- Layer 21: slices.SortStableFunc of spans by Unique's order; Unique. -/
namespace Go.Proofs.Ytchpekidnbdpdaa
open Go.RowKit Go.Shelf Go.Sort
set_option maxRecDepth 100000 in
theorem stNone (fv : Value) (w : World) : Calls Try.prog 34 #[.slice none 0 0, fv] w fun e w' => e = .returned (.tuple #[]) ∧ w' = w := by
  have hi : ∀ W, Calls Try.prog 76 #[.slice none 0 0, .int .i64 0, .int .i64 0, fv] W fun e w' => e = .returned (.tuple #[]) ∧ w' = W := fun W => AnyF.insertionSortCmpFunc_none Try.insSp none 0 fv W
  have hs : ∀ W, Calls Try.prog 56 #[.slice none 0 0, .int .i64 0, fv] W fun e w' => e = .returned (.tuple #[]) ∧ w' = W := fun W => by
    go_enter Try.func56, Try.ntmps56
    go_wp2
    refine wp_loop_rounds 1 ?_
    rw [rounds_succ]
    go_wp2_with (go_at_call 76; refine (hi _).mono ?_; rintro e w' ⟨rfl, rfl⟩)
    refine wp_loop_rounds 1 ?_
    rw [rounds_succ]
    go_wp2
    go_end0
    exact ⟨rfl, rfl⟩
  clear hi
  go_enter Try.func34, Try.ntmps34
  go_wp2_with (go_at_call 56; refine (hs _).mono ?_; rintro e w' ⟨rfl, rfl⟩)
  go_end0
  exact ⟨rfl, rfl⟩
/-- slices.SortStableFunc of spans by Unique's order. -/
def SortUPost (w : World) (base : Nat) (v : Value) (n : Nat) (l : List El) (e : Ending) (w' : World) : Prop :=
  e = .returned (.tuple #[]) ∧ ∃ l', (sps l').Perm (sps l) ∧ SortUq (sps l') ∧ RowS w' base v n l' ∧ w.grownBy w' v.ownBlock ∧ ∀ e ∈ l', e ∈ l
set_option maxRecDepth 100000 in
theorem sortUniq {base n cap : Nat} {A : Option Addr} {l : List El} (w : World) (h : RowS w base (.slice A n cap) n l) (hn : n < 1152921504606846976) :
    Calls Try.prog 34 #[.slice A n cap, .func (.func 35) #[] #[]] w (SortUPost w base (.slice A n cap) n l) := by
  rcases h.own.2 with ⟨h1, h2⟩ | ⟨g, cap', cur, hv, hbase, hb, hnc, hcm, hcs, htk⟩
  · injection h1 with e1 _ e3
    subst e1 e3 h2
    refine (stNone _ w).mono ?_
    rintro e w' ⟨rfl, rfl⟩
    have hl : l = [] := List.eq_nil_of_length_eq_zero h.len
    subst hl
    exact ⟨rfl, [], List.Perm.refl _, List.Pairwise.nil, h, World.grownBy.refl _ _, fun _ h => h⟩
  · injection hv with e1 _ e3
    subst e1 e3
    have hgw : g < w.heap.size := (Array.getElem?_eq_some_iff.1 hb).1
    have hF : ∀ e ∈ l, Far w g e := fun e he => ⟨h.ok e he, fun ht a ha hg => h.far e he ht a ha (by rw [← hg]; rfl)⟩
    letI : Inhabited (SortEl w g) := ⟨sortZero w g⟩
    obtain ⟨d, hd⟩ : ∃ d : Array (SortEl w g), d.toList.map Subtype.val = l := ⟨(l.attach.map fun e => (⟨e.1, hF e.1 e.2⟩ : SortEl w g)).toArray, by simp⟩
    have hds : d.size = n := by
      have := congrArg List.length hd
      simpa [h.len] using this
    have hfl := flat_els d
    rw [hd] at hfl
    have hH : HoldsK (enS w g) 11 w g 0 d := by
      intro j hj
      have hj1 : (els l)[j]? = some ((flatK (fun e : SortEl w g => elC e.val) 11 d)[j]!) := by
        rw [← hfl, Array.getElem?_toList, Array.getElem?_eq_getElem hj, getElem!_pos _ j hj]
      have h1 := h.own.cells (g := g) rfl j _ hj1
      rw [Addr.add_lit] at h1
      exact ⟨h1, by simp [World.frozen?, hb]⟩
    have hcmp : CmpLays Try.prog 35 #[] (enS w g) 11 (fun x y : SortEl w g => cmpUq x.val.s y.val.s) g 0 d.size w := by
      intro m os dk hs x y
      have hgr := size_sortWorldK_c (fun e : SortEl w g => elC e.val) 11 w g 0 m dk os
      have hrb : ∀ z : SortEl w g, RbT (sortWorldK (fun e : SortEl w g => elC e.val) 11 w g 0 m dk os) w.heap.size z.val.A z.val.s.tags := fun z hne => by
        obtain ⟨b, o, hA, hlt, hc⟩ := z.property.ok.rd hne
        have ht : z.val.s.tags ≠ [] := fun e => hne (by rw [e]; rfl)
        refine ⟨b, o, hA, hlt, fun j u hu => ?_⟩
        exact (cell?_sortWorldK_other _ 11 w g 0 m dk os ⟨b, o + j, none⟩ (show b ≠ g from z.property.far ht ⟨b, o, none⟩ hA) hlt).trans (hc j u hu)
      refine Calls.mono (ajCmp x.val.s y.val.s _ (hrb x) (hrb y) x.property.ok.len y.property.ok.len hgr x.property.ok.max y.property.ok.max) ?_
      rintro e w' ⟨he, hG⟩
      exact ⟨he, hG.grow⟩
    have R : RowK (enS w g) 11 w g 0 d := ⟨enS_len, enS_one, hH, hgw⟩
    have hO : SWO (ltOf fun x y : SortEl w g => cmpUq x.val.s y.val.s) := swo_cmp cmpUq_cmp fun x : SortEl w g => x.val.s
    have hrun := stSortStable R hO (fun _ _ => rfl) hcmp (cap := cap) hn hds
    refine Calls.mono hrun ?_
    rintro e w' ⟨rfl, d', ⟨q, os, rfl⟩, hp, hst⟩
    have hgr := grown_sort (fun e : SortEl w g => elC e.val) 11 w g q d' os
    have hs' : d'.size = n := hp.1.trans hds
    have hperm : (d'.toList).Perm d.toList := by
      have := hp.2.2
      rw [show d'.extract 0 n = d' by rw [← hs']; simp, show d.extract 0 n = d by rw [← hds]; simp] at this
      exact this
    have hmem : ∀ e ∈ d'.toList.map Subtype.val, Far w g e ∧ e ∈ l := fun e he => by
      obtain ⟨x, hx, rfl⟩ := List.mem_map.1 he
      exact ⟨x.property, by rw [← hd]; exact List.mem_map.2 ⟨x, hperm.mem_iff.1 hx, rfl⟩⟩
    have hfl' := flat_els d'
    refine ⟨rfl, d'.toList.map Subtype.val, ?_, ?_, ⟨?_, by simp [hs'], ?_, ?_⟩, hgr, fun e he => (hmem e he).2⟩
    · rw [← hd]
      exact (hperm.map _).map _
    · rw [SortUq, List.pairwise_iff_getElem]
      intro i j hi hj hij
      simp only [sps, List.length_map, Array.length_toList] at hi hj
      have h1 := hst i j (Nat.zero_le _) hij (by omega)
      rw [getElem!_pos d' i hi, getElem!_pos d' j hj] at h1
      simp only [ltOf, decide_eq_false_iff_not] at h1
      simp only [sps, List.getElem_map, Array.getElem_toList]
      exact h1
    · refine ⟨by rw [els_length]; simp [hs'], .inr ⟨g, cap, _, rfl, hbase, heap_sortK d' hb, hnc, hcm, by simp [putCells, hcs], ?_⟩⟩
      rw [← hfl', show n * 11 = (flatK (fun e : SortEl w g => elC e.val) 11 d').size by rw [size_flatK, hs']]
      exact take_putCellsK cur _ (by rw [size_flatK, hs', hcs]; exact Nat.mul_le_mul_right 11 hnc)
    · intro e he
      obtain ⟨hf, _⟩ := hmem e he
      refine ⟨?_, hf.ok.len, hf.ok.max⟩
      by_cases ht : e.s.tags = []
      · rw [ht]
        exact Rd.nil
      · exact hf.ok.rd.grownS hgr fun a ha e => hf.far ht a ha (Option.some.inj e).symm
    · intro e he ht a ha
      exact h.far e (hmem e he).2 ht a ha
theorem below_gr {w w' : World} {base n cap : Nat} {A : Option Addr} {l : List El} (h : RowS w base (.slice A n cap) n l) (hb : base ≤ w.heap.size) (hg : w.grownBy w' (Value.slice A n cap).ownBlock) : Below base w w' :=
  ⟨hg.os, hg.tape, hg.output, hg.size, fun i hi => hg.block i (Nat.lt_of_lt_of_le hi hb) (fun e1 => by have := (h.own_lt i e1.symm).2; omega)⟩
set_option maxRecDepth 100000 in
set_option maxHeartbeats 2000000 in
/-- Unique of the code: the document's. -/
theorem ajUnique {A : Option Addr} {c n B : Nat} {l : List El} (w : World) (hf : RbS w B A l) (hn : l.length = n) (hB : B ≤ w.heap.size) (hnl : n ≤ 100000) (hsm : ∀ e ∈ l, e.n ≤ 1000000) :
    Calls Try.prog 14 #[.slice A n c] w (UnqPost w (uniq (sps l))) := by
  have ho := spOrderZ (c := c) w hf hn hB (by omega) hsm
  have HO := Lib.hid ho
  clear ho
  go_enter Try.func14, Try.ntmps14
  go_wp2_with (go_at_call 33; refine HO.out.mono ?_)
  rintro e w1 ⟨A1, c1, l1, rfl, h1, r1, b1, z1⟩
  have hs := sortUniq w1 r1 (by omega)
  have HS := Lib.hid hs
  clear hs
  go_wp2_with (go_at_call 34; refine HS.out.mono ?_; rintro e w2 ⟨rfl, l2, p2, s2, r2, g2, m2⟩)
  have hc := ajCompact w2 r2 (by omega)
  have HC := Lib.hid hc
  clear hc
  go_wp2_with (go_at_call 39; refine HC.out.mono ?_; rintro e w3 ⟨k, l3, rfl, hk, e3, r3, g3⟩)
  go_ret
  have hu : sps l3 = uniq (sps l) := by
    rw [e3, sps_cpE]
    refine cpc_uniq s2 (p2.trans ?_)
    rw [h1]
    exact ordS_perm _
  have q2 := below_gr r1 b1.size g2
  have q3 := below_gr r2 (Nat.le_trans b1.size q2.size) g3
  exact ⟨A1, c1, k, l3, rfl, hu, r3, (b1.trans q2).trans q3⟩
end Go.Proofs.Ytchpekidnbdpdaa

