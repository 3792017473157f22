/- Texts of the proof of VfsScriptSaid, joined: LoadK Open0 Open Pk KitOwn KitBytes KiT. -/
import Derived.Laws.Rows
import Derived.Laws.Tables
import Derived.Test.YtdjmmdhjjdnbdaaProg
import Derived.Test.YtdjmmdhjjdnbdaaJVfsScript1
import Derived.Test.YtdjmmdhjjdnbdaaRows
import Derived.ProofKit
import Derived.OpenShut
import Derived.ShutString
import Derived.ChangeOld
import Derived.Test.YtdjmmdhjjdnbdaaJVfsScript2
import Derived.StillTailTactics
import Derived.BigQuiet
/- A whole struct loaded: kept shut to the walk's simp, and told by an equation. -/
namespace Go.Proofs.Ytdjmmdhjjdnbdaa
open Go.RowKit

def loadK (t : TypeId) (a : Addr) : Sem Value := loadVar t a
theorem loadK_shut (t : TypeId) (a : Addr) : loadVar t a = loadK t a := rfl
end Go.Proofs.Ytdjmmdhjjdnbdaa

/- What comes in: what each statement's row asks. -/
namespace Go.Proofs.Ytdjmmdhjjdnbdaa
open Go.ChangeShapes Go.WideShapes Go.ChangeAt Go.RowKit

theorem ownKnob_none : ownKnob Try.prog.godebug = none := by kernel_rfl
theorem laidOut : laidOutB Try.prog = true := by kernel_rfl

end Go.Proofs.Ytdjmmdhjjdnbdaa

/- What comes in, read as the walks want it. -/
namespace Go.Proofs.Ytdjmmdhjjdnbdaa
open Go.ChangeShapes Go.WideShapes Go.ChangeAt Go.RowKit

/-- What a walk is told of a slice of bytes that came in. -/
structure InB (w : World) (A : Option Addr) (n c : Nat) (zs : List Int) : Prop where
  rd : Rb w w.heap.size A zs
  len : zs.length = n
  cap : n ≤ c
  max : c ≤ maxLen
  byt : Byt zs
  nil : A = none → c = 0

theorem byte_wf {x : Int} (h : (Lit.int .u8 x).wf = true) : 0 ≤ x ∧ x ≤ 255 := by
  simp [Lit.wf, IntKind.min, IntKind.max, IntKind.signed, IntKind.bits] at h
  omega

theorem open_inB {H : Type} {enc : TypeId × Value → H} {W : World} {base : Nat} {held : Bool} {d : DataW H} {p : List MemPlace} {a : Option Addr} {len cap : Nat}
    (h : DataW.Trod enc Try.prog W base (fun _ => true) held 24 (.slice a len cap) d p) : ∃ zs, InB W a len cap zs := by
  obtain ⟨fuel, hf⟩ := h
  rcases open_ints Try.underlying24 Try.underlying5 (by kernel_rfl) hf with ⟨hcs, _⟩ | ⟨x, l, c, zs, hcs, _, hl, hm, hz, _, hcell, hwz⟩
  · simp [Value.cells] at hcs
    obtain ⟨rfl, rfl, rfl⟩ := hcs
    exact ⟨[], Rd.nil, rfl, Nat.le_refl _, by simp [maxLen], fun x hx => by simp at hx, fun _ => rfl⟩
  · simp [Value.cells] at hcs
    obtain ⟨rfl, rfl, rfl⟩ := hcs
    have hz : zs.length = cap := by simpa using hz
    refine ⟨zs.take len, ?_, by simp; omega, hl, hm, fun y hy => byte_wf (hwz y (List.mem_of_mem_take hy)), fun h => by cases h⟩
    intro hn
    have hpos : 0 < zs.length := by
      rcases Nat.eq_zero_or_pos zs.length with h0 | h0
      · rw [List.eq_nil_of_length_eq_zero h0] at hn; simp [bv] at hn
      · exact h0
    obtain ⟨b, off, spot⟩ := x
    have hc := hcell 0 hpos
    have hspot : spot = none := by simpa [Addr.add] using World.cell?_spot hc
    subst hspot
    refine ⟨b, off, rfl, World.block_lt_of_cell? W ⟨b, off, none⟩ (by simpa [Addr.add] using hc), fun j u hu => ?_⟩
    rw [← bv_take, List.getElem?_take] at hu
    split at hu
    · have hj : j < zs.length := by
        have := (List.getElem?_eq_some_iff.1 hu).1
        simpa [bv] using this
      have h2 := hcell j hj
      rw [Addr.add_lit] at h2
      rw [h2, ← hu]
      simp [bv, List.getD, hj]
    · cases hu
end Go.Proofs.Ytdjmmdhjjdnbdaa

/- Lists of ints; Pick. -/
namespace Go.Proofs.Ytdjmmdhjjdnbdaa
open Go.RowKit

def iv (zs : List Int) : List Value := zs.map (Value.int .i64)
theorem iv_length (zs : List Int) : (iv zs).length = zs.length := by simp [iv]
theorem iv_append (a b : List Int) : iv (a ++ b) = iv a ++ iv b := by simp [iv]
theorem iv_get {zs : List Int} {k : Nat} {x : Int} (hk : zs[k]? = some x) : (iv zs)[k]? = some (.int .i64 x) := by simp [iv, hk]
theorem iv_one (zs : List Int) : ∀ u ∈ iv zs, u.oneCell' = true := by
  intro u hu
  obtain ⟨x, _, rfl⟩ := List.mem_map.1 hu
  rfl
abbrev Ri (w : World) (B : Nat) (A : Option Addr) (zs : List Int) : Prop := Rd w B A (iv zs)
theorem Ri.get {w : World} {B : Nat} {A : Option Addr} {zs : List Int} (h : Ri w B A zs) {k : Nat} (hk : k < zs.length) :
    ∃ b o x, zs[k]? = some x ∧ A = some ⟨b, o, none⟩ ∧ b < B ∧ w.cell? ⟨b, o + k, none⟩ = some (.int .i64 x) := by
  have e := List.getElem?_eq_getElem hk
  obtain ⟨b, o, h1, h2, h3⟩ := Rd.get h (iv_get e)
  exact ⟨b, o, zs[k], e, h1, h2, h3⟩
theorem tmod_pick (n m : Int) (hm : 0 < m) : -m < n.tmod m ∧ n.tmod m < m ∧ (n.tmod m < 0 → n.tmod m + m = n % m) ∧ (0 ≤ n.tmod m → n.tmod m = n % m) := by
  have hz : m ≠ 0 := by omega
  have hq0 := Int.emod_nonneg n hz
  have hq1 := Int.emod_lt_of_pos n hm
  have hp0 := Int.emod_nonneg (-n) hz
  have hp1 := Int.emod_lt_of_pos (-n) hm
  have he := Int.mul_ediv_add_emod (-n) m
  rw [tmod_eq_if]
  generalize (-n) / m = q at *
  generalize (-n) % m = s at *
  split
  · exact ⟨by omega, by omega, fun h => by omega, fun _ => rfl⟩
  · refine ⟨by omega, by omega, fun h => ?_, fun h => ?_⟩
    · have e : (m - s) + m * (-q - 1) = n := by
        rw [Int.mul_sub, Int.mul_neg]
        omega
      rw [← e, Int.add_mul_emod_self_left, Int.emod_eq_of_lt (by omega) (by omega)]
      omega
    · have hs : s = 0 := by omega
      have e : 0 + m * (-q) = n := by rw [Int.mul_neg]; omega
      rw [← e, Int.add_mul_emod_self_left, hs]
      simp

/-- Pick: a number from 0 to below m. -/
theorem kitPick (n : Int) (m : Nat) (w : World) (hm0 : 1 ≤ m) (hm : m ≤ 1099511627776) :
    Calls Try.prog 51 #[.int .i64 n, .int .i64 m] w fun e w' => e = .returned (.int .i64 (n % (m : Int))) ∧ w' = w := by
  have hz : ¬ (m : Int) = 0 := by omega
  have hzb : ((m : Int) == 0) = false := by rw [beq_eq_false_iff_ne]; omega
  obtain ⟨h1, h2, h3, h4⟩ := tmod_pick n m (by omega)
  obtain ⟨r, hr⟩ : ∃ r, n.tmod m = r := ⟨_, rfl⟩
  rw [hr] at h1 h2 h3 h4
  have H3 := Lib.hid h3
  have H4 := Lib.hid h4
  clear h3 h4
  go_enter Try.func51, Try.ntmps51
  go_wp2
  · go_ret
    refine ⟨?_, rfl⟩
    rw [← H3.out (by omega)]
    rfl
  · go_ret
    refine ⟨?_, rfl⟩
    rw [← H4.out (by omega)]
    rfl
end Go.Proofs.Ytdjmmdhjjdnbdaa

/- The contract of bootprintkit.Own. -/
namespace Go.Proofs.Ytdjmmdhjjdnbdaa
open Go.RowKit

set_option maxHeartbeats 400000 in
/-- Own: the same bytes in a row that the call has made. -/
theorem kitOwn {A : Option Addr} {c B n : Nat} {xs : List Int} (w : World) (ha : Rb w B A xs) (hB : B ≤ w.heap.size) (hx : xs.length ≤ 140737488351232) (hn : xs.length = n) :
    Calls Try.prog 14 #[.slice A n c] w (RetNew 5 1 w n (bv xs) (· ≠ none)) := by
  subst hn
  go_enter Try.func14, Try.ntmps14
  go_wp2_with (at_builtin; go_loud (refine wpList_appb _ rfl (.tmp 3) (.tmp 4) rfl w.heap.size _ 0 [] rfl (World.ownsRow_lit w #[] 0 (Nat.le_refl _) (by simp [maxLen]) rfl) B A xs.length c xs rfl rfl (ha.alloc hB _) (by omega) (by simp) ?_))
  intro A' c' w' happ hne
  go_wp2
  go_ret
  exact ⟨A', c', rfl, happ.fresh1, hne⟩
end Go.Proofs.Ytdjmmdhjjdnbdaa

/- The contract of bootprintkit.Bytes. -/
namespace Go.Proofs.Ytdjmmdhjjdnbdaa
open Go.RowKit

set_option maxHeartbeats 400000 in
theorem kitBytes {A A' : Option Addr} {c c' B B' n n' : Nat} {xs ys : List Int} (w : World) (ha : Rb w B A xs) (hb : Rb w B' A' ys) (hx : xs.length ≤ maxLen) (hy : ys.length ≤ maxLen) (hn : xs.length = n) (hn' : ys.length = n') :
    Calls Try.prog 21 #[.slice A n c, .slice A' n' c'] w fun e w' => e = .returned (.bool (eqb xs ys)) ∧ ∃ n, w' = w.drewN n := by
  subst hn hn'
  unfold maxLen at hx hy
  by_cases hl : xs.length = ys.length
  · have hlb : (((xs.length : Nat) : Int) != ((ys.length : Nat) : Int)) = false := by simp [hl]
    go_enter Try.func21, Try.ntmps21
    have HL := Lib.hid hl
    clear hl
    go_wp2
    go_loopw [5] (fun i wr => ∃ k : Nat, k ≤ xs.length ∧ i = .int .i64 k ∧ xs.take k = ys.take k ∧ ∃ n, wr = w.drewN n) (fun i _ => xs.length - (intOf i).toNat)
    case atStart => exact ⟨0, Nat.zero_le _, rfl, rfl, 0, rfl⟩
    case round =>
      obtain ⟨k, hk, rfl, ht, n, rfl⟩ := hrel
      have HT := Lib.hid ht
      clear ht
      by_cases hlt : k < xs.length
      · obtain ⟨b, o, x, hx1, rfl, hb1, hc1⟩ := ha.get hlt
        obtain ⟨b', o', y, hy1, rfl, hb2, hc2⟩ := hb.get (by rw [← HL.out]; exact hlt)
        have hlt' : k < ys.length := by rw [← HL.out]; exact hlt
        have X := Lib.hid hx1
        have Y := Lib.hid hy1
        clear hx1 hy1
        by_cases hxy : x = y
        · subst hxy
          go_wp2
          go_quiet (fail)
          go_wp2
          go_roundw
          case rel => exact ⟨k + 1, by omega, by go_num, by rw [take_snoc X.out, take_snoc Y.out, HT.out], _, rfl⟩
          case measure => simp [intOf]; omega
        · have hne : (x != y) = true := by simp [hxy]
          go_wp2
          go_quiet (fail)
          go_wp2
          go_ret
          refine ⟨?_, _, World.drewN_drewN _ _ _⟩
          have : eqb xs ys = false := by
            rw [eqb, decide_eq_false_iff_not]
            rintro rfl
            have := X.out.symm.trans Y.out
            injection this with this
            exact hxy this
          rw [this]; rfl
      · go_wp2
        go_ret
        refine ⟨?_, _, rfl⟩
        have : eqb xs ys = true := by
          rw [eqb_true]
          have h1 := HT.out
          rw [List.take_of_length_le (by omega), List.take_of_length_le (by have := HL.out; omega)] at h1
          exact h1
        rw [this]; rfl
  · have hlb : (((xs.length : Nat) : Int) != ((ys.length : Nat) : Int)) = true := by simp; omega
    have he : eqb xs ys = false := by
      rw [eqb, decide_eq_false_iff_not]
      rintro rfl
      exact hl rfl
    rw [he]
    go_enter Try.func21, Try.ntmps21
    go_wp2
    go_ret
    exact ⟨rfl, 0, rfl⟩
end Go.Proofs.Ytdjmmdhjjdnbdaa

/- kit's Strings: of equal lists it says so. -/
namespace Go.Proofs.Ytdjmmdhjjdnbdaa
open Go.RowKit
set_option maxRecDepth 100000 in
set_option maxHeartbeats 2000000 in
theorem kitStrings {A A' : Option Addr} {n c c' B B' : Nat} (xs : List ByteArray) (w : World) (h : Rd w B A (xs.map strV)) (h' : Rd w B' A' (xs.map strV)) (hn : xs.length = n) (hnl : n ≤ 9223372036854775807) :
    Calls Try.prog 23 #[.slice A n c, .slice A' n c'] w fun e w' => e = .returned (.bool true) ∧ ∃ d, w' = w.drewN d := by
  have HN := Lib.hid hn
  have HH := Lib.hid h
  have HH' := Lib.hid h'
  have hself : ((n : Int) != (n : Int)) = false := by simp
  clear hn h h'
  go_enter Try.func23, Try.ntmps23
  go_wp2_with fail
  go_loopw [5] (fun i_ wr => ∃ k d : Nat, k ≤ n ∧ i_ = .int .i64 k ∧ wr = w.drewN d) (fun i_ _ => n - (intOf i_).toNat)
  case atStart => exact ⟨0, 0, by omega, rfl, rfl⟩
  case round =>
    obtain ⟨k, d, hk, rfl, rfl⟩ := hrel
    by_cases hlt : k < n
    · have hlt' : (k : Int) < (n : Int) := by omega
      obtain ⟨x, hx⟩ : ∃ x, xs[k]? = some x := ⟨_, List.getElem?_eq_getElem (by rw [HN.out]; exact hlt)⟩
      obtain ⟨b1, o1, e1, hc1⟩ := Rs.get HH.out hx
      obtain ⟨b2, o2, e2, hc2⟩ := Rs.get HH'.out hx
      subst e1 e2
      have hs : (x.toList == x.toList) = true := by simp
      have hs' : (x.toList != x.toList) = false := by rw [bne, hs]; rfl
      clear hx
      go_wp2_with fail
      go_region
      all_goals go_wp2_with fail
      all_goals exact ⟨⟨k + 1, d + 1, by omega, by go_num, rfl⟩, by simp only [intOf]; omega⟩
    · have hlt' : decide ((k : Int) < (n : Int)) = false := by simp; omega
      go_wp2_with fail
      go_ret
      exact ⟨rfl, d, rfl⟩
end Go.Proofs.Ytdjmmdhjjdnbdaa
