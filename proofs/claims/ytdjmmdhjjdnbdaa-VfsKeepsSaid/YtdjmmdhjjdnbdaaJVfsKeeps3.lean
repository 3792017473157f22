/- Texts of the proof of VfsKeepsSaid, joined: Open KitOwn KitBytes. -/
import Derived.Test.YtdjmmdhjjdnbdaaJVfsKeeps1
import Derived.Test.YtdjmmdhjjdnbdaaRows
import Derived.Test.YtdjmmdhjjdnbdaaJVfsKeeps2
import Derived.ProofKit
import Derived.OpenShut
import Derived.ShutString
import Derived.ChangeOld
/- What comes in, read as the walks want it. -/
namespace Go.Proofs.Ytdjmmdhjjdnbdaa
open Go.ChangeShapes Go.WideShapes Go.ChangeAt Go.RowKit

/-- What a walk is told of a slice of bytes that came in. -/
structure InB (w : World) (A : Option Addr) (n c : Nat) (zs : List Int) : Prop where
  rd : Rb w w.heap.size A zs
  len : zs.length = n
  cap : n ≤ c
  max : c ≤ maxLen
  byt : Byt zs
  nil : A = none → c = 0

theorem byte_wf {x : Int} (h : (Lit.int .u8 x).wf = true) : 0 ≤ x ∧ x ≤ 255 := by
  simp [Lit.wf, IntKind.min, IntKind.max, IntKind.signed, IntKind.bits] at h
  omega

theorem open_inB {H : Type} {enc : TypeId × Value → H} {W : World} {base : Nat} {held : Bool} {d : DataW H} {p : List MemPlace} {a : Option Addr} {len cap : Nat}
    (h : DataW.Trod enc Try.prog W base (fun _ => true) held 24 (.slice a len cap) d p) : ∃ zs, InB W a len cap zs := by
  obtain ⟨fuel, hf⟩ := h
  rcases open_ints Try.underlying24 Try.underlying5 (by kernel_rfl) hf with ⟨hcs, _⟩ | ⟨x, l, c, zs, hcs, _, hl, hm, hz, _, hcell, hwz⟩
  · simp [Value.cells] at hcs
    obtain ⟨rfl, rfl, rfl⟩ := hcs
    exact ⟨[], Rd.nil, rfl, Nat.le_refl _, by simp [maxLen], fun x hx => by simp at hx, fun _ => rfl⟩
  · simp [Value.cells] at hcs
    obtain ⟨rfl, rfl, rfl⟩ := hcs
    have hz : zs.length = cap := by simpa using hz
    refine ⟨zs.take len, ?_, by simp; omega, hl, hm, fun y hy => byte_wf (hwz y (List.mem_of_mem_take hy)), fun h => by cases h⟩
    intro hn
    have hpos : 0 < zs.length := by
      rcases Nat.eq_zero_or_pos zs.length with h0 | h0
      · rw [List.eq_nil_of_length_eq_zero h0] at hn; simp [bv] at hn
      · exact h0
    obtain ⟨b, off, spot⟩ := x
    have hc := hcell 0 hpos
    have hspot : spot = none := by simpa [Addr.add] using World.cell?_spot hc
    subst hspot
    refine ⟨b, off, rfl, World.block_lt_of_cell? W ⟨b, off, none⟩ (by simpa [Addr.add] using hc), fun j u hu => ?_⟩
    rw [← bv_take, List.getElem?_take] at hu
    split at hu
    · have hj : j < zs.length := by
        have := (List.getElem?_eq_some_iff.1 hu).1
        simpa [bv] using this
      have h2 := hcell j hj
      rw [Addr.add_lit] at h2
      rw [h2, ← hu]
      simp [bv, List.getD, hj]
    · cases hu
end Go.Proofs.Ytdjmmdhjjdnbdaa

/- The contract of bootprintkit.Own. -/
namespace Go.Proofs.Ytdjmmdhjjdnbdaa
open Go.RowKit

set_option maxHeartbeats 400000 in
/-- Own: the same bytes in a row that the call has made. -/
theorem kitOwn {A : Option Addr} {c B n : Nat} {xs : List Int} (w : World) (ha : Rb w B A xs) (hB : B ≤ w.heap.size) (hx : xs.length ≤ 140737488351232) (hn : xs.length = n) :
    Calls Try.prog 14 #[.slice A n c] w (RetNew 5 1 w n (bv xs) (· ≠ none)) := by
  subst hn
  go_enter Try.func14, Try.ntmps14
  go_wp2_with (at_builtin; go_loud (refine wpList_appb _ rfl (.tmp 3) (.tmp 4) rfl w.heap.size _ 0 [] rfl (World.ownsRow_lit w #[] 0 (Nat.le_refl _) (by simp [maxLen]) rfl) B A xs.length c xs rfl rfl (ha.alloc hB _) (by omega) (by simp) ?_))
  intro A' c' w' happ hne
  go_wp2
  go_ret
  exact ⟨A', c', rfl, happ.fresh1, hne⟩
end Go.Proofs.Ytdjmmdhjjdnbdaa

/- The contract of bootprintkit.Bytes. -/
namespace Go.Proofs.Ytdjmmdhjjdnbdaa
open Go.RowKit

set_option maxHeartbeats 400000 in
theorem kitBytes {A A' : Option Addr} {c c' B B' n n' : Nat} {xs ys : List Int} (w : World) (ha : Rb w B A xs) (hb : Rb w B' A' ys) (hx : xs.length ≤ maxLen) (hy : ys.length ≤ maxLen) (hn : xs.length = n) (hn' : ys.length = n') :
    Calls Try.prog 21 #[.slice A n c, .slice A' n' c'] w fun e w' => e = .returned (.bool (eqb xs ys)) ∧ ∃ n, w' = w.drewN n := by
  subst hn hn'
  unfold maxLen at hx hy
  by_cases hl : xs.length = ys.length
  · have hlb : (((xs.length : Nat) : Int) != ((ys.length : Nat) : Int)) = false := by simp [hl]
    go_enter Try.func21, Try.ntmps21
    have HL := Lib.hid hl
    clear hl
    go_wp2
    go_loopw [5] (fun i wr => ∃ k : Nat, k ≤ xs.length ∧ i = .int .i64 k ∧ xs.take k = ys.take k ∧ ∃ n, wr = w.drewN n) (fun i _ => xs.length - (intOf i).toNat)
    case atStart => exact ⟨0, Nat.zero_le _, rfl, rfl, 0, rfl⟩
    case round =>
      obtain ⟨k, hk, rfl, ht, n, rfl⟩ := hrel
      have HT := Lib.hid ht
      clear ht
      by_cases hlt : k < xs.length
      · obtain ⟨b, o, x, hx1, rfl, hb1, hc1⟩ := ha.get hlt
        obtain ⟨b', o', y, hy1, rfl, hb2, hc2⟩ := hb.get (by rw [← HL.out]; exact hlt)
        have hlt' : k < ys.length := by rw [← HL.out]; exact hlt
        have X := Lib.hid hx1
        have Y := Lib.hid hy1
        clear hx1 hy1
        by_cases hxy : x = y
        · subst hxy
          go_wp2
          go_quiet (fail)
          go_wp2
          go_roundw
          case rel => exact ⟨k + 1, by omega, by go_num, by rw [take_snoc X.out, take_snoc Y.out, HT.out], _, rfl⟩
          case measure => simp [intOf]; omega
        · have hne : (x != y) = true := by simp [hxy]
          go_wp2
          go_quiet (fail)
          go_wp2
          go_ret
          refine ⟨?_, _, World.drewN_drewN _ _ _⟩
          have : eqb xs ys = false := by
            rw [eqb, decide_eq_false_iff_not]
            rintro rfl
            have := X.out.symm.trans Y.out
            injection this with this
            exact hxy this
          rw [this]; rfl
      · go_wp2
        go_ret
        refine ⟨?_, _, rfl⟩
        have : eqb xs ys = true := by
          rw [eqb_true]
          have h1 := HT.out
          rw [List.take_of_length_le (by omega), List.take_of_length_le (by have := HL.out; omega)] at h1
          exact h1
        rw [this]; rfl
  · have hlb : (((xs.length : Nat) : Int) != ((ys.length : Nat) : Int)) = true := by simp; omega
    have he : eqb xs ys = false := by
      rw [eqb, decide_eq_false_iff_not]
      rintro rfl
      exact hl rfl
    rw [he]
    go_enter Try.func21, Try.ntmps21
    go_wp2
    go_ret
    exact ⟨rfl, 0, rfl⟩
end Go.Proofs.Ytdjmmdhjjdnbdaa
