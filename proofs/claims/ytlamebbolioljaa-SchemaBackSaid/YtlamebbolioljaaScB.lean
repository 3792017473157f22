/- Keys: what a key is; slices.Contains of ints; has. -/
import Derived.Test.YtlamebbolioljaaScA
import Derived.Test.YtlamebbolioljaaSpM
namespace Go.Proofs.Ytlamebbolioljaa
open Go.RowKit

structure Ky where
  kind : Int
  hi : Nat
  lo : Nat
  id : Nat
  service : ByteArray
  name : ByteArray
  value : ByteArray
  number : Nat
  start : Int
deriving DecidableEq
abbrev kyC (k : Ky) : Array Value := #[.int .i64 k.kind, .int .u64 k.hi, .int .u64 k.lo, .int .u64 k.id, .string k.service, .string k.name, .string k.value, .int .u64 k.number, .int .i64 k.start]
abbrev kyV (k : Ky) : Value := .agg (kyC k)
def hasI (l : List Int) (x : Int) : Bool := l.any (fun y => y == x)
theorem iv_length (l : List Int) : (iv l).length = l.length := by simp [iv]
theorem iv_get {l : List Int} {i : Nat} {x : Int} (h : l[i]? = some x) : (iv l)[i]? = some (.int .i64 x) := by simp [iv, h]
/-- The place of x, or -1. -/
def idxI (l : List Int) (x : Int) : Int := match l.findIdx? (fun y => y == x) with | some i => (i : Int) | none => -1
theorem idxI_has (l : List Int) (x : Int) : decide (0 ≤ idxI l x) = hasI l x := by
  unfold idxI hasI
  cases hf : l.findIdx? (fun y => y == x) with
  | none =>
    rw [List.findIdx?_eq_none_iff] at hf
    have : l.any (fun y => y == x) = false := by rw [List.any_eq_false]; intro y hy; rw [hf y hy]; simp
    rw [this]
    rfl
  | some i =>
    obtain ⟨hi, h1, _⟩ := List.findIdx?_eq_some_iff_getElem.1 hf
    have : l.any (fun y => y == x) = true := List.any_eq_true.2 ⟨_, List.getElem_mem hi, h1⟩
    rw [this, decide_eq_true_iff]
    simp only
    omega
set_option maxHeartbeats 400000 in
theorem slIndexI {A : Option Addr} {c n B : Nat} {l : List Int} (x : Int) (w : World) (hf : Rd w B A (iv l)) (hn : l.length = n) (hnl : n ≤ 1000) :
    Calls Try.prog 60 #[.slice A n c, .int .i64 x] w fun e w' => e = .returned (.int .i64 (idxI l x)) ∧ w' = w := by
  have HN := Lib.hid hn
  obtain ⟨q, hq⟩ : ∃ q, idxI l x = q := ⟨_, rfl⟩
  rw [hq]
  have HQ := Lib.hid hq
  clear hn hq
  go_enter Try.func60, Try.ntmps60
  go_wp2
  go_loop [8] (fun iv_ => ∃ j : Nat, j ≤ n ∧ iv_ = .int .i64 j ∧ (∀ i y, i < j → l[i]? = some y → (y == x) = false)) (fun i => n - (intOf i).toNat)
  case atStart => exact ⟨0, by omega, rfl, fun i y h => by omega⟩
  case round =>
    obtain ⟨j, hj, rfl, hall⟩ := hrel
    have HA := Lib.hid hall
    clear hall
    by_cases hlt : j < n
    · have hlt' : (j : Int) < (n : Int) := by omega
      obtain ⟨y, hy⟩ : ∃ y, l[j]? = some y := ⟨_, List.getElem?_eq_getElem (by rw [HN.out]; exact hlt)⟩
      obtain ⟨b, o, rfl, hbb, hc⟩ := hf.get (iv_get hy)
      have HY := Lib.hid hy
      clear hy
      by_cases he : x = y
      · have d1 : (x == y) = true := by simp [he]
        have hqj : q = (j : Int) := by
          rw [← HQ.out, idxI]
          have : l.findIdx? (fun y => y == x) = some j := by
            rw [List.findIdx?_eq_some_iff_getElem]
            have hl := (List.getElem?_eq_some_iff.1 HY.out).1
            refine ⟨hl, by rw [(List.getElem?_eq_some_iff.1 HY.out).2]; simp [he], fun i hi => ?_⟩
            have := HA.out i _ hi (List.getElem?_eq_getElem (by omega))
            rw [this]
            simp
          rw [this]
        have HQJ := Lib.hid hqj
        clear hqj he
        go_wp2
        go_ret
        exact ⟨by rw [HQJ.out]; rfl, rfl⟩
      · have d1 : (x == y) = false := by simp [he]
        have hst : ∀ i z, i < j + 1 → l[i]? = some z → (z == x) = false := fun i z hi hz => by
          by_cases hij : i < j
          · exact HA.out i z hij hz
          · obtain rfl : i = j := by omega
            rw [HY.out] at hz
            cases hz
            simp
            exact fun e => he e.symm
        have HST := Lib.hid hst
        clear hst he
        go_wp2
        go_round
        case rel => exact ⟨j + 1, by omega, by go_num, HST.out⟩
        case measure => simp [intOf]; omega
    · have hlt' : decide ((j : Int) < (n : Int)) = false := by simp; omega
      have hq1 : q = -1 := by
        rw [← HQ.out, idxI]
        have : l.findIdx? (fun y => y == x) = none := by
          rw [List.findIdx?_eq_none_iff]
          intro y hy
          obtain ⟨i, hi, rfl⟩ := List.getElem_of_mem hy
          exact HA.out i _ (by rw [HN.out] at hi; omega) (List.getElem?_eq_getElem hi)
        rw [this]
      have HQ1 := Lib.hid hq1
      clear hq1
      go_wp2
      go_ret
      exact ⟨by rw [HQ1.out]; rfl, rfl⟩
theorem slContI {A : Option Addr} {c n B : Nat} {l : List Int} (x : Int) (w : World) (hf : Rd w B A (iv l)) (hn : l.length = n) (hnl : n ≤ 1000) :
    Calls Try.prog 39 #[.slice A n c, .int .i64 x] w fun e w' => e = .returned (.bool (hasI l x)) ∧ w' = w := by
  have hc := slIndexI (c := c) x w hf hn hnl
  have hh := idxI_has l x
  obtain ⟨q, hq⟩ : ∃ q, idxI l x = q := ⟨_, rfl⟩
  rw [hq] at hc hh
  rw [← hh]
  have HC := Lib.hid hc
  clear hc hh hq
  go_enter Try.func39, Try.ntmps39
  go_wp2_with (go_at_call 60; refine HC.out.mono ?_; rintro e w' ⟨rfl, rfl⟩)
  go_ret
  exact ⟨rfl, rfl⟩
/-- The closure that asks for a part. -/
theorem scHas {A : Option Addr} {n gl B : Nat} {l : List Int} (x : Int) (w : World) (hc : w.cell? ⟨gl, 0, none⟩ = some (.slice A n n)) (hf : Rd w B A (iv l)) (hn : l.length = n) (hnl : n ≤ 1000) :
    Calls Try.prog 38 #[.int .i64 x, .pointer (some ⟨gl, 0, none⟩)] w fun e w' => e = .returned (.bool (hasI l x)) ∧ w' = w := by
  have hk := slContI (c := n) x w hf hn hnl
  obtain ⟨q, hq⟩ : ∃ q, hasI l x = q := ⟨_, rfl⟩
  rw [hq] at hk ⊢
  have HK := Lib.hid hk
  clear hk hq hn
  go_enter Try.func38, Try.ntmps38
  go_wp2_with (go_at_call 39; refine HK.out.mono ?_; rintro e w' ⟨rfl, rfl⟩)
  go_ret
  exact ⟨rfl, rfl⟩
set_option maxHeartbeats 400000 in
/-- The document's has. -/
theorem rHas {A : Option Addr} {c n B : Nat} {l : List Int} (x : Int) (w : World) (hf : Rd w B A (iv l)) (hn : l.length = n) (hnl : n ≤ 1000) :
    Calls Try.prog 41 #[.slice A n c, .int .i64 x] w fun e w' => e = .returned (.bool (hasI l x)) ∧ w' = w := by
  have HN := Lib.hid hn
  obtain ⟨q, hq⟩ : ∃ q, hasI l x = q := ⟨_, rfl⟩
  rw [hq]
  have HQ := Lib.hid hq
  clear hn hq
  go_enter Try.func41, Try.ntmps41
  go_wp2
  go_loop [5] (fun iv_ => ∃ j : Nat, j ≤ n ∧ iv_ = .int .i64 j ∧ (∀ i y, i < j → l[i]? = some y → (y == x) = false)) (fun i => n - (intOf i).toNat)
  case atStart => exact ⟨0, by omega, rfl, fun i y h => by omega⟩
  case round =>
    obtain ⟨j, hj, rfl, hall⟩ := hrel
    have HA := Lib.hid hall
    clear hall
    by_cases hlt : j < n
    · have hlt' : (j : Int) < (n : Int) := by omega
      obtain ⟨y, hy⟩ : ∃ y, l[j]? = some y := ⟨_, List.getElem?_eq_getElem (by rw [HN.out]; exact hlt)⟩
      obtain ⟨b, o, rfl, hbb, hc⟩ := hf.get (iv_get hy)
      have HY := Lib.hid hy
      clear hy
      by_cases he : y = x
      · have d1 : (y == x) = true := by simp [he]
        have hqj : q = true := by
          rw [← HQ.out, hasI, List.any_eq_true]
          exact ⟨y, List.mem_of_getElem? HY.out, by simp [he]⟩
        have HQJ := Lib.hid hqj
        clear hqj he
        go_wp2
        go_ret
        exact ⟨by rw [HQJ.out]; rfl, rfl⟩
      · have d1 : (y == x) = false := by simp [he]
        have hst : ∀ i z, i < j + 1 → l[i]? = some z → (z == x) = false := fun i z hi hz => by
          by_cases hij : i < j
          · exact HA.out i z hij hz
          · obtain rfl : i = j := by omega
            rw [HY.out] at hz
            cases hz
            simp [he]
        have HST := Lib.hid hst
        clear hst he
        go_wp2
        go_round
        case rel => exact ⟨j + 1, by omega, by go_num, HST.out⟩
        case measure => simp [intOf]; omega
    · have hlt' : decide ((j : Int) < (n : Int)) = false := by simp; omega
      have hq1 : q = false := by
        rw [← HQ.out, hasI, List.any_eq_false]
        intro y hy
        obtain ⟨i, hi, rfl⟩ := List.getElem_of_mem hy
        rw [HA.out i _ (by rw [HN.out] at hi; omega) (List.getElem?_eq_getElem hi)]
        simp
      have HQ1 := Lib.hid hq1
      clear hq1
      go_wp2
      go_ret
      exact ⟨by rw [HQ1.out]; rfl, rfl⟩
end Go.Proofs.Ytlamebbolioljaa
