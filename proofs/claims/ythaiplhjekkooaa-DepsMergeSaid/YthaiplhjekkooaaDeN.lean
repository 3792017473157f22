/- deps: is a span ahead of all time? slices.ContainsFunc with Edges' closure. -/
import Derived.Test.YthaiplhjekkooaaAeP
import Derived.Test.YthaiplhjekkooaaLoadK
namespace Go.Proofs.Ythaiplhjekkooaa
open Go.RowKit
theorem loadAd_shutN (a : Addr) : loadVar 45 a = loadK 45 a := rfl
attribute [local go_sem ↓] loadAd_shutN

def negA (e : AE) : Bool := decide (e.a.s.start < 0)
/-- The first that p tells, or -1. -/
def idxA (p : AE → Bool) (l : List AE) : Int := match l.findIdx? p with | some i => (i : Int) | none => -1
theorem idxA_hit {p : AE → Bool} {l : List AE} {j : Nat} {x : AE} (h : (l.take j).any p = false) (hx : l[j]? = some x) (hp : p x = true) : idxA p l = j := by
  have hj := (List.getElem?_eq_some_iff.1 hx).1
  have : l.findIdx? p = some j := by
    rw [List.findIdx?_eq_some_iff_getElem]
    refine ⟨hj, by rw [(List.getElem?_eq_some_iff.1 hx).2]; exact hp, fun i hi => ?_⟩
    have h1 := List.any_eq_false.1 h (l[i]'(by omega)) (List.mem_of_getElem? (i := i) (by rw [List.getElem?_take, if_pos hi]; exact List.getElem?_eq_getElem _))
    simpa using h1
  rw [idxA, this]
theorem idxA_none {p : AE → Bool} {l : List AE} (h : l.any p = false) : idxA p l = -1 := by
  have : l.findIdx? p = none := by
    rw [List.findIdx?_eq_none_iff]
    intro x hx
    have := List.any_eq_false.1 h x hx
    simpa using this
  rw [idxA, this]
theorem idxA_any (p : AE → Bool) (l : List AE) : decide (0 ≤ idxA p l) = l.any p := by
  by_cases h : l.any p = true
  · rw [h, decide_eq_true_iff, idxA]
    cases hf : l.findIdx? p with
    | none =>
      rw [List.findIdx?_eq_none_iff] at hf
      obtain ⟨x, hx, hp⟩ := List.any_eq_true.1 h
      rw [hf x hx] at hp
      cases hp
    | some i => simp only; omega
  · have h : l.any p = false := by simpa using h
    rw [h, idxA_none h]
    rfl
theorem deNeg (e : AE) (w : World) : Calls Try.prog 33 #[adV e.a e.A e.n e.c] w fun en w' => en = .returned (.bool (negA e)) ∧ Below w.heap.size w w' := by
  have hb0 : Below w.heap.size w (w.alloc (.cells (adC e.a e.A e.n e.c) 45)) := (Below.refl _ w).alloc (Nat.le_refl _) _
  have HB := Lib.hid hb0
  clear hb0
  go_enter Try.func33, Try.ntmps33
  go_wp2_with fail
  go_ret
  exact ⟨rfl, HB.out⟩
set_option maxHeartbeats 1000000 in
theorem deIndexNeg {A : Option Addr} {c n B : Nat} {l : List AE} (w : World) (hf : RbA w B A l) (hn : l.length = n) (hB : B ≤ w.heap.size) (hnl : n ≤ 9223372036854775807) :
    Calls Try.prog 49 #[.slice A n c, .func (.func 33) #[] #[]] w fun e w' => e = .returned (.int .i64 (idxA negA l)) ∧ Below w.heap.size w w' := by
  have HN := Lib.hid hn
  obtain ⟨q, hq⟩ : ∃ q, idxA negA l = q := ⟨_, rfl⟩
  rw [hq]
  have HQ := Lib.hid hq
  have HF := Lib.hid hf
  clear hn hq hf
  go_enter Try.func49, Try.ntmps49
  go_wp2_with fail
  go_loopw [8] (fun iv_ wr => ∃ j : Nat, j ≤ n ∧ iv_ = .int .i64 j ∧ Hid ((l.take j).any negA = false) ∧ Below w.heap.size w wr) (fun i _ => n - (intOf i).toNat)
  case atStart => exact ⟨0, by omega, rfl, Lib.hid rfl, Below.refl _ _⟩
  case round =>
    obtain ⟨j, hj, rfl, HA, hb⟩ := hrel
    by_cases hlt : j < n
    · have hlt' : (j : Int) < (n : Int) := by omega
      obtain ⟨x, hx⟩ : ∃ x, l[j]? = some x := ⟨_, List.getElem?_eq_getElem (by rw [HN.out]; exact hlt)⟩
      obtain ⟨b, o, rfl, hbb, h1, h2⟩ := (HF.out.below (hb.mono hB)).get hx
      have hld := loadK_ae h1
      have HX := Lib.hid hx
      have hcl := deNeg x wr
      obtain ⟨t, ht⟩ : ∃ t, negA x = t := ⟨_, rfl⟩
      rw [ht] at hcl
      have HT := Lib.hid ht
      clear hx h1 h2 ht
      cases t with
      | true =>
        go_wp2_with (go_at_call 33; refine hcl.mono ?_; rintro e w' ⟨rfl, hb'⟩)
        go_ret
        have hqt : q = (j : Int) := by
          rw [← HQ.out]
          exact idxA_hit HA.out HX.out HT.out
        exact ⟨by rw [hqt]; rfl, hb.trans (hb'.mono hb.size)⟩
      | false =>
        go_wp2_with (go_at_call 33; refine hcl.mono ?_; rintro e w' ⟨rfl, hb'⟩)
        exact ⟨⟨j + 1, by omega, by go_num, Lib.hid (by rw [take_snoc HX.out, List.any_append, HA.out]; simp [HT.out]), hb.trans (hb'.mono hb.size)⟩, by simp only [intOf]; omega⟩
    · have hlt' : decide ((j : Int) < (n : Int)) = false := by simp; omega
      go_wp2_with fail
      go_ret
      have : q = -1 := by
        rw [← HQ.out]
        have h1 := HA.out
        rw [List.take_of_length_le (by rw [HN.out]; omega)] at h1
        exact idxA_none h1
      exact ⟨by rw [this]; rfl, hb⟩
theorem deHasNeg {A : Option Addr} {c n B : Nat} {l : List AE} (w : World) (hf : RbA w B A l) (hn : l.length = n) (hB : B ≤ w.heap.size) (hnl : n ≤ 9223372036854775807) :
    Calls Try.prog 32 #[.slice A n c, .func (.func 33) #[] #[]] w fun e w' => e = .returned (.bool (l.any negA)) ∧ Below w.heap.size w w' := by
  have hc := deIndexNeg (c := c) w hf hn hB hnl
  have ha := idxA_any negA l
  obtain ⟨q, hq⟩ : ∃ q, idxA negA l = q := ⟨_, rfl⟩
  rw [hq] at hc ha
  rw [← ha]
  have HC := Lib.hid hc
  clear hc hq ha
  go_enter Try.func32, Try.ntmps32
  go_wp2_with (go_at_call 49; refine HC.out.mono ?_; rintro e w' ⟨rfl, hb'⟩)
  go_ret
  exact ⟨rfl, hb'⟩
end Go.Proofs.Ythaiplhjekkooaa
