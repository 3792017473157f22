/- Spans: long, Check. -/
import Derived.Test.YthaiplhjekkooaaSpM0
namespace Go.Proofs.Ythaiplhjekkooaa
open Go.RowKit

/-- The first that p tells, or -1. -/
def idxT (p : Tg → Bool) (l : List Tg) : Int := match l.findIdx? p with | some i => (i : Int) | none => -1
theorem idxT_hit {p : Tg → Bool} {l : List Tg} {j : Nat} {x : Tg} (h : (l.take j).any p = false) (hx : l[j]? = some x) (hp : p x = true) : idxT p l = j := by
  have hj := (List.getElem?_eq_some_iff.1 hx).1
  have : l.findIdx? p = some j := by
    rw [List.findIdx?_eq_some_iff_getElem]
    refine ⟨hj, by rw [(List.getElem?_eq_some_iff.1 hx).2]; exact hp, fun i hi => ?_⟩
    have h1 := List.any_eq_false.1 h (l[i]'(by omega)) (List.mem_of_getElem? (i := i) (by rw [List.getElem?_take, if_pos hi]; exact List.getElem?_eq_getElem _))
    simpa using h1
  rw [idxT, this]
theorem idxT_none {p : Tg → Bool} {l : List Tg} (h : l.any p = false) : idxT p l = -1 := by
  have : l.findIdx? p = none := by
    rw [List.findIdx?_eq_none_iff]
    intro x hx
    have := List.any_eq_false.1 h x hx
    simpa using this
  rw [idxT, this]
theorem idxT_any (p : Tg → Bool) (l : List Tg) : decide (0 ≤ idxT p l) = l.any p := by
  by_cases h : l.any p = true
  · rw [h, decide_eq_true_iff, idxT]
    cases hf : l.findIdx? p with
    | none =>
      rw [List.findIdx?_eq_none_iff] at hf
      obtain ⟨x, hx, hp⟩ := List.any_eq_true.1 h
      rw [hf x hx] at hp
      cases hp
    | some i => simp only; omega
  · have h : l.any p = false := by simpa using h
    rw [h, idxT_none h]
    rfl

set_option maxHeartbeats 400000 in
theorem spIndexLong {A : Option Addr} {c n B : Nat} {l : List Tg} (w : World) (hf : RbT w B A l) (hn : l.length = n) (hB : B ≤ w.heap.size) (hnl : n ≤ 9223372036854775807) :
    Calls Try.prog 73 #[.slice A n c, .func (.func 64) #[] #[]] w fun e w' => e = .returned (.int .i64 (idxT tgLong l)) ∧ Below w.heap.size w w' := by
  have HN := Lib.hid hn
  obtain ⟨q, hq⟩ : ∃ q, idxT tgLong l = q := ⟨_, rfl⟩
  rw [hq]
  have HQ := Lib.hid hq
  clear hn hq
  go_enter Try.func73, Try.ntmps73
  go_wp2
  go_loopw [8] (fun iv_ wr => ∃ j : Nat, j ≤ n ∧ iv_ = .int .i64 j ∧ (l.take j).any tgLong = false ∧ Below w.heap.size w wr) (fun i _ => n - (intOf i).toNat)
  case atStart => exact ⟨0, by omega, rfl, rfl, Below.refl _ _⟩
  case round =>
    obtain ⟨j, hj, rfl, hall, hb⟩ := hrel
    have HA := Lib.hid hall
    clear hall
    by_cases hlt : j < n
    · have hlt' : (j : Int) < (n : Int) := by omega
      obtain ⟨x, hx⟩ : ∃ x, l[j]? = some x := ⟨_, List.getElem?_eq_getElem (by rw [HN.out]; exact hlt)⟩
      obtain ⟨b, o, rfl, hbb, h1, h2⟩ := RbT.get (Rd.below hf (hb.mono hB)) hx
      have HX := Lib.hid hx
      clear hx
      go_wp2_with (go_at_call 64; refine (spLong1 _ x).mono ?_; rintro e w' ⟨rfl, hb'⟩)
      · have hb2 := hb.trans (hb'.mono hb.size)
        rename_i hpx
        go_ret
        have hqt : q = (j : Int) := by
          rw [← HQ.out]
          exact idxT_hit HA.out HX.out (by first | exact hpx | simpa using hpx)
        exact ⟨by rw [hqt]; rfl, hb2⟩
      · have hb2 := hb.trans (hb'.mono hb.size)
        rename_i hpx
        go_roundw
        case rel => exact ⟨j + 1, by omega, by go_num, by rw [take_snoc HX.out, List.any_append, HA.out]; simpa using hpx, hb2⟩
        case measure => simp [intOf]; omega
    · have hlt' : decide ((j : Int) < (n : Int)) = false := by simp; omega
      go_wp2
      go_ret
      have : q = -1 := by
        rw [← HQ.out]
        have h1 := HA.out
        rw [List.take_of_length_le (by rw [HN.out]; omega)] at h1
        exact idxT_none h1
      exact ⟨by rw [this]; rfl, hb⟩

theorem spHasLong {A : Option Addr} {c n B : Nat} {l : List Tg} (w : World) (hf : RbT w B A l) (hn : l.length = n) (hB : B ≤ w.heap.size) (hnl : n ≤ 9223372036854775807) :
    Calls Try.prog 63 #[.slice A n c, .func (.func 64) #[] #[]] w fun e w' => e = .returned (.bool (l.any tgLong)) ∧ Below w.heap.size w w' := by
  have hc := spIndexLong (c := c) w hf hn hB hnl
  have ha := idxT_any tgLong l
  obtain ⟨q, hq⟩ : ∃ q, idxT tgLong l = q := ⟨_, rfl⟩
  rw [hq] at hc ha
  rw [← ha]
  have HC := Lib.hid hc
  clear hc hq ha
  go_enter Try.func63, Try.ntmps63
  go_wp2_with (go_at_call 73; refine HC.out.mono ?_; rintro e w' ⟨rfl, hb'⟩)
  go_ret
  exact ⟨rfl, hb'⟩

set_option maxHeartbeats 400000 in
theorem spLong {A : Option Addr} {c n B : Nat} (s : Sp) (w : World) (hf : RbT w B A s.tags) (hn : s.tags.length = n) (hB : B ≤ w.heap.size) (hnl : n ≤ 9223372036854775807) :
    Calls Try.prog 50 #[spV s A n c] w fun e w' => e = .returned (.bool (longB s)) ∧ Below w.heap.size w w' := by
  obtain ⟨q, hq⟩ : ∃ q, longB s = q := ⟨_, rfl⟩
  rw [hq]
  unfold longB at hq
  rw [hn] at hq
  have HQ := Lib.hid hq
  have hb0 : Below w.heap.size w (w.alloc (.cells (spC s A n c) 43)) := (Below.refl _ w).alloc (Nat.le_refl _) _
  have hf1 := Rd.alloc hf hB (.cells (spC s A n c) 43)
  clear hq
  by_cases h1 : 128 < s.service.size
  · have d1 : (128 : Int) < (s.service.size : Int) := by omega
    go_enter Try.func50, Try.ntmps50
    go_wp2
    go_ret
    have : q = true := by rw [← HQ.out]; simp [h1]
    exact ⟨by rw [this]; rfl, hb0⟩
  have d1 : decide ((128 : Int) < (s.service.size : Int)) = false := by simp; omega
  by_cases h2 : 128 < s.name.size
  · have d2 : (128 : Int) < (s.name.size : Int) := by omega
    go_enter Try.func50, Try.ntmps50
    go_wp2
    go_ret
    have : q = true := by rw [← HQ.out]; simp [h2]
    exact ⟨by rw [this]; rfl, hb0⟩
  have d2 : decide ((128 : Int) < (s.name.size : Int)) = false := by simp; omega
  by_cases h3 : 16 < n
  · have d3 : (16 : Int) < (n : Int) := by omega
    go_enter Try.func50, Try.ntmps50
    go_wp2
    go_ret
    have : q = true := by rw [← HQ.out]; simp [h3]
    exact ⟨by rw [this]; rfl, hb0⟩
  have d3 : decide ((16 : Int) < (n : Int)) = false := by simp; omega
  have hc := spHasLong (c := c) _ hf1 hn (by simp; omega) hnl
  obtain ⟨a, ha⟩ : ∃ a, s.tags.any tgLong = a := ⟨_, rfl⟩
  rw [ha] at hc
  have hqa : q = a := by rw [← HQ.out, ha]; simp [h1, h2, h3]
  have HC := Lib.hid hc
  clear hc ha
  go_enter Try.func50, Try.ntmps50
  go_wp2_with (go_at_call 63; refine HC.out.mono ?_; rintro e w' ⟨rfl, hb'⟩)
  go_ret
  exact ⟨by rw [hqa]; rfl, hb0.trans (hb'.mono (by simp))⟩
end Go.Proofs.Ythaiplhjekkooaa
