/- Contracts of After. -/
import Derived.Test.YtoflefonhegogaaWire2
namespace Go.Proofs.Ytoflefonhegogaa
open Go.RowKit

set_option maxHeartbeats 400000 in
/-- After, where nothing is left but 255s. -/
theorem wireAfter0 {A : Option Addr} {c B n : Nat} {p : List Int} (w : World) (ha : Rb w B A p) (hl : p.length ≤ maxLen) (h0 : cutN p p.length = 0) (hn : p.length = n) :
    Calls Try.prog 11 #[.slice A n c] w fun e w' => e = .returned (.tuple #[.slice none 0 0, .bool false]) ∧ w = w' := by
  subst hn
  unfold maxLen at hl
  go_enter Try.func11, Try.ntmps11
  have H0 := Lib.hid h0
  clear h0
  go_wp2
  go_loop [4] (fun i => ∃ k : Nat, k ≤ p.length ∧ i = .int .i64 k ∧ cutN p k = 0) (fun i => (intOf i).toNat)
  case atStart => exact ⟨_, Nat.le_refl _, rfl, H0.out⟩
  case round =>
    obtain ⟨k, hk, rfl, hc⟩ := hrel
    have HC := Lib.hid hc
    clear hc
    cases k with
    | zero =>
      go_wp2
      go_ret2
      exact ⟨rfl, rfl⟩
    | succ k =>
      obtain ⟨b, o, x, hx, rfl, hb, hcell⟩ := ha.get (k := k) (by omega)
      have hx255 : x = 255 := by
        have := HC.out
        rw [cutN] at this
        split at this
        · rename_i h
          rw [hx] at h
          injection h
        · omega
      subst hx255
      have HX := Lib.hid hx
      clear hx
      go_wp2
      go_round
      case rel => exact ⟨k, by omega, by go_num, by have := HC.out; rw [cutN, if_pos HX.out] at this; exact this⟩
      case measure => simp [intOf]

set_option maxHeartbeats 400000 in
/-- After, where nothing is left but 255s. -/
theorem refAfter0 {A : Option Addr} {c B n : Nat} {p : List Int} (w : World) (ha : Rb w B A p) (hl : p.length ≤ maxLen) (h0 : cutN p p.length = 0) (hn : p.length = n) :
    Calls Try.prog 18 #[.slice A n c] w fun e w' => e = .returned (.tuple #[.slice none 0 0, .bool false]) ∧ w = w' := by
  subst hn
  unfold maxLen at hl
  go_enter Try.func18, Try.ntmps18
  have H0 := Lib.hid h0
  clear h0
  go_wp2
  go_loop [4] (fun i => ∃ k : Nat, k ≤ p.length ∧ i = .int .i64 k ∧ cutN p k = 0) (fun i => (intOf i).toNat)
  case atStart => exact ⟨_, Nat.le_refl _, rfl, H0.out⟩
  case round =>
    obtain ⟨k, hk, rfl, hc⟩ := hrel
    have HC := Lib.hid hc
    clear hc
    cases k with
    | zero =>
      go_wp2
      go_ret2
      exact ⟨rfl, rfl⟩
    | succ k =>
      obtain ⟨b, o, x, hx, rfl, hb, hcell⟩ := ha.get (k := k) (by omega)
      have hx255 : x = 255 := by
        have := HC.out
        rw [cutN] at this
        split at this
        · rename_i h
          rw [hx] at h
          injection h
        · omega
      subst hx255
      have HX := Lib.hid hx
      clear hx
      go_wp2
      go_round
      case rel => exact ⟨k, by omega, by go_num, by have := HC.out; rw [cutN, if_pos HX.out] at this; exact this⟩
      case measure => simp [intOf]

set_option maxHeartbeats 800000 in
/-- After, where something is left. -/
theorem wireAfter1 {A : Option Addr} {c B n : Nat} {p : List Int} (w : World) (ha : Rb w B A p) (hB : B ≤ w.heap.size) (hl : p.length ≤ 140737488351232) (hp : Byt p) (h0 : 0 < cutN p p.length) (hn : p.length = n) (hc : p.length ≤ c) :
    Calls Try.prog 11 #[.slice A n c] w (RetNew2 5 1 w (aftOf p).length (bv (aftOf p)) (.bool true) (· ≠ none)) := by
  subst hn
  have hle := cutN_le p p.length
  obtain ⟨q, hq⟩ : ∃ q, cutN p p.length = q + 1 := ⟨cutN p p.length - 1, by omega⟩
  have hlast := cutN_last p p.length h0
  have hal := aftOf_len p h0
  have hrest := fun j => cutN_rest p p.length j
  have hao : aftOf p = p.take q ++ [p.getD q 0 + 1] := by rw [aftOf, hq]; rfl
  rw [hq] at hlast hal hle hrest
  obtain ⟨b, o, x, hx, rfl, hb, hcell⟩ := ha.get (k := q) (by omega)
  have hx' : x ≠ 255 := by
    rintro rfl
    exact hlast hx
  have hxb := hp.get hx
  have hxn : (x == 255) = false := by simp [hx']
  have HQ := Lib.hid hq
  have HA := Lib.hid hao
  have HX := Lib.hid hx
  have HL := Lib.hid hal
  have HR := Lib.hid hrest
  clear hq hao hlast hx hal h0 hrest
  go_enter Try.func11, Try.ntmps11
  go_wp2
  go_loop [4] (fun i => ∃ k : Nat, k ≤ p.length ∧ i = .int .i64 k ∧ q + 1 ≤ k) (fun i => (intOf i).toNat)
  case atStart => exact ⟨_, Nat.le_refl _, rfl, hle⟩
  case round =>
    obtain ⟨k, hk, rfl, hkq⟩ := hrel
    by_cases hke : k = q + 1
    · subst hke
      have hpos : (0 : Int) < (q : Int) + 1 := by omega
      have hne : ((q : Int) + 1 == 0) = false := by rw [beq_eq_false_iff_ne]; omega
      go_wp2_with fail
      refine (bytesClone (xs := p.take (q + 1)) w (Rb.take ha _) hB (by simp; omega) (by simp) (by simp; omega)).mono ?_
      rintro e w1 ⟨A', c', rfl, happ, hne'⟩
      obtain ⟨g, cap, hv, _, _⟩ := happ.own.form (by omega)
      injection hv with hA' _ hcap
      subst hA' hcap
      have hgc : w1.cell? ⟨g, q, none⟩ = some (.int .u8 x) := by
        rw [happ.own.cellAt q (by omega)]
        exact bv_get (by rw [List.getElem?_take, if_pos (by omega)]; exact HX.out)
      have hgf : w1.frozen? ⟨g, q, none⟩ = false := happ.own.frozenAt q
      have hx255 : x + 1 ≤ 255 := by omega
      go_wp2
      go_ret2
      have e1 : (aftOf p).length = q + 1 := HL.out
      have e2 : (bv (p.take (q + 1))).set q (.int .u8 (x + 1)) = bv (aftOf p) := by
        rw [HA.out, List.take_add_one, HX.out]
        simp [bv, List.getD, HX.out]
        rw [List.set_append_right _ _ (by simp; omega)]
        simp
        rw [show q - min q p.length = 0 from by omega]
        rfl
      exact ⟨_, _, by rw [e1]; rfl, by rw [e1, ← e2]; exact happ.set q _, by simp⟩
    · obtain ⟨k, rfl⟩ : ∃ k', k = k' + 1 := ⟨k - 1, by omega⟩
      have hx2 := HR.out k (by omega) (by omega)
      obtain ⟨b', o', x', hx1, e1, _, hcell'⟩ := ha.get (k := k) (by omega)
      have hx'' : x' = 255 := by rw [hx2] at hx1; injection hx1 with h; exact h.symm
      subst hx''
      injection e1 with e1
      injection e1 with e1 e2
      subst e1 e2
      clear hx1 hx2 hcell
      go_wp2
      go_round
      case rel => exact ⟨k, by omega, by go_num, by omega⟩
      case measure => simp [intOf]

set_option maxHeartbeats 800000 in
/-- After, where something is left. -/
theorem refAfter1 {A : Option Addr} {c B n : Nat} {p : List Int} (w : World) (ha : Rb w B A p) (hB : B ≤ w.heap.size) (hl : p.length ≤ 140737488351232) (hp : Byt p) (h0 : 0 < cutN p p.length) (hn : p.length = n) (hc : p.length ≤ c) :
    Calls Try.prog 18 #[.slice A n c] w (RetNew2 5 1 w (aftOf p).length (bv (aftOf p)) (.bool true) (· ≠ none)) := by
  subst hn
  have hle := cutN_le p p.length
  obtain ⟨q, hq⟩ : ∃ q, cutN p p.length = q + 1 := ⟨cutN p p.length - 1, by omega⟩
  have hlast := cutN_last p p.length h0
  have hal := aftOf_len p h0
  have hrest := fun j => cutN_rest p p.length j
  have hao : aftOf p = p.take q ++ [p.getD q 0 + 1] := by rw [aftOf, hq]; rfl
  rw [hq] at hlast hal hle hrest
  obtain ⟨b, o, x, hx, rfl, hb, hcell⟩ := ha.get (k := q) (by omega)
  have hx' : x ≠ 255 := by
    rintro rfl
    exact hlast hx
  have hxb := hp.get hx
  have hxn : (x == 255) = false := by simp [hx']
  have HQ := Lib.hid hq
  have HA := Lib.hid hao
  have HX := Lib.hid hx
  have HL := Lib.hid hal
  have HR := Lib.hid hrest
  clear hq hao hlast hx hal h0 hrest
  go_enter Try.func18, Try.ntmps18
  go_wp2
  go_loop [4] (fun i => ∃ k : Nat, k ≤ p.length ∧ i = .int .i64 k ∧ q + 1 ≤ k) (fun i => (intOf i).toNat)
  case atStart => exact ⟨_, Nat.le_refl _, rfl, hle⟩
  case round =>
    obtain ⟨k, hk, rfl, hkq⟩ := hrel
    by_cases hke : k = q + 1
    · subst hke
      have hpos : (0 : Int) < (q : Int) + 1 := by omega
      have hne : ((q : Int) + 1 == 0) = false := by rw [beq_eq_false_iff_ne]; omega
      go_wp2_with (at_builtin; go_loud (refine wpList_appb _ rfl (.tmp 22) (.tmp 25) rfl w.heap.size _ 0 [] rfl (World.ownsRow_lit w #[] 0 (Nat.le_refl _) (by simp [maxLen]) rfl) B _ (q + 1) c (p.take (q + 1)) rfl (by simp; omega) ((Rb.take ha _).alloc hB _) (by omega) (by simp) ?_))
      intro A' c' w1 happ0 hne'
      have happ := happ0.fresh1
      clear happ0
      obtain ⟨g, cap, hv, _, _⟩ := happ.own.form (by omega)
      injection hv with hA' _ hcap
      subst hA' hcap
      have hgc : w1.cell? ⟨g, q, none⟩ = some (.int .u8 x) := by
        rw [happ.own.cellAt q (by omega)]
        exact bv_get (by rw [List.getElem?_take, if_pos (by omega)]; exact HX.out)
      have hgf : w1.frozen? ⟨g, q, none⟩ = false := happ.own.frozenAt q
      have hx255 : x + 1 ≤ 255 := by omega
      go_wp2
      go_ret2
      have e1 : (aftOf p).length = q + 1 := HL.out
      have e2 : (bv (p.take (q + 1))).set q (.int .u8 (x + 1)) = bv (aftOf p) := by
        rw [HA.out, List.take_add_one, HX.out]
        simp [bv, List.getD, HX.out]
        rw [List.set_append_right _ _ (by simp; omega)]
        simp
        rw [show q - min q p.length = 0 from by omega]
        rfl
      exact ⟨_, _, by rw [e1]; rfl, by rw [e1, ← e2]; exact happ.set q _, by simp⟩
    · obtain ⟨k, rfl⟩ : ∃ k', k = k' + 1 := ⟨k - 1, by omega⟩
      have hx2 := HR.out k (by omega) (by omega)
      obtain ⟨b', o', x', hx1, e1, _, hcell'⟩ := ha.get (k := k) (by omega)
      have hx'' : x' = 255 := by rw [hx2] at hx1; injection hx1 with h; exact h.symm
      subst hx''
      injection e1 with e1
      injection e1 with e1 e2
      subst e1 e2
      clear hx1 hx2 hcell
      go_wp2
      go_round
      case rel => exact ⟨k, by omega, by go_num, by omega⟩
      case measure => simp [intOf]


end Go.Proofs.Ytoflefonhegogaa
