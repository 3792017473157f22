/- Keys: the law's below. -/
import Derived.Test.YtlamebbolioljaaScO
import Derived.Test.YtlamebbolioljaaScM
namespace Go.Proofs.Ytlamebbolioljaa
open Go.RowKit

theorem strNe {s t : ByteArray} : (s.toList == t.toList) = !decide (s ≠ t) := by
  have h : (s.toList == t.toList) = decide (s = t) := by
    rw [ByteArray.toList_eq, ByteArray.toList_eq, Bool.eq_iff_iff, beq_iff_eq, decide_eq_true_iff]
    exact ⟨fun h => ByteArray.ext (Array.ext' h), fun h => by rw [h]⟩
  rw [h]
  by_cases e : s = t <;> simp [e]
theorem natNe {x y : Nat} : ((x : Int) != (y : Int)) = decide (x ≠ y) := by
  rw [Bool.eq_iff_iff, bne_iff_ne, decide_eq_true_iff]
  omega
theorem natLt {x y : Nat} : decide ((x : Int) < (y : Int)) = decide (x < y) := by
  rw [Bool.eq_iff_iff, decide_eq_true_iff, decide_eq_true_iff]
  omega
theorem intNe {x y : Int} : (x != y) = decide (x ≠ y) := by
  rw [Bool.eq_iff_iff, bne_iff_ne, decide_eq_true_iff]
set_option maxRecDepth 100000 in
set_option maxHeartbeats 4000000 in
theorem lawBelow (a b : Ky) (w : World) : Calls Try.prog 27 #[kyV a, kyV b] w fun e w' => e = .returned (.bool (belowK a b)) ∧ Below w.heap.size w w' := by
  have hb0 : Below w.heap.size w ((w.alloc (.cells (kyC a) 26)).alloc (.cells (kyC b) 26)) := ((Below.refl _ w).alloc (Nat.le_refl _) _).alloc (by simp) _
  obtain ⟨r, hr⟩ : ∃ r, belowK a b = r := ⟨_, rfl⟩
  rw [hr]
  have e1 := @strNe a.service b.service
  have e2 := @strNe a.name b.name
  have e3 := @strNe a.value b.value
  have e4 := @natNe a.number b.number
  have e5 := @intNe a.start b.start
  have e6 := @natNe a.hi b.hi
  have e7 := @natNe a.lo b.lo
  have HB := Lib.hid hb0
  unfold belowK belowN belowR at hr
  by_cases k1 : a.kind = 101
  · rw [if_pos k1] at hr
    have d1 : (a.kind == 101) = true := by rw [beq_iff_eq]; exact k1
    have d0 : (a.kind == 100) = false := by rw [k1]; rfl
    have K1 := Lib.hid k1
    clear k1
    by_cases h_number : a.number ≠ b.number
    · rw [if_pos h_number] at hr
      have t_number : ((a.number : Int) != (b.number : Int)) = true := by rw [e4]; exact decide_eq_true h_number
      clear h_number
      have HR := Lib.hid hr
      clear hr hb0 e1 e2 e3 e4 e5 e6 e7
      go_enter Try.func27, Try.ntmps27
      go_wp2
      go_ret
      exact ⟨by rw [← HR.out]; first | rfl | (simp only [natLt]; rfl) | (exact congrArg (fun x => Ending.returned (Value.bool x)) natLt), HB.out⟩
    · rw [if_neg h_number] at hr
      have t_number : ((a.number : Int) != (b.number : Int)) = false := by rw [e4]; exact decide_eq_false h_number
      by_cases h_service : a.service ≠ b.service
      · rw [if_pos h_service] at hr
        have t_service : (a.service.toList == b.service.toList) = false := by rw [e1, decide_eq_true h_service]; rfl
        clear h_service
        have HR := Lib.hid hr
        clear hr hb0 e1 e2 e3 e4 e5 e6 e7
        go_enter Try.func27, Try.ntmps27
        go_wp2
        go_ret
        exact ⟨by rw [← HR.out]; first | rfl | (simp only [natLt]; rfl) | (exact congrArg (fun x => Ending.returned (Value.bool x)) natLt), HB.out⟩
      · rw [if_neg h_service] at hr
        have t_service : (a.service.toList == b.service.toList) = true := by rw [e1, decide_eq_false h_service]; rfl
        by_cases h_name : a.name ≠ b.name
        · rw [if_pos h_name] at hr
          have t_name : (a.name.toList == b.name.toList) = false := by rw [e2, decide_eq_true h_name]; rfl
          clear h_name
          have HR := Lib.hid hr
          clear hr hb0 e1 e2 e3 e4 e5 e6 e7
          go_enter Try.func27, Try.ntmps27
          go_wp2
          go_ret
          exact ⟨by rw [← HR.out]; first | rfl | (simp only [natLt]; rfl) | (exact congrArg (fun x => Ending.returned (Value.bool x)) natLt), HB.out⟩
        · rw [if_neg h_name] at hr
          have t_name : (a.name.toList == b.name.toList) = true := by rw [e2, decide_eq_false h_name]; rfl
          by_cases h_value : a.value ≠ b.value
          · rw [if_pos h_value] at hr
            have t_value : (a.value.toList == b.value.toList) = false := by rw [e3, decide_eq_true h_value]; rfl
            clear h_value
            have HR := Lib.hid hr
            clear hr hb0 e1 e2 e3 e4 e5 e6 e7
            go_enter Try.func27, Try.ntmps27
            go_wp2
            go_ret
            exact ⟨by rw [← HR.out]; first | rfl | (simp only [natLt]; rfl) | (exact congrArg (fun x => Ending.returned (Value.bool x)) natLt), HB.out⟩
          · rw [if_neg h_value] at hr
            have t_value : (a.value.toList == b.value.toList) = true := by rw [e3, decide_eq_false h_value]; rfl
            by_cases h_start : a.start ≠ b.start
            · rw [if_pos h_start] at hr
              have t_start : (a.start != b.start) = true := by rw [e5]; exact decide_eq_true h_start
              clear h_start
              have HR := Lib.hid hr
              clear hr hb0 e1 e2 e3 e4 e5 e6 e7
              go_enter Try.func27, Try.ntmps27
              go_wp2
              go_ret
              exact ⟨by rw [← HR.out]; first | rfl | (simp only [natLt]; rfl) | (exact congrArg (fun x => Ending.returned (Value.bool x)) natLt), HB.out⟩
            · rw [if_neg h_start] at hr
              have t_start : (a.start != b.start) = false := by rw [e5]; exact decide_eq_false h_start
              by_cases h_hi : a.hi ≠ b.hi
              · rw [if_pos h_hi] at hr
                have t_hi : ((a.hi : Int) != (b.hi : Int)) = true := by rw [e6]; exact decide_eq_true h_hi
                clear h_hi
                have HR := Lib.hid hr
                clear hr hb0 e1 e2 e3 e4 e5 e6 e7
                go_enter Try.func27, Try.ntmps27
                go_wp2
                go_ret
                exact ⟨by rw [← HR.out]; first | rfl | (simp only [natLt]; rfl) | (exact congrArg (fun x => Ending.returned (Value.bool x)) natLt), HB.out⟩
              · rw [if_neg h_hi] at hr
                have t_hi : ((a.hi : Int) != (b.hi : Int)) = false := by rw [e6]; exact decide_eq_false h_hi
                by_cases h_lo : a.lo ≠ b.lo
                · rw [if_pos h_lo] at hr
                  have t_lo : ((a.lo : Int) != (b.lo : Int)) = true := by rw [e7]; exact decide_eq_true h_lo
                  clear h_lo
                  have HR := Lib.hid hr
                  clear hr hb0 e1 e2 e3 e4 e5 e6 e7
                  go_enter Try.func27, Try.ntmps27
                  go_wp2
                  go_ret
                  exact ⟨by rw [← HR.out]; first | rfl | (simp only [natLt]; rfl) | (exact congrArg (fun x => Ending.returned (Value.bool x)) natLt), HB.out⟩
                · rw [if_neg h_lo] at hr
                  have t_lo : ((a.lo : Int) != (b.lo : Int)) = false := by rw [e7]; exact decide_eq_false h_lo
                  have HR := Lib.hid hr
                  clear hr hb0 e1 e2 e3 e4 e5 e6 e7
                  go_enter Try.func27, Try.ntmps27
                  go_wp2
                  go_ret
                  exact ⟨by rw [← HR.out]; first | rfl | (simp only [natLt]; rfl) | (exact congrArg (fun x => Ending.returned (Value.bool x)) natLt), HB.out⟩
  · rw [if_neg k1] at hr
    have d1 : (a.kind == 101) = false := by rw [beq_eq_false_iff_ne]; exact k1
    by_cases k0 : a.kind = 100
    · rw [if_pos k0] at hr
      have d0 : (a.kind == 100) = true := by rw [beq_iff_eq]; exact k0
      clear k0 k1
      by_cases h_service : a.service ≠ b.service
      · rw [if_pos h_service] at hr
        have t_service : (a.service.toList == b.service.toList) = false := by rw [e1, decide_eq_true h_service]; rfl
        clear h_service
        have HR := Lib.hid hr
        clear hr hb0 e1 e2 e3 e4 e5 e6 e7
        go_enter Try.func27, Try.ntmps27
        go_wp2
        go_ret
        exact ⟨by rw [← HR.out]; first | rfl | (simp only [natLt]; rfl) | (exact congrArg (fun x => Ending.returned (Value.bool x)) natLt), HB.out⟩
      · rw [if_neg h_service, if_neg h_service] at hr
        have t_service : (a.service.toList == b.service.toList) = true := by rw [e1, decide_eq_false h_service]; rfl
        by_cases h_number : a.number ≠ b.number
        · rw [if_pos h_number] at hr
          have t_number : ((a.number : Int) != (b.number : Int)) = true := by rw [e4]; exact decide_eq_true h_number
          clear h_number
          have HR := Lib.hid hr
          clear hr hb0 e1 e2 e3 e4 e5 e6 e7
          go_enter Try.func27, Try.ntmps27
          go_wp2
          go_ret
          exact ⟨by rw [← HR.out]; first | rfl | (simp only [natLt]; rfl) | (exact congrArg (fun x => Ending.returned (Value.bool x)) natLt), HB.out⟩
        · rw [if_neg h_number] at hr
          have t_number : ((a.number : Int) != (b.number : Int)) = false := by rw [e4]; exact decide_eq_false h_number
          by_cases h_name : a.name ≠ b.name
          · rw [if_pos h_name] at hr
            have t_name : (a.name.toList == b.name.toList) = false := by rw [e2, decide_eq_true h_name]; rfl
            clear h_name
            have HR := Lib.hid hr
            clear hr hb0 e1 e2 e3 e4 e5 e6 e7
            go_enter Try.func27, Try.ntmps27
            go_wp2
            go_ret
            exact ⟨by rw [← HR.out]; first | rfl | (simp only [natLt]; rfl) | (exact congrArg (fun x => Ending.returned (Value.bool x)) natLt), HB.out⟩
          · rw [if_neg h_name] at hr
            have t_name : (a.name.toList == b.name.toList) = true := by rw [e2, decide_eq_false h_name]; rfl
            by_cases h_value : a.value ≠ b.value
            · rw [if_pos h_value] at hr
              have t_value : (a.value.toList == b.value.toList) = false := by rw [e3, decide_eq_true h_value]; rfl
              clear h_value
              have HR := Lib.hid hr
              clear hr hb0 e1 e2 e3 e4 e5 e6 e7
              go_enter Try.func27, Try.ntmps27
              go_wp2
              go_ret
              exact ⟨by rw [← HR.out]; first | rfl | (simp only [natLt]; rfl) | (exact congrArg (fun x => Ending.returned (Value.bool x)) natLt), HB.out⟩
            · rw [if_neg h_value] at hr
              have t_value : (a.value.toList == b.value.toList) = true := by rw [e3, decide_eq_false h_value]; rfl
              by_cases h_start : a.start ≠ b.start
              · rw [if_pos h_start] at hr
                have t_start : (a.start != b.start) = true := by rw [e5]; exact decide_eq_true h_start
                clear h_start
                have HR := Lib.hid hr
                clear hr hb0 e1 e2 e3 e4 e5 e6 e7
                go_enter Try.func27, Try.ntmps27
                go_wp2
                go_ret
                exact ⟨by rw [← HR.out]; first | rfl | (simp only [natLt]; rfl) | (exact congrArg (fun x => Ending.returned (Value.bool x)) natLt), HB.out⟩
              · rw [if_neg h_start] at hr
                have t_start : (a.start != b.start) = false := by rw [e5]; exact decide_eq_false h_start
                by_cases h_hi : a.hi ≠ b.hi
                · rw [if_pos h_hi] at hr
                  have t_hi : ((a.hi : Int) != (b.hi : Int)) = true := by rw [e6]; exact decide_eq_true h_hi
                  clear h_hi
                  have HR := Lib.hid hr
                  clear hr hb0 e1 e2 e3 e4 e5 e6 e7
                  go_enter Try.func27, Try.ntmps27
                  go_wp2
                  go_ret
                  exact ⟨by rw [← HR.out]; first | rfl | (simp only [natLt]; rfl) | (exact congrArg (fun x => Ending.returned (Value.bool x)) natLt), HB.out⟩
                · rw [if_neg h_hi] at hr
                  have t_hi : ((a.hi : Int) != (b.hi : Int)) = false := by rw [e6]; exact decide_eq_false h_hi
                  by_cases h_lo : a.lo ≠ b.lo
                  · rw [if_pos h_lo] at hr
                    have t_lo : ((a.lo : Int) != (b.lo : Int)) = true := by rw [e7]; exact decide_eq_true h_lo
                    clear h_lo
                    have HR := Lib.hid hr
                    clear hr hb0 e1 e2 e3 e4 e5 e6 e7
                    go_enter Try.func27, Try.ntmps27
                    go_wp2
                    go_ret
                    exact ⟨by rw [← HR.out]; first | rfl | (simp only [natLt]; rfl) | (exact congrArg (fun x => Ending.returned (Value.bool x)) natLt), HB.out⟩
                  · rw [if_neg h_lo] at hr
                    have t_lo : ((a.lo : Int) != (b.lo : Int)) = false := by rw [e7]; exact decide_eq_false h_lo
                    have HR := Lib.hid hr
                    clear hr hb0 e1 e2 e3 e4 e5 e6 e7
                    go_enter Try.func27, Try.ntmps27
                    go_wp2
                    go_ret
                    exact ⟨by rw [← HR.out]; first | rfl | (simp only [natLt]; rfl) | (exact congrArg (fun x => Ending.returned (Value.bool x)) natLt), HB.out⟩
    · rw [if_neg k0] at hr
      have d0 : (a.kind == 100) = false := by rw [beq_eq_false_iff_ne]; exact k0
      clear k0 k1
      by_cases h_service : a.service ≠ b.service
      · rw [if_pos h_service] at hr
        have t_service : (a.service.toList == b.service.toList) = false := by rw [e1, decide_eq_true h_service]; rfl
        clear h_service
        have HR := Lib.hid hr
        clear hr hb0 e1 e2 e3 e4 e5 e6 e7
        go_enter Try.func27, Try.ntmps27
        go_wp2
        go_ret
        exact ⟨by rw [← HR.out]; first | rfl | (simp only [natLt]; rfl) | (exact congrArg (fun x => Ending.returned (Value.bool x)) natLt), HB.out⟩
      · rw [if_neg h_service] at hr
        have t_service : (a.service.toList == b.service.toList) = true := by rw [e1, decide_eq_false h_service]; rfl
        by_cases h_name : a.name ≠ b.name
        · rw [if_pos h_name] at hr
          have t_name : (a.name.toList == b.name.toList) = false := by rw [e2, decide_eq_true h_name]; rfl
          clear h_name
          have HR := Lib.hid hr
          clear hr hb0 e1 e2 e3 e4 e5 e6 e7
          go_enter Try.func27, Try.ntmps27
          go_wp2
          go_ret
          exact ⟨by rw [← HR.out]; first | rfl | (simp only [natLt]; rfl) | (exact congrArg (fun x => Ending.returned (Value.bool x)) natLt), HB.out⟩
        · rw [if_neg h_name] at hr
          have t_name : (a.name.toList == b.name.toList) = true := by rw [e2, decide_eq_false h_name]; rfl
          by_cases h_value : a.value ≠ b.value
          · rw [if_pos h_value] at hr
            have t_value : (a.value.toList == b.value.toList) = false := by rw [e3, decide_eq_true h_value]; rfl
            clear h_value
            have HR := Lib.hid hr
            clear hr hb0 e1 e2 e3 e4 e5 e6 e7
            go_enter Try.func27, Try.ntmps27
            go_wp2
            go_ret
            exact ⟨by rw [← HR.out]; first | rfl | (simp only [natLt]; rfl) | (exact congrArg (fun x => Ending.returned (Value.bool x)) natLt), HB.out⟩
          · rw [if_neg h_value] at hr
            have t_value : (a.value.toList == b.value.toList) = true := by rw [e3, decide_eq_false h_value]; rfl
            by_cases h_start : a.start ≠ b.start
            · rw [if_pos h_start] at hr
              have t_start : (a.start != b.start) = true := by rw [e5]; exact decide_eq_true h_start
              clear h_start
              have HR := Lib.hid hr
              clear hr hb0 e1 e2 e3 e4 e5 e6 e7
              go_enter Try.func27, Try.ntmps27
              go_wp2
              go_ret
              exact ⟨by rw [← HR.out]; first | rfl | (simp only [natLt]; rfl) | (exact congrArg (fun x => Ending.returned (Value.bool x)) natLt), HB.out⟩
            · rw [if_neg h_start] at hr
              have t_start : (a.start != b.start) = false := by rw [e5]; exact decide_eq_false h_start
              by_cases h_hi : a.hi ≠ b.hi
              · rw [if_pos h_hi] at hr
                have t_hi : ((a.hi : Int) != (b.hi : Int)) = true := by rw [e6]; exact decide_eq_true h_hi
                clear h_hi
                have HR := Lib.hid hr
                clear hr hb0 e1 e2 e3 e4 e5 e6 e7
                go_enter Try.func27, Try.ntmps27
                go_wp2
                go_ret
                exact ⟨by rw [← HR.out]; first | rfl | (simp only [natLt]; rfl) | (exact congrArg (fun x => Ending.returned (Value.bool x)) natLt), HB.out⟩
              · rw [if_neg h_hi] at hr
                have t_hi : ((a.hi : Int) != (b.hi : Int)) = false := by rw [e6]; exact decide_eq_false h_hi
                by_cases h_lo : a.lo ≠ b.lo
                · rw [if_pos h_lo] at hr
                  have t_lo : ((a.lo : Int) != (b.lo : Int)) = true := by rw [e7]; exact decide_eq_true h_lo
                  clear h_lo
                  have HR := Lib.hid hr
                  clear hr hb0 e1 e2 e3 e4 e5 e6 e7
                  go_enter Try.func27, Try.ntmps27
                  go_wp2
                  go_ret
                  exact ⟨by rw [← HR.out]; first | rfl | (simp only [natLt]; rfl) | (exact congrArg (fun x => Ending.returned (Value.bool x)) natLt), HB.out⟩
                · rw [if_neg h_lo] at hr
                  have t_lo : ((a.lo : Int) != (b.lo : Int)) = false := by rw [e7]; exact decide_eq_false h_lo
                  have HR := Lib.hid hr
                  clear hr hb0 e1 e2 e3 e4 e5 e6 e7
                  go_enter Try.func27, Try.ntmps27
                  go_wp2
                  go_ret
                  exact ⟨by rw [← HR.out]; first | rfl | (simp only [natLt]; rfl) | (exact congrArg (fun x => Ending.returned (Value.bool x)) natLt), HB.out⟩
end Go.Proofs.Ytlamebbolioljaa
