/- Writes that go together: ContainsFunc with the two closures of Check. -/
import Derived.Test.YtpjdlcdkldomlaaBatM
namespace Go.Proofs.Ytpjdlcdkldomlaa
open Go.RowKit

def wrOdd (x : Wr) : Bool := !wrRight x
def wrLong (x : Wr) : Bool := !wrShort x

theorem check1 (W : World) (x : Wr) (A1 A2 : Option Addr) (c1 c2 : Nat) :
    Calls Try.prog 24 #[.agg #[.int .i64 x.kind, .slice A1 x.key.length c1, .slice A2 x.val.length c2]] W fun e W' => e = .returned (.bool (wrOdd x)) ∧ Below W.heap.size W W' := by
  obtain ⟨q, hq⟩ : ∃ q, wrOdd x = q := ⟨_, rfl⟩
  rw [hq]
  have hq' : wrRight x = !q := by rw [← hq]; simp [wrOdd, wrLong]
  have HQ := Lib.hid hq'
  clear hq hq'
  go_enter Try.func24, Try.ntmps24
  go_wp2_with (go_at_call 25; refine (batRight _ _ x rfl rfl rfl).mono ?_; rintro e w' ⟨rfl, rfl⟩; rw [HQ.out])
  go_ret
  exact ⟨by cases q <;> rfl, (Below.refl _ W).alloc (Nat.le_refl _) _⟩
set_option maxHeartbeats 400000 in
theorem containsOdd {A : Option Addr} {c n B : Nat} {ws : List Wr} (w : World) (hf : RbW w B A ws) (hn : ws.length = n) (hB : B ≤ w.heap.size) (hnl : n ≤ 9223372036854775807) :
    Calls Try.prog 23 #[.slice A n c, .func (.func 24) #[] #[]] w fun e w' => e = .returned (.bool (ws.any wrOdd)) ∧ Below w.heap.size w w' := by
  have HN := Lib.hid hn
  obtain ⟨q, hq⟩ : ∃ q, ws.any wrOdd = q := ⟨_, rfl⟩
  rw [hq]
  have HQ := Lib.hid hq
  clear hn hq
  go_enter Try.func23, Try.ntmps23
  go_wp2
  go_loopw [8] (fun iv_ wr => ∃ j : Nat, j ≤ n ∧ iv_ = .int .i64 j ∧ (ws.take j).any wrOdd = false ∧ Below w.heap.size w wr) (fun i _ => n - (intOf i).toNat)
  case atStart => exact ⟨0, by omega, rfl, rfl, Below.refl _ _⟩
  case round =>
    obtain ⟨j, hj, rfl, hall, hb⟩ := hrel
    have HA := Lib.hid hall
    clear hall
    by_cases hlt : j < n
    · obtain ⟨x, hx⟩ : ∃ x, ws[j]? = some x := ⟨_, List.getElem?_eq_getElem (by rw [HN.out]; exact hlt)⟩
      obtain ⟨b, o, A1, c1, A2, c2, rfl, hbb, h1, h2, h3, -⟩ := (hf.below (hb.mono hB)).get hx
      have HX := Lib.hid hx
      clear hx
      go_wp2_with (go_at_call 24; refine (check1 _ x A1 A2 c1 c2).mono ?_; rintro e w' ⟨rfl, hb'⟩)
      · have hb2 := hb.trans (hb'.mono hb.size)
        rename_i hpx
        go_ret
        have hqt : q = true := by
          rw [← HQ.out, List.any_eq_true]
          exact ⟨x, List.mem_of_getElem? HX.out, by first | exact hpx | simpa using hpx⟩
        rw [hqt]
        exact ⟨by first | rfl | simp, hb2⟩
      · have hb2 := hb.trans (hb'.mono hb.size)
        rename_i hpx
        go_roundw
        case rel => exact ⟨j + 1, by omega, by go_num, by rw [take_snoc HX.out, List.any_append, HA.out]; simpa using hpx, hb2⟩
        case measure => simp [intOf]; omega
    · go_wp2
      go_ret
      have : q = false := by
        rw [← HQ.out]
        have h1 := HA.out
        rwa [List.take_of_length_le (by rw [HN.out]; omega)] at h1
      exact ⟨by rw [this]; rfl, hb⟩

theorem check2 (W : World) (x : Wr) (A1 A2 : Option Addr) (c1 c2 : Nat) :
    Calls Try.prog 26 #[.agg #[.int .i64 x.kind, .slice A1 x.key.length c1, .slice A2 x.val.length c2]] W fun e W' => e = .returned (.bool (wrLong x)) ∧ Below W.heap.size W W' := by
  obtain ⟨q, hq⟩ : ∃ q, wrLong x = q := ⟨_, rfl⟩
  rw [hq]
  have hq' : wrShort x = !q := by rw [← hq]; simp [wrOdd, wrLong]
  have HQ := Lib.hid hq'
  clear hq hq'
  go_enter Try.func26, Try.ntmps26
  go_wp2_with (go_at_call 27; refine (batLengths _ x rfl rfl).mono ?_; rintro e w' ⟨rfl, rfl⟩; rw [HQ.out])
  go_ret
  exact ⟨by cases q <;> rfl, (Below.refl _ W).alloc (Nat.le_refl _) _⟩
set_option maxHeartbeats 400000 in
theorem containsLong {A : Option Addr} {c n B : Nat} {ws : List Wr} (w : World) (hf : RbW w B A ws) (hn : ws.length = n) (hB : B ≤ w.heap.size) (hnl : n ≤ 9223372036854775807) :
    Calls Try.prog 23 #[.slice A n c, .func (.func 26) #[] #[]] w fun e w' => e = .returned (.bool (ws.any wrLong)) ∧ Below w.heap.size w w' := by
  have HN := Lib.hid hn
  obtain ⟨q, hq⟩ : ∃ q, ws.any wrLong = q := ⟨_, rfl⟩
  rw [hq]
  have HQ := Lib.hid hq
  clear hn hq
  go_enter Try.func23, Try.ntmps23
  go_wp2
  go_loopw [8] (fun iv_ wr => ∃ j : Nat, j ≤ n ∧ iv_ = .int .i64 j ∧ (ws.take j).any wrLong = false ∧ Below w.heap.size w wr) (fun i _ => n - (intOf i).toNat)
  case atStart => exact ⟨0, by omega, rfl, rfl, Below.refl _ _⟩
  case round =>
    obtain ⟨j, hj, rfl, hall, hb⟩ := hrel
    have HA := Lib.hid hall
    clear hall
    by_cases hlt : j < n
    · obtain ⟨x, hx⟩ : ∃ x, ws[j]? = some x := ⟨_, List.getElem?_eq_getElem (by rw [HN.out]; exact hlt)⟩
      obtain ⟨b, o, A1, c1, A2, c2, rfl, hbb, h1, h2, h3, -⟩ := (hf.below (hb.mono hB)).get hx
      have HX := Lib.hid hx
      clear hx
      go_wp2_with (go_at_call 26; refine (check2 _ x A1 A2 c1 c2).mono ?_; rintro e w' ⟨rfl, hb'⟩)
      · have hb2 := hb.trans (hb'.mono hb.size)
        rename_i hpx
        go_ret
        have hqt : q = true := by
          rw [← HQ.out, List.any_eq_true]
          exact ⟨x, List.mem_of_getElem? HX.out, by first | exact hpx | simpa using hpx⟩
        rw [hqt]
        exact ⟨by first | rfl | simp, hb2⟩
      · have hb2 := hb.trans (hb'.mono hb.size)
        rename_i hpx
        go_roundw
        case rel => exact ⟨j + 1, by omega, by go_num, by rw [take_snoc HX.out, List.any_append, HA.out]; simpa using hpx, hb2⟩
        case measure => simp [intOf]; omega
    · go_wp2
      go_ret
      have : q = false := by
        rw [← HQ.out]
        have h1 := HA.out
        rwa [List.take_of_length_le (by rw [HN.out]; omega)] at h1
      exact ⟨by rw [this]; rfl, hb⟩
end Go.Proofs.Ytpjdlcdkldomlaa
