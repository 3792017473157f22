/- Writes that go together: pieces behind bytes. -/
import Derived.Test.YtpjdlcdkldomlaaBatC
namespace Go.Proofs.Ytpjdlcdkldomlaa
open Go.RowKit

theorem numEnc_len10 {x : Nat} (h : x < 18446744073709551616) : (numEnc x).length ≤ 10 := numEnc_u64 h
set_option maxHeartbeats 1000000 in
theorem batPieces {base n c : Nat} {A A1 : Option Addr} {b o c1 m B : Nat} {xs zs : List Int} (w : World) (ho : w.ownsRow base 5 1 (.slice A n c) n (bv xs)) (hb : base ≤ w.heap.size)
    (hcell : w.cell? ⟨b, o, none⟩ = some (.slice A1 m c1)) (hr : Rb w B A1 zs) (hm : zs.length = m) (hB : B ≤ w.heap.size) (hfar : (Value.slice A n c).ownBlock ≠ some b) (hrow : ∀ k, (Value.slice A n c).ownBlock = some k → B ≤ k) (hbl : b < w.heap.size) (hn : n + m + 10 ≤ 140737488355328) :
    Calls Try.prog 41 #[.slice A n c, .slice (some ⟨b, o, none⟩) 1 1] w (RetApp base 5 1 w (.slice A n c) (n + (pieEnc zs).length) (bv (xs ++ pieEnc zs)) (· ≠ none)) := by
  have h10 := numEnc_len10 (x := m) (by omega)
  have HM := Lib.hid hm
  clear hm
  go_enter Try.func41, Try.ntmps41
  go_wp2
  go_loopw [0, 9] (fun pv iv_ wr => (iv_ = .int .i64 0 ∧ pv = .slice A n c ∧ wr = w) ∨ (iv_ = .int .i64 1 ∧ ∃ A' c', pv = .slice A' (n + (pieEnc zs).length) c' ∧ App base 5 1 w (.slice A n c) wr (.slice A' (n + (pieEnc zs).length) c') (n + (pieEnc zs).length) (bv (xs ++ pieEnc zs)) ∧ A' ≠ none)) (fun _ i _ => 1 - (intOf i).toNat)
  case atStart => exact .inl ⟨rfl, rfl, rfl⟩
  case round =>
    rcases hrel with ⟨rfl, rfl, rfl⟩ | ⟨rfl, A', c', rfl, happ, hne⟩
    · go_wp2_with fail
      refine (wireNumber (x := m) wr ho hb (by omega) (by omega)).mono ?_
      rintro e w1 ⟨A2, c2, rfl, happ, hne⟩
      have hr1 : Rb w1 B A1 zs := fun hn => by
        obtain ⟨b1, o1, rfl, hb1, hc⟩ := hr hn
        exact ⟨b1, o1, rfl, hb1, fun j u hu => (World.cell?_of_block (a := ⟨b1, o1 + j, none⟩) (happ.grown.block b1 (by omega) (fun e => by have := hrow _ e.symm; omega))).trans (hc j u hu)⟩
      have hw1 := happ.heap
      go_wp2_with (at_builtin; go_loud (refine wpList_appb _ rfl (.tmp 17) (.tmp 18) rfl base _ (n + (numEnc m).length) (xs ++ numEnc m) rfl happ.own B A1 m c1 zs rfl HM.out hr1 (by omega) (by omega) ?_))
      intro A3 c3 w2 h2 hne2
      have h3 := happ.trans h2
      have e1 : n + (numEnc m).length + m = n + (pieEnc zs).length := by rw [pieEnc, List.length_append, HM.out]; omega
      have e2 : xs ++ (numEnc m ++ zs) = xs ++ pieEnc zs := by rw [pieEnc, HM.out]
      rw [e1, e2] at h3
      rw [e1]
      clear e1 e2 h2
      go_wp2
      go_roundw
      case rel =>
        exact .inr ⟨rfl, A3, c3, rfl, h3, by first | exact hne2 | (intro e; exact absurd (hne2 e) (by simp_all))⟩
      case measure => simp [intOf]
    · go_wp2
      go_ret
      exact ⟨A', c', rfl, happ, hne⟩
end Go.Proofs.Ytpjdlcdkldomlaa
