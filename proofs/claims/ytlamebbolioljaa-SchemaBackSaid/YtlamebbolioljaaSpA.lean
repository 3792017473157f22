/- Spans: pieces; how a span is put into bytes. -/
import Derived.Test.YtlamebbolioljaaStr
import Derived.Test.YtlamebbolioljaaWireOrd
import Derived.Test.YtlamebbolioljaaSpM
namespace Go.Proofs.Ytlamebbolioljaa
open Go.RowKit

def pie (s : ByteArray) : List Int := numEnc s.size ++ nums s
theorem pie_len (s : ByteArray) (h : s.size ≤ 1048576) : (pie s).length ≤ s.size + 10 := by
  have := numEnc_u64 (x := s.size) (by omega)
  rw [pie, List.length_append, nums_len]
  omega
theorem pies_len : ∀ (ls : List ByteArray), (∀ s ∈ ls, s.size ≤ 1048576) → (ls.flatMap pie).length ≤ (ls.length) * 1048586
  | [], _ => by simp
  | s :: ls, h => by
    have h1 := pie_len s (h s (by simp))
    have h2 := h s (by simp)
    have h3 := pies_len ls (fun t ht => h t (by simp [ht]))
    rw [List.flatMap_cons, List.length_append, List.length_cons]
    omega
set_option maxRecDepth 100000 in
set_option maxHeartbeats 1000000 in
theorem spPieces {base A n c b k c1} {xs : List Int} {ls : List ByteArray} (w : World) (ho : w.ownsRow base 5 1 (.slice A n c) n (bv xs)) (hb : base ≤ w.heap.size)
    (hcells : ∀ (i : Nat) (s : ByteArray), ls[i]? = some s → w.cell? ⟨b, i, none⟩ = some (.string s)) (hk : ls.length = k) (hbl : b < w.heap.size) (hfar : (Value.slice A n c).ownBlock ≠ some b) (hs : ∀ s ∈ ls, s.size ≤ 1048576) (hn : n + k * 1048586 + 1048592 ≤ 140737488355328) :
    Calls Try.prog 75 #[.slice A n c, .slice (some ⟨b, 0, none⟩) k c1] w (RetApp base 5 1 w (.slice A n c) (n + (ls.flatMap pie).length) (bv (xs ++ ls.flatMap pie)) (fun _ => True)) := by
  obtain ⟨cp, ce, fa, hcv, hce⟩ := conv_str
  have HCE := Lib.hid hce
  have HK := Lib.hid hk
  have HS := Lib.hid hs
  have HC := Lib.hid hcells
  have hlenA : ∀ j, ((ls.take j).flatMap pie).length ≤ k * 1048586 := fun j => by
    have h1 := pies_len (ls.take j) (fun s h => hs s (List.mem_of_mem_take h))
    have h3 : (ls.take j).length ≤ k := by rw [List.length_take]; omega
    exact Nat.le_trans h1 (Nat.mul_le_mul_right _ h3)
  have HL := Lib.hid hlenA
  clear hce hk hs hcells hlenA
  go_enter Try.func75, Try.ntmps75
  go_wp2
  go_loopw [0, 9] (fun v iv_ wr => ∃ (A' : Option Addr) (c' m j : Nat), j ≤ k ∧ v = .slice A' m c' ∧ iv_ = .int .i64 j ∧ m = n + ((ls.take j).flatMap pie).length ∧ App base 5 1 w (.slice A n c) wr (.slice A' m c') m (bv (xs ++ (ls.take j).flatMap pie))) (fun _ i _ => k - (intOf i).toNat)
  case atStart => exact ⟨A, c, n, 0, by omega, rfl, rfl, by simp, App.refl (by simpa using ho)⟩
  case round =>
    obtain ⟨A', c', m, j, hj, rfl, rfl, hm, happ⟩ := hrel
    have hmb := HL.out j
    have HM := Lib.hid hm
    have hmb2 : m + 1048592 ≤ 140737488355328 := by omega
    clear hm hmb
    by_cases hlt : j < k
    · have hlt' : (j : Int) < (k : Int) := by omega
      obtain ⟨s, hsj⟩ : ∃ s, ls[j]? = some s := ⟨_, List.getElem?_eq_getElem (by rw [HK.out]; exact hlt)⟩
      have hcell : wr.cell? ⟨b, j, none⟩ = some (.string s) := (World.cell?_of_block (a := ⟨b, j, none⟩) (happ.grown.block b hbl (fun e => hfar e.symm))).trans (HC.out j s hsj)
      have hss := HS.out s (List.mem_of_getElem? hsj)
      have HSJ := Lib.hid hsj
      clear hsj
      go_wp2_with fail
      obtain ⟨ca, hca⟩ : ∃ ca, cp wr s = ca := ⟨_, rfl⟩
      have hca' := (HCE.out s wr).1
      obtain ⟨D1, hD1⟩ : ∃ D1, ce wr s = D1 := ⟨_, rfl⟩
      have hD1' := (HCE.out s wr).2
      obtain ⟨F1, hF1⟩ : ∃ F1, fa wr s = F1 := ⟨_, rfl⟩
      rw [hca] at hca' ⊢
      rw [hD1] at hD1' ⊢
      rw [hF1]
      clear hca hD1 hF1
      have h2 := (happ.alloc (.cells D1 5 F1)).drew
      have hr2 := Rd.drew (Rd.of_alloc (w := wr) (t := 5) (fr := F1) hD1')
      have hsep : Sep A' (some ⟨wr.heap.size, 0, none⟩) := fun a1 a2 q1 q2 e => by
        subst q1
        have h3 := (happ.own.lt a1.block rfl).2
        have e' : a1.block = wr.heap.size := by rw [e, ← Option.some.inj q2]
        omega
      refine (wirePiece (m := s.size) _ h2.own (by have := happ.heap; show _ ≤ (wr.alloc _).heap.size; simp; omega) hr2 (by show _ ≤ (wr.alloc _).heap.size; simp) (.inr hsep) hmb2 (by rw [nums_len]; exact hss) (nums_len s)).mono ?_
      rintro e w5 ⟨A5, c5, rfl, happ5⟩
      have h5 := h2.trans happ5
      have e1 : ls.take (j + 1) = ls.take j ++ [s] := take_snoc HSJ.out
      have e2 : m + (numEnc (nums s).length).length + (nums s).length = n + ((ls.take (j + 1)).flatMap pie).length := by
        have := HM.out
        rw [e1, List.flatMap_append, List.length_append, List.flatMap_cons, List.flatMap_nil, List.append_nil, pie, List.length_append, nums_len]
        omega
      have e3 : xs ++ (ls.take j).flatMap pie ++ (numEnc (nums s).length ++ nums s) = xs ++ (ls.take (j + 1)).flatMap pie := by
        rw [e1, List.flatMap_append]
        simp [pie, nums_len]
      rw [e3] at h5
      obtain ⟨m5, hm5⟩ : ∃ m5, m + (numEnc (nums s).length).length + (nums s).length = m5 := ⟨_, rfl⟩
      rw [hm5] at h5 e2 ⊢
      have E2 := Lib.hid e2
      clear e2 hm5 e1 e3 hsep hr2 h2 happ5 hD1' hca'
      go_wp2
      go_roundw
      case rel => exact ⟨A5, c5, m5, j + 1, by omega, rfl, by go_num, E2.out, h5⟩
      case measure => simp [intOf]; omega
    · have hlt' : decide ((j : Int) < (k : Int)) = false := by simp; omega
      obtain rfl : j = k := by omega
      have e1 : ls.take j = ls := List.take_of_length_le (by rw [HK.out]; omega)
      have e2 : m = n + (ls.flatMap pie).length := by rw [HM.out, e1]
      rw [e1] at happ
      go_wp2
      go_ret
      exact ⟨A', c', by rw [← e2]; rfl, by rw [← e2]; exact happ, trivial⟩
end Go.Proofs.Ytlamebbolioljaa
