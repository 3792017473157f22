/- block.rising. -/
import Derived.BigRegion
import Derived.Deep.RegionHeld3
import Derived.Test.YtleghbdkjdpilaaBkA
namespace Go.Proofs.Ytleghbdkjdpilaa
open Go.RowKit
theorem loadEn_shutR (a : Addr) : loadVar 29 a = loadK 29 a := rfl
attribute [local go_sem ↓] loadEn_shutR

abbrev ens (l : List BE) : List En := l.map (·.x)
theorem ens_get {l : List BE} {i : Nat} {e : BE} (h : l[i]? = some e) : (ens l)[i]? = some e.x := by simp [ens, h]
set_option maxRecDepth 100000 in
set_option maxHeartbeats 2000000 in
theorem blkRising {A : Option Addr} {n c B : Nat} (l : List BE) (w : World) (h : RbE w B A l) (hn : l.length = n) (hB : B ≤ w.heap.size) (hnl : n ≤ 9223372036854775807) :
    Calls Try.prog 25 #[.slice A n c] w fun e w' => e = .returned (.bool (risB (ens l))) ∧ Below w.heap.size w w' := by
  obtain ⟨q, hq⟩ : ∃ q, risB (ens l) = q := ⟨_, rfl⟩
  rw [hq]
  have HQ := Lib.hid hq
  have HN := Lib.hid hn
  have HH := Lib.hid h
  clear hq hn h
  go_enter Try.func25, Try.ntmps25
  go_wp2_with fail
  go_loopw [3] (fun iv_ wr => ∃ k i : Nat, Hid (i = k + 1) ∧ (k = 0 ∨ k + 1 ≤ n) ∧ iv_ = .int .i64 i ∧ (List.range k).all (risAt (ens l)) = true ∧ Below w.heap.size w wr) (fun i _ => n - (intOf i).toNat)
  case atStart => exact ⟨0, 1, Lib.hid rfl, .inl rfl, rfl, rfl, Below.refl _ _⟩
  case round =>
    obtain ⟨k, i, HI, hk, rfl, hall, hbr⟩ := hrel
    have HK := Lib.hid hk
    by_cases hlt : i < n
    · have hi0 := HI.out
      have hlt' : (i : Int) < (n : Int) := by omega
      have hlt1 : (k : Int) < (n : Int) := by omega
      have h1i : (1 : Int) ≤ (i : Int) := by omega
      have h2i : (i : Int) - 1 < (n : Int) := by omega
      have h3i : (0 : Int) ≤ (i : Int) - 1 := by omega
      have h4i : ((i : Int) - 1).toNat = k := by omega
      have hw : IntKind.i64.wrap ((i : Int) - 1) = (i : Int) - 1 := IntWalk.i64_in _ ⟨by omega, by omega⟩
      obtain ⟨a, ha⟩ : ∃ a, l[k]? = some a := ⟨_, List.getElem?_eq_getElem (by rw [HN.out]; omega)⟩
      obtain ⟨b, hb⟩ : ∃ b, l[i]? = some b := ⟨_, List.getElem?_eq_getElem (by rw [HN.out]; omega)⟩
      have hrb := (HH.out.below (hbr.mono hB)).below (w' := wr.drew) (below_drewN (Below.refl _ _) 1)
      obtain ⟨b1, o1, e1, hb1, hc1, hok1⟩ := hrb.get ha
      obtain ⟨b2, o2, e2, hb2, hc2, hok2⟩ := hrb.get hb
      subst e1
      cases e2
      have la := loadK_be hc1
      have lb := loadK_be hc2
      have hBr : B ≤ wr.drew.heap.size := Nat.le_trans hB hbr.size
      have hcmp := batCompare (c1 := a.c1) (c3 := b.c1) (A2 := a.A2) (n2 := a.x.val.length) (c2 := a.c2) (A4 := b.A2) (n4 := b.x.val.length) (c4 := b.c2) (sa := a.x.seq) (sb := b.x.seq) (kinda := a.x.kind) (kindb := b.x.kind) wr.drew hok1.k hok2.k hok1.kb hok2.kb rfl rfl hBr
      have hra : risAt (ens l) k = decide (entCmp a.x.key a.x.seq b.x.key b.x.seq < 0) := by unfold risAt; rw [← hi0, ens_get ha, ens_get hb]; rfl
      obtain ⟨r, hr⟩ : ∃ r, entCmp a.x.key a.x.seq b.x.key b.x.seq = r := ⟨_, rfl⟩
      rw [hr] at hcmp hra
      have hsn : (List.range (k + 1)).all (risAt (ens l)) = decide (r < 0) := by rw [List.range_succ, List.all_append, hall, ← hra]; simp
      have HSN := Lib.hid hsn
      have HRA := Lib.hid hra
      have HC := Lib.hid hcmp
      have CLA : Hid (∀ W, Below wr.drew.heap.size wr.drew W → (loadK 29 ⟨b1, o1 + k * 4, none⟩).run Try.prog W = .ok (beV a) W ∧ (loadK 29 ⟨b1, o1 + i * 4, none⟩).run Try.prog W = .ok (beV b) W) := Lib.hid fun W h =>
        ⟨loadK_be fun j hj => (h.cell (show b1 < _ by omega)).trans (hc1 j hj), loadK_be fun j hj => (h.cell (show b1 < _ by omega)).trans (hc2 j hj)⟩
      clear hr hsn hra hcmp hall hrb hc1 hc2 hok1 hok2 ha hb hk hi0
      by_cases hr0 : 0 ≤ r
      · have hd : decide ((0 : Int) ≤ r) = true := by simp [hr0]
        go_wp2_with fail
        go_region_held3 (fun w' => (loadK 29 ⟨b1, o1 + k * 4, none⟩).run Try.prog w' = .ok (beV a) w' ∧ (loadK 29 ⟨b1, o1 + i * 4, none⟩).run Try.prog w' = .ok (beV b) w') (go_keep)
          (first
            | (go_at_call 28
               refine HC.out.mono ?_
               rintro e w3 ⟨rfl, hb3⟩
               obtain ⟨s1, s2⟩ := CLA.out w3 hb3)
            | fail)
        go_wp2_with fail
        go_ret
        have hqf : q = false := by
          rw [← HQ.out, risB, List.all_eq_false]
          refine ⟨k, List.mem_range.2 (by have := HI.out; simp [HN.out]; omega), ?_⟩
          rw [HRA.out]
          simp; omega
        exact ⟨by rw [hqf]; rfl, hbr.drew.trans (hb3.mono hbr.drew.size)⟩
      · have hd : decide ((0 : Int) ≤ r) = false := by simp; omega
        have hr1 : r < 0 := by omega
        go_wp2_with fail
        go_region_held3 (fun w' => (loadK 29 ⟨b1, o1 + k * 4, none⟩).run Try.prog w' = .ok (beV a) w' ∧ (loadK 29 ⟨b1, o1 + i * 4, none⟩).run Try.prog w' = .ok (beV b) w') (go_keep)
          (first
            | (go_at_call 28
               refine HC.out.mono ?_
               rintro e w3 ⟨rfl, hb3⟩
               obtain ⟨s1, s2⟩ := CLA.out w3 hb3)
            | fail)
        go_wp2_with fail
        go_roundw
        case rel => exact ⟨k + 1, i + 1, Lib.hid (by have := HI.out; omega), .inr (by have := HI.out; omega), by go_num, by rw [HSN.out]; simp [hr1], hbr.drew.trans (hb3.mono hbr.drew.size)⟩
        case measure => simp [intOf]; omega
    · have hlt' : decide ((i : Int) < (n : Int)) = false := by simp; omega
      go_wp2_with fail
      go_ret
      have hqt : q = true := by
        rw [← HQ.out, risB]
        have hk := HK.out
        have hi := HI.out
        have : (ens l).length - 1 = k := by simp [HN.out]; omega
        rw [this]
        exact hall
      exact ⟨by rw [hqt]; rfl, hbr⟩
end Go.Proofs.Ytleghbdkjdpilaa
