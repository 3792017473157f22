/- block.tail. -/
import Derived.Deep.Cut
import Derived.Laws.Cover3
import Derived.Test.YtleghbdkjdpilaaBkB
namespace Go.Proofs.Ytleghbdkjdpilaa
open Go.RowKit
theorem offA_ne {b o c k : Nat} (h : c ≠ k) : offA (some ⟨b, o, none⟩) c k = some ⟨b, o + k, none⟩ := by rw [offA, if_neg h]; simp [Addr.add_lit]
theorem loadWd_shutT (a : Addr) : loadVar 62 a = loadK 62 a := rfl
attribute [local go_sem ↓] loadWd_shutT

/-- The number that stands in four bytes from k on. -/
def wdAt (zs : List Int) (k : Nat) : Nat := (zs.getD k 0).toNat + 256 * (zs.getD (k + 1) 0).toNat + 65536 * (zs.getD (k + 2) 0).toNat + 16777216 * (zs.getD (k + 3) 0).toNat
def tailN (zs : List Int) : Nat := wdAt zs (zs.length - 4)
def tailOk (zs : List Int) : Bool := decide (4 ≤ zs.length) && decide (1 ≤ tailN zs) && decide (4 * (tailN zs + 1) ≤ zs.length)
def tailEnd (zs : List Int) : Nat := if tailOk zs = true then zs.length - 4 * (tailN zs + 1) else 0
def TailPost (w : World) (zs : List Int) (e : Ending) (w' : World) : Prop := ∃ v, e = .returned (.tuple #[.int .i64 (tailEnd zs : Nat), v, .bool (tailOk zs)]) ∧ Below w.heap.size w w'
theorem loadK_wd {w : World} {b o : Nat} {x0 x1 x2 x3 : Int} (h0 : w.cell? ⟨b, o, none⟩ = some (.int .u8 x0)) (h1 : w.cell? ⟨b, o + 1, none⟩ = some (.int .u8 x1)) (h2 : w.cell? ⟨b, o + 2, none⟩ = some (.int .u8 x2)) (h3 : w.cell? ⟨b, o + 3, none⟩ = some (.int .u8 x3)) :
    (loadK 62 ⟨b, o, none⟩).run Try.prog w = .ok (.agg #[.int .u8 x0, .int .u8 x1, .int .u8 x2, .int .u8 x3]) w :=
  run_loadVar_cellsE w _ _ ⟨b, o, none⟩ [.int .u8 x0, .int .u8 x1, .int .u8 x2, .int .u8 x3] Try.underlying62 rfl (by rfl) (fun j v hv => by
    have hj : j < 4 := (List.getElem?_eq_some_iff.1 hv).1
    have : j = 0 ∨ j = 1 ∨ j = 2 ∨ j = 3 := by omega
    rw [Addr.add_lit]
    rcases this with rfl | rfl | rfl | rfl
    · rw [← hv]; exact h0
    · rw [← hv]; exact h1
    · rw [← hv]; exact h2
    · rw [← hv]; exact h3)
set_option maxRecDepth 100000 in
set_option maxHeartbeats 4000000 in
theorem blkTail {A : Option Addr} {n c B : Nat} {zs : List Int} (w : World) (ha : Rb w B A zs) (hz : Byt zs) (hn : zs.length = n) (hB : B ≤ w.heap.size) (hc : n ≤ c) (hl : n ≤ 262144) :
    Calls Try.prog 29 #[.slice A n c] w (TailPost w zs) := by
  by_cases h4 : n < 4
  · have hto : tailOk zs = false := by rw [tailOk, hn]; simp; omega
    have hte : tailEnd zs = 0 := by rw [tailEnd, hto]; rfl
    have HTO := Lib.hid hto
    have HTE := Lib.hid hte
    have hd : decide ((n : Int) < 4) = true := by simp; omega
    clear hto hte
    go_enter Try.func29, Try.ntmps29
    go_wp2_with fail
    go_ret3
    exact ⟨.slice none 0 0, by rw [HTO.out, HTE.out]; rfl, Below.refl _ _⟩
  · obtain ⟨b, o, rfl, hb, hcell⟩ : ∃ b o, A = some ⟨b, o, none⟩ ∧ b < B ∧ ∀ k, k < n → w.cell? ⟨b, o + k, none⟩ = some (.int .u8 (zs.getD k 0)) := by
      obtain ⟨b, o, e, hb, hcc⟩ := ha (by intro h; have h0 : zs = [] := (by simpa [bv] using h); rw [h0] at hn; exact h4 (by rw [← hn]; decide))
      refine ⟨b, o, e, hb, fun k hk => hcc k _ ?_⟩
      rw [bv, List.getElem?_map, List.getElem?_eq_getElem (by omega), List.getD_eq_getElem?_getD, List.getElem?_eq_getElem (by omega)]
      rfl
    have hd : decide ((n : Int) < 4) = false := by simp; omega
    have h4i : (4 : Int) ≤ (n : Int) := by omega
    have hgb : ∀ k, 0 ≤ zs.getD k 0 ∧ zs.getD k 0 ≤ 255 := fun k => by
      rw [List.getD_eq_getElem?_getD]
      cases e : zs[k]? with
      | none => simp
      | some x => exact hz.get e
    have hsl : ∀ (k : Nat) W, k + 4 ≤ n → (Instr.slice 26 (.slice (some ⟨b, o, none⟩) n c) (some (.int .i64 (k : Nat))) none none).run Try.prog W = .ok (.slice (some ⟨b, o + k, none⟩) (n - k) (c - k)) W := fun k W hk => by
      have h := run_slK W (some ⟨b, o, none⟩) n c .i64 (k : Nat) (by omega) (by omega)
      rw [Int.toNat_natCast, offA_ne (by omega)] at h
      exact h
    have hat : ∀ (k : Nat) W, k + 4 ≤ n → (Instr.arrayAt 62 (.slice (some ⟨b, o + k, none⟩) (n - k) (c - k))).run Try.prog W = .ok (.pointer (some ⟨b, o + k, none⟩)) W := fun k W hk => run_arrayAt W 62 _ 4 _ _ _ Try.underlying62 (by omega)
    have hlw : ∀ (k : Nat) W, k + 4 ≤ n → Below w.heap.size w W → (loadK 62 ⟨b, o + k, none⟩).run Try.prog W = .ok (.agg #[.int .u8 (zs.getD k 0), .int .u8 (zs.getD (k + 1) 0), .int .u8 (zs.getD (k + 2) 0), .int .u8 (zs.getD (k + 3) 0)]) W := fun k W hk hW => by
      have h := fun j (hj : j < n) => (hW.cell (p := ⟨b, o + j, none⟩) (show b < w.heap.size by omega)).trans (hcell j hj)
      exact loadK_wd (h k (by omega)) (h (k + 1) (by omega)) (h (k + 2) (by omega)) (h (k + 3) (by omega))
    have hwi : ∀ (k : Nat) W, Calls Try.prog 43 #[.agg #[.int .u8 (zs.getD k 0), .int .u8 (zs.getD (k + 1) 0), .int .u8 (zs.getD (k + 2) 0), .int .u8 (zs.getD (k + 3) 0)]] W fun e w' => e = .returned (.int .i64 (wdAt zs k : Nat)) ∧ Below W.heap.size W w' := fun k W => by
      refine (blkInt _ _ _ _ W (hgb k) (hgb (k + 1)) (hgb (k + 2)) (hgb (k + 3))).mono ?_
      rintro e w' ⟨rfl, hb⟩
      refine ⟨?_, hb⟩
      congr 2
      have h0 := hgb k
      have h1 := hgb (k + 1)
      have h2 := hgb (k + 2)
      have h3 := hgb (k + 3)
      unfold wdAt
      omega
    have hwl : ∀ k, wdAt zs k < 4294967296 := fun k => by
      have h0 := hgb k
      have h1 := hgb (k + 1)
      have h2 := hgb (k + 2)
      have h3 := hgb (k + 3)
      unfold wdAt
      omega
    obtain ⟨m, hm⟩ : ∃ m, n - 4 = m := ⟨_, rfl⟩
    have hmn : m + 4 = n := by omega
    have hs1 : ∀ W, (Instr.slice 26 (.slice (some ⟨b, o, none⟩) n c) (some (.int .i64 ((n : Int) - 4))) none none).run Try.prog W = .ok (.slice (some ⟨b, o + m, none⟩) (n - m) (c - m)) W := fun W => by
      have h := hsl m W (by omega)
      rwa [show ((m : Nat) : Int) = (n : Int) - 4 from by omega] at h
    have ha1 := fun W => hat m W (by omega)
    have hl1 := hlw m w (by omega) (Below.refl _ _)
    have hw1 := hwi m w
    obtain ⟨N, hN⟩ : ∃ N, wdAt zs m = N := ⟨_, rfl⟩
    have hNl : N < 4294967296 := by rw [← hN]; exact hwl m
    have htn : tailN zs = N := by rw [tailN, hn, hm, hN]
    rw [hN] at hw1
    have HW1 := Lib.hid hw1
    have HTN := Lib.hid htn
    have HSL := Lib.hid hsl
    have HAT := Lib.hid hat
    have HLW := Lib.hid hlw
    have HWI := Lib.hid hwi
    have HWL := Lib.hid hwl
    have HN := Lib.hid hn
    have HMN := Lib.hid hmn
    clear hcell hgb hsl hat hlw hwi hwl hm hw1 hN htn hn hmn
    go_enter Try.func29, Try.ntmps29
    go_upto_region 4 with (go_at_call 43; refine HW1.out.mono ?_; rintro e3 w3 ⟨rfl, hb3⟩)
    by_cases hN1 : N < 1
    · have hto : tailOk zs = false := by rw [tailOk, HTN.out]; simp; omega
      have hte : tailEnd zs = 0 := by rw [tailEnd, hto]; rfl
      have HTO := Lib.hid hto
      have HTE := Lib.hid hte
      have hd1 : decide ((N : Int) < 1) = true := by simp; omega
      clear hto hte
      go_wp2_with fail
      go_ret3
      exact ⟨.slice none 0 0, by rw [HTO.out, HTE.out]; rfl, hb3⟩
    · have hd1 : decide ((N : Int) < 1) = false := by simp; omega
      by_cases hEn : n < 4 * (N + 1)
      · have hto : tailOk zs = false := by rw [tailOk, HTN.out, HN.out]; simp; omega
        have hte : tailEnd zs = 0 := by rw [tailEnd, hto]; rfl
        have HTO := Lib.hid hto
        have HTE := Lib.hid hte
        have hd2 : decide ((n : Int) - 4 * ((N : Int) + 1) < 0) = true := by simp; omega
        clear hto hte
        go_wp2_with fail
        go_ret3
        exact ⟨.slice none 0 0, by rw [HTO.out, HTE.out]; rfl, hb3⟩
      · obtain ⟨E, hE⟩ : ∃ E, n - 4 * (N + 1) = E := ⟨_, rfl⟩
        have hto : tailOk zs = true := by rw [tailOk, HTN.out, HN.out]; simp; omega
        have hte : tailEnd zs = E := by rw [tailEnd, hto, if_pos rfl, HTN.out, HN.out, hE]
        have HTO := Lib.hid hto
        have HTE := Lib.hid hte
        have hEi : (n : Int) - 4 * ((N : Int) + 1) = (E : Int) := by omega
        have hNE : E + 4 * N + 4 = n := by omega
        have HNE := Lib.hid hNE
        clear hto hte hE
        go_upto_region 8 with fail
        have hNk : N ≤ 65536 := by omega
        go_loopw [3, 31] (fun q_ iv_ wq => ∃ (i : Nat) (Aq : Option Addr) (cq : Nat) (xs : List Value), i ≤ N ∧ iv_ = .int .i64 i ∧ q_ = .slice Aq i cq ∧ wq.ownsRow w.heap.size 3 1 (.slice Aq i cq) i xs ∧ Below w.heap.size w wq) (fun _ i_ _ => N - (intOf i_).toNat)
        case atStart => exact ⟨0, none, 0, [], by omega, rfl, rfl, World.ownsRow_nil _ _ _ _, hb3⟩
        case round =>
          obtain ⟨i, Aq, cq, xs, hi, rfl, rfl, own, hbr⟩ := hrel
          by_cases hlt : i < N
          · have hlt' : (i : Int) < (N : Int) := by omega
            have hk4 : E + 4 * i + 4 ≤ n := by have := HNE.out; omega
            have s1 := HSL.out (E + 4 * i) wr hk4
            rw [show (((E + 4 * i : Nat)) : Int) = (E : Int) + 4 * (i : Int) from by omega] at s1
            have a1 := HAT.out (E + 4 * i) wr hk4
            have l1 := HLW.out (E + 4 * i) wr hk4 hbr
            have wi := HWI.out (E + 4 * i) wr
            have HWI1 := Lib.hid wi
            have hE4 : (E : Int) + 4 * (i : Int) + 4 ≤ (n : Int) := by omega
            have hi16 : i ≤ 65536 := by omega
            have HOW := Lib.hid own
            clear wi own hl1
            go_upto_region 11 with (first
              | (go_at_call 43; refine HWI1.out.mono ?_; rintro e5 w5 ⟨rfl, hb5⟩)
              | (at_builtin; go_loud (refine wpList_appI _ rfl (.tmp 34) (.tmp 44) rfl w.heap.size _ i xs rfl ((own_belowB HOW.out hb5).alloc (.cells #[.int .i64 (wdAt zs (E + 4 * i) : Nat)] 3)) (w5.heap.size + 1) (some ⟨w5.heap.size, 0, none⟩) 1 (wdAt zs (E + 4 * i) : Nat) rfl (Rd.lit w5 #[.int .i64 (wdAt zs (E + 4 * i) : Nat)] _) (by omega) (by have := hbr.size; have := hb5.size; simp; omega) ?_); intro A6 c6 w6 happ6))
            have hb6 : Below w.heap.size w w6 := by
              have h1 := hbr.trans (hb5.mono hbr.size)
              have h2 := h1.alloc h1.size (.cells #[.int .i64 (wdAt zs (E + 4 * i) : Nat)] 3)
              exact h2.trans (grown_below happ6.grown h2.size (fun b e => (HOW.out.lt b e).1))
            go_wp2_with fail
            exact ⟨⟨i + 1, A6, c6, _, by omega, by simp, rfl, happ6.own, hb6⟩, by simp only [intOf]; omega⟩
          · have hiN : i = N := by omega
            subst hiN
            clear own
            go_wp2_with fail
            go_ret3
            exact ⟨_, by rw [HTO.out, HTE.out]; rfl, hbr⟩
end Go.Proofs.Ytleghbdkjdpilaa
