/- Make, the reference. -/
import Derived.StillTailTactics
import Derived.Deep.OwnRows
import Derived.Test.YtccpjjpceokodaaRefHas
namespace Go.Proofs.Ytccpjjpceokodaa
open Go.RowKit

theorem byteinfo : (Try.prog.info? 5).map (fun i => (i.zero, i.size, i.bytes)) = some (some (.int .u8 0), 1, 1) := by kernel_rfl
theorem wrap_i64_in {x : Int} (h0 : -9223372036854775808 ≤ x) (h1 : x < 9223372036854775808) : IntKind.i64.wrap x = x := by
  rw [IntKind.wrap_i64]
  omega
theorem pw_min (x : Int) : 2 ^ min (x % 8).toNat 8 % 256 = pw x := by
  have h : (x % 8).toNat = 0 ∨ (x % 8).toNat = 1 ∨ (x % 8).toNat = 2 ∨ (x % 8).toNat = 3 ∨ (x % 8).toNat = 4 ∨ (x % 8).toNat = 5 ∨ (x % 8).toNat = 6 ∨ (x % 8).toNat = 7 := by omega
  unfold pw
  rcases h with h | h | h | h | h | h | h | h <;> rw [h] <;> decide
theorem App.made {base : Nat} {w : World} {t : TypeId} {n : Nat} {xs : List Value} (hl : xs.length = n) {cs : Array Value} (hx : cs.toList = xs) (hb : base ≤ w.heap.size) (hm : n ≤ maxLen) :
    App base t 1 w (.slice none 0 0) (w.alloc (.cells cs t)) (.slice (some ⟨w.heap.size, 0, none⟩) n n) n xs := by
  subst hx
  exact ⟨World.ownsRow_lit w cs n hb hm (by simpa using hl), World.grownBy_alloc w _ none, .inr ⟨w.heap.size, rfl, Nat.le_refl _⟩⟩
theorem bv_set (zs : List Int) (j : Nat) (x : Int) : (bv zs).set j (.int .u8 x) = bv (zs.set j x) := by simp [bv, List.map_set]
theorem bv_zeros (n : Nat) : (madeCells #[Value.int .u8 0] n).toList = bv (List.replicate n 0) := by
  rw [toList_madeCells_one, bv, List.map_replicate]

set_option maxHeartbeats 2000000 in
theorem refMake1 {A : Option Addr} {c n B n8 k : Nat} {keys : List (List Int)} {d : Int} (w : World) (hf : RbM w B A keys) (hkb : ∀ z ∈ keys, Byt z ∧ z.length ≤ maxLen) (hn : keys.length = n) (hB : B ≤ w.heap.size) (hd : (Lit.int .i64 d).wf = true)
    (h80 : 8 ≤ n8) (h81 : n8 ≤ 1048576) (hk0 : 1 ≤ k) (hk1 : k ≤ 30) (hbits : bitsOf n d = ((n8 : Int) * 8, (k : Int), 0)) (hnl : n ≤ 8388608) :
    Calls Try.prog 12 #[.slice A n c, .int .i64 d] w (RetNew2 5 1 w (n8 + 1) (bv (filterOf n8 k keys)) (.int .i64 0) (· ≠ none)) := by
  have hmk := run_make_row' (P := Try.prog) 25 5 (.int .u8 0) 1 Try.underlying25 byteinfo rfl .i64 .i64 n8 (by omega) (by omega)
  have HB := Lib.hid hbits
  have HF := Lib.hid hf
  have HN := Lib.hid hn
  clear hbits hn hf
  have hdiv : (n8 : Int) * 8 / 8 = n8 := by omega
  go_enter Try.func12, Try.ntmps12
  go_wp2_with fail
  refine (refBits (n : Int) d w (WalkArith.wf_i64 (by omega)) hd).mono ?_
  rintro e w ⟨rfl, rfl⟩
  rw [HB.out]
  simp only []
  have happ0 : App w.heap.size 5 1 w (.slice none 0 0) (w.alloc (.cells (madeCells #[Value.int .u8 0] n8) 5)) (.slice (some ⟨w.heap.size, 0, none⟩) n8 n8) n8 (bv (fillAll (n8 * 8) k (List.replicate n8 0) (keys.take 0))) :=
    App.made (by rw [bv_length, fillAll_len, List.length_replicate]) (bv_zeros n8) (Nat.le_refl _) (by simp only [maxLen]; omega)
  go_wp2
  go_loopw [10] (fun iv_ wr => ∃ (j : Nat), j ≤ n ∧ iv_ = .int .i64 j ∧ App w.heap.size 5 1 w (.slice none 0 0) wr (.slice (some ⟨w.heap.size, 0, none⟩) n8 n8) n8 (bv (fillAll (n8 * 8) k (List.replicate n8 0) (keys.take j)))) (fun i _ => n - (intOf i).toNat)
  case atStart => exact ⟨0, by omega, rfl, happ0⟩
  case round =>
    obtain ⟨j, hj, rfl, happ⟩ := hrel
    clear happ0
    by_cases hlt : j < n
    · obtain ⟨key, hkey⟩ : ∃ key, keys[j]? = some key := ⟨_, List.getElem?_eq_getElem (by rw [HN.out]; exact hlt)⟩
      have hbw := happ.below0
      obtain ⟨b, o, A1, c1, rfl, hb, hc, hle, hr1⟩ := RbM.get (HF.out.below (hbw.mono hB)) hkey
      obtain ⟨hkb1, hkb2⟩ := hkb key (List.mem_of_getElem? hkey)
      have hs := hashOf_rng key
      obtain ⟨h, hh⟩ : ∃ h, hashOf key = h := ⟨_, rfl⟩
      have hsn : fillAll (n8 * 8) k (List.replicate n8 0) (keys.take (j + 1)) = fill (fillAll (n8 * 8) k (List.replicate n8 0) (keys.take j)) (prb h ((n8 : Int) * 8) k) := by
        rw [take_snoc hkey, fillAll_snoc, hh]
        simp
      have hfb : Byt (fillAll (n8 * 8) k (List.replicate n8 0) (keys.take j)) := fillAll_byt _ _ _ (replicate_byt n8)
      have hfl : (fillAll (n8 * 8) k (List.replicate n8 0) (keys.take j)).length = n8 := by rw [fillAll_len, List.length_replicate]
      obtain ⟨f0, hf0⟩ : ∃ f0, fillAll (n8 * 8) k (List.replicate n8 0) (keys.take j) = f0 := ⟨_, rfl⟩
      rw [hf0] at hsn happ hfb hfl
      have HSN := Lib.hid hsn
      have HS := Lib.hid hs.2
      have HH := Lib.hid hh
      have hs0 := hs.1
      rw [hh] at hs0
      have HFL := Lib.hid hfl
      have HKB := Lib.hid hkb
      clear hsn hs hf0 hfl hkey hkb hh hbw
      go_wp2_with fail
      refine (refHash (A := A1) (c := c1) _ hr1 hkb1 hkb2 rfl).mono ?_
      rintro e wr ⟨rfl, rfl⟩
      rw [HH.out]
      go_wp2_with fail
      refine (refProbes1 h ((n8 : Int) * 8) k _ hs0 (by have := HS.out; rw [HH.out] at this; exact this) (by omega) (by omega) hk0 hk1).mono ?_
      rintro e w2 ⟨A2, c2, rfl, happ2, -⟩
      have hps := happ2.rd
      have hgl := (happ.own.lt w.heap.size rfl).2
      have happ := happ.later happ2.below0
      have hlo := happ2.lo
      have hnw := happ.heap
      have hps0 : ∀ a, A2 = some a → a.block ≠ w.heap.size := fun a ha => by have := (hlo a ha).1; omega
      go_wp2
      go_loopw [13] (fun iv_ wx => ∃ (i : Nat), i ≤ k ∧ iv_ = .int .i64 i ∧ Rd wx w2.heap.size A2 (iv (prb h ((n8 : Int) * 8) k)) ∧ App w.heap.size 5 1 w (.slice none 0 0) wx (.slice (some ⟨w.heap.size, 0, none⟩) n8 n8) n8 (bv (fill f0 ((prb h ((n8 : Int) * 8) k).take i)))) (fun i _ => k - (intOf i).toNat)
      case atStart => exact ⟨0, by omega, rfl, hps, happ⟩
      case round =>
        obtain ⟨i, hi, rfl, hpx, happx⟩ := hrel
        clear hps happ
        by_cases hlti : i < k
        · obtain ⟨x, hx⟩ : ∃ x, prb1 h ((n8 : Int) * 8) i = x := ⟨_, rfl⟩
          have hx0 : 0 ≤ x ∧ x < (n8 : Int) * 8 := by rw [← hx]; exact ⟨Int.emod_nonneg _ (by omega), Int.emod_lt_of_pos _ (by omega)⟩
          have hpi : (prb h ((n8 : Int) * 8) k)[i]? = some x := by rw [prb, List.getElem?_map, List.getElem?_range hlti]; simp [hx]
          obtain ⟨b2, o2, rfl, hb2', hc2⟩ := Rd.get hpx (iv_get hpi)
          have hne : b2 ≠ w.heap.size := hps0 _ rfl
          obtain ⟨y, hy⟩ : ∃ y, (fill f0 ((prb h ((n8 : Int) * 8) k).take i)).getD (x / 8).toNat 0 = y := ⟨_, rfl⟩
          have hfb2 : Byt (fill f0 ((prb h ((n8 : Int) * 8) k).take i)) := fill_byt _ hfb
          have hfl2 : (fill f0 ((prb h ((n8 : Int) * 8) k).take i)).length = n8 := (fill_len _ _).trans HFL.out
          have hyb := hfb2.getD (x / 8).toNat
          rw [hy] at hyb
          have hyc := happx.own.cellAt (x / 8).toNat (by omega)
          have hyv : (bv (fill f0 ((prb h ((n8 : Int) * 8) k).take i)))[(x / 8).toNat]? = some (.int .u8 y) := by
            apply bv_get
            rw [← hy, List.getD_eq_getElem?_getD, List.getElem?_eq_getElem (by omega)]
            rfl
          have hyc : wr.cell? ⟨w.heap.size, (x / 8).toNat, none⟩ = some (.int .u8 y) := hyc.trans hyv
          have hfr := happx.own.frozenAt (x / 8).toNat
          have hsx : fill f0 ((prb h ((n8 : Int) * 8) k).take (i + 1)) = (fill f0 ((prb h ((n8 : Int) * 8) k).take i)).set (x / 8).toNat (bits .or .u8 y (pw x)) := by
            rw [take_snoc hpi, fill_snoc, setb, hy]
          obtain ⟨t, ht⟩ : ∃ t, (x / 8).toNat = t := ⟨_, rfl⟩
          obtain ⟨v, hv⟩ : ∃ v, (x % 8).toNat = v := ⟨_, rfl⟩
          rw [ht] at hyc hfr hsx
          have e1 : IntKind.i64.wrap (x.tdiv 8) = (t : Int) := by
            rw [Int.tdiv_eq_ediv_of_nonneg hx0.1, wrap_i64_in (by omega) (by omega)]; omega
          have e2 : IntKind.i64.wrap (x.tmod 8) = (v : Int) := by
            rw [Int.tmod_eq_emod_of_nonneg hx0.1, wrap_i64_in (by omega) (by omega)]; omega
          have htl : t < n8 := by omega
          have hvl : v < 8 := by omega
          have HV := Lib.hid hv
          have HSX := Lib.hid hsx
          have HFB := Lib.hid hfb2
          clear hsx hyv hy hfl2 hfb2 hpi hx ht hv
          go_wp2
          go_still_tail 23, (by kernel_rfl)
          change wpList _ _ _ _ _ wr.drew
          go_wp2
          rw [pw_min]
          go_roundw
          case rel =>
            refine ⟨i + 1, by omega, by go_num, ?_, ?_⟩
            · exact (hpx.setfar (q := ⟨w.heap.size, t, none⟩) (fun a ha => hps0 a ha) _).drew
            · have h1 := happx.set t (.int .u8 (bits .or .u8 y (pw x)))
              rw [bv_set, ← HSX.out] at h1
              exact h1.drew
          case measure => simp [intOf]; omega
        · have hik : i = k := by omega
          have he : fill f0 ((prb h ((n8 : Int) * 8) k).take i) = fill f0 (prb h ((n8 : Int) * 8) k) := by rw [hik, List.take_of_length_le (by rw [prb_len]; omega)]
          rw [he, ← HSN.out] at happx
          clear he
          go_wp2
          go_roundw
          case rel => exact ⟨j + 1, by omega, by go_num, happx⟩
          case measure => simp [intOf]; omega
    · have hjn : j = n := by omega
      have he : fillAll (n8 * 8) k (List.replicate n8 0) (keys.take j) = fillAll (n8 * 8) k (List.replicate n8 0) keys := by rw [hjn, List.take_of_length_le (by have := HN.out; omega)]
      rw [he] at happ
      clear he
      go_wp2_with (at_builtin; go_loud (refine wpList_appb _ rfl (.tmp 74) (.tmp 77) rfl w.heap.size _ n8 (fillAll (n8 * 8) k (List.replicate n8 0) keys) rfl (happ.own.alloc _) _ _ 1 1 [(k : Int)] rfl rfl (Rd.lit _ _ _) (by omega) (by have := happ.heap; simp; omega) ?_))
      intro A' c' w1 h1 hne
      have h2 := (happ.alloc (.cells #[.int .u8 k] 5)).trans h1
      go_wp2
      go_ret2
      exact ⟨A', c', rfl, h2, fun e => by simpa using hne e⟩
end Go.Proofs.Ytccpjjpceokodaa
