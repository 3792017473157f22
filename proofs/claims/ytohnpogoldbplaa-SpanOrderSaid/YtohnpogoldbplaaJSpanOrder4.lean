/- Texts of the proof of SpanOrderSaid, joined: SpD SpF SpI SpS SpV SpW SpF2a SpF2b. -/
import Derived.Test.YtohnpogoldbplaaJSpanOrder3
import Derived.Deep.QuietTactic
import Derived.Deep.Cut
import Derived.Test.YtohnpogoldbplaaJSpanOrder2
import Derived.Deep.RegionHeld3
import Derived.Test.YtohnpogoldbplaaJSpanOrder1
import Derived.Laws.ResultCell
/- Spans: the walk of Append. -/
namespace Go.Proofs.Ytohnpogoldbplaa
open Go.RowKit

theorem ordsLen (l : List Nat) : (l.flatMap ordEnc).length = l.length * 8 := by
  induction l with
  | nil => rfl
  | cons x l ih => rw [List.flatMap_cons, List.length_append, ih, ordEnc_len, List.length_cons]; omega
set_option maxRecDepth 100000 in
set_option maxHeartbeats 4000000 in
theorem spAppend {A0 At : Option Addr} {c0 ct B n nt : Nat} {zs : List Int} (s : Sp) (w : World) (ha : Rb w B A0 zs) (hB : B ≤ w.heap.size) (hz : zs.length ≤ 1099511627776) (hc : A0 = none → zs = [] ∧ c0 = 0) (hn : zs.length = n)
    (hf : RbT w B At s.tags) (hnt : s.tags.length = nt) (hnl : nt ≤ 9223372036854775807) (hu : s.U64) :
    Calls Try.prog 9 #[.slice A0 n c0, spV s At nt ct] w (AppPost w zs s) := by
  have hb0 : Below w.heap.size w (w.alloc (.cells (spC s At nt ct) 27)) := (Below.refl _ w).alloc (Nat.le_refl _) _
  have hf1 := Rd.alloc hf hB (.cells (spC s At nt ct) 27)
  have ha1 := Rd.alloc ha hB (.cells (spC s At nt ct) 27)
  have bk := Bk.new w 27 (spC s At nt ct)
  have hs1 : (w.alloc (.cells (spC s At nt ct) 27)).heap.size = w.heap.size + 1 := by simp
  obtain ⟨w1, hw1⟩ : ∃ w1, w.alloc (.cells (spC s At nt ct) 27) = w1 := ⟨_, rfl⟩
  rw [hw1] at hb0 hf1 ha1 bk hs1
  have HW := Lib.hid hw1
  have hc1 := spCheck (c := ct) s w1 hf1 hnt (by omega) hnl
  obtain ⟨k, hk⟩ : ∃ k, spChk s = k := ⟨_, rfl⟩
  rw [hk] at hc1
  have HC := Lib.hid hc1
  have HK := Lib.hid hk
  have HN := Lib.hid hn
  have HNT := Lib.hid hnt
  clear hw1 hc1 hk hn hnt
  go_enter Try.func9, Try.ntmps9
  go_wp2_with fail
  rw [HW.out]
  refine HC.out.mono ?_
  rintro e w2 ⟨rfl, hb2⟩
  have hs2 := hb2.size
  have hb02 := hb0.trans (hb2.mono (by omega))
  have hf2 := Rd.below hf1 (hb2.mono (by omega))
  have ha2 := Rd.below ha1 (hb2.mono (by omega))
  have bk2 := bk.below hb2 (by omega)
  clear bk hf1 ha1 hb0 HW hb2 ha hf HC
  by_cases hk0 : k = 0
  case neg =>
    have hk1 : ((k : Int) != 0) = true := by rw [bne_iff_ne]; omega
    go_wp2
    go_ret2
    exact ⟨hb02, .inl ⟨by rw [HK.out]; exact hk0, by rw [HK.out]; rfl⟩⟩
  subst hk0
  -- what Check has seen
  have hk := HK.out
  have hlong : longB s = false := by
    cases h : longB s with
    | false => rfl
    | true => rw [spChk, if_pos h] at hk; cases hk
  have hhead : headB s = true := by
    cases h : headB s with
    | true => rfl
    | false => rw [spChk, if_neg (by rw [hlong]; simp), h] at hk; simp at hk
  simp only [headB, Bool.and_eq_true, Bool.or_eq_true, decide_eq_true_eq, ne_eq] at hhead
  obtain ⟨⟨⟨⟨⟨⟨⟨⟨⟨h0, h1⟩, h2⟩, h3⟩, h4⟩, h5⟩, h6⟩, h7⟩, h8⟩, h9⟩ := hhead
  simp only [longB, Bool.or_eq_false_iff, decide_eq_false_iff_not] at hlong
  obtain ⟨⟨⟨l1, l2⟩, l3⟩, l4⟩ := hlong
  have hnt16 : nt ≤ 16 := by have := HNT.out; omega
  have L4 : Hid (∀ t ∈ s.tags, t.key.size ≤ 128 ∧ t.val.size ≤ 128) := fun t ht => by
    have := List.any_eq_false.1 l4 t ht
    simp [tgLong] at this
    exact this
  have L1 := Lib.hid l1
  have L2 := Lib.hid l2
  have HH := Lib.hid (And.intro h6 (And.intro h7 (And.intro h8 h9)))
  clear hk h0 h1 h2 h3 l1 l2 l3 l4 hnl h8 h9
  obtain ⟨g, hg⟩ : ∃ g, w.heap.size = g := ⟨_, rfl⟩
  have hgl := bk2.lt
  rw [hg] at bk2 hgl ⊢
  have k0 : w2.cell? ⟨g, 0, none⟩ = some (.int .u64 s.hi) := bk2.cell 0
  go_wp2_with fail
  refine (slClone w2 ha2 (by omega) (by omega) hc HN.out).mono ?_
  rintro e w3 ⟨A3, c3, rfl, happ, hne⟩
  have HB : Hid (Bk w2 g 27 (spC s At nt ct)) := bk2
  have HF : Hid (RbT w2 B At s.tags) := hf2
  have HBW := Lib.hid hb02
  have bk3 := bk2.below happ.below0 hgl
  have k0 : w3.cell? ⟨g, 0, none⟩ = some (.int .u64 s.hi) := bk3.cell 0
  have k1 : w3.cell? ⟨g, 1, none⟩ = some (.int .u64 s.lo) := bk3.cell 1
  have k2 : w3.cell? ⟨g, 2, none⟩ = some (.int .u64 s.id) := bk3.cell 2
  have k3 : w3.cell? ⟨g, 3, none⟩ = some (.int .u64 s.parent) := bk3.cell 3
  clear bk2 hf2 hb02 ha2 bk3
  go_wp2_with fail
  have happ4 := happ.alloc (.cells #[.int .u64 s.hi, .int .u64 s.lo, .int .u64 s.id, .int .u64 s.parent] 22)
  have bq := Bk.new w3 22 #[.int .u64 s.hi, .int .u64 s.lo, .int .u64 s.id, .int .u64 s.parent]
  have hq2 : w2.heap.size ≤ w3.heap.size := happ.heap
  have hqa : ∀ a, A3 = some a → a.block < w3.heap.size := fun a ha => (happ.lo a ha).2
  obtain ⟨w4, hw4⟩ : ∃ w4, w3.alloc (.cells #[.int .u64 s.hi, .int .u64 s.lo, .int .u64 s.id, .int .u64 s.parent] 22) = w4 := ⟨_, rfl⟩
  rw [hw4] at happ4 bq ⊢
  obtain ⟨q, hq⟩ : ∃ q, w3.heap.size = q := ⟨_, rfl⟩
  rw [hq] at bq hq2 hqa ⊢
  have hfetch : ∀ j, j < 4 → ∃ x : Nat, [s.hi, s.lo, s.id, s.parent][j]? = some x ∧ x < 18446744073709551616 ∧ (#[.int .u64 s.hi, .int .u64 s.lo, .int .u64 s.id, .int .u64 s.parent] : Array Value)[j]? = some (.int .u64 (x : Nat)) := by
    intro j hj
    obtain ⟨u1, u2, u3, u4⟩ := hu
    match j, hj with
    | 0, _ => exact ⟨_, rfl, u1, rfl⟩
    | 1, _ => exact ⟨_, rfl, u2, rfl⟩
    | 2, _ => exact ⟨_, rfl, u3, rfl⟩
    | 3, _ => exact ⟨_, rfl, u4, rfl⟩
  have HFE := Lib.hid hfetch
  have HQA := Lib.hid hqa
  have HAP := Lib.hid happ4
  clear hfetch hqa hw4 hq happ k0 k1 k2 k3 happ4 hu
  go_loopw [7, 31] (fun v iv_ wr => ∃ (A' : Option Addr) (c' m j : Nat), j ≤ 4 ∧ v = .slice A' m c' ∧ iv_ = .int .i64 j ∧ m = n + j * 8 ∧ App w2.heap.size 5 1 w2 (.slice none 0 0) wr (.slice A' m c') m (bv (zs ++ ([s.hi, s.lo, s.id, s.parent].take j).flatMap ordEnc)) ∧
    Bk wr q 22 #[.int .u64 s.hi, .int .u64 s.lo, .int .u64 s.id, .int .u64 s.parent] ∧ (∀ a, A' = some a → a.block ≠ q)) (fun _ i _ => 4 - (intOf i).toNat)
  case atStart => exact ⟨A3, c3, n, 0, by omega, rfl, rfl, by omega, by simpa using HAP.out, bq, fun a ha => by have := HQA.out a ha; omega⟩
  case round =>
    obtain ⟨A', c', m, j, hj, rfl, rfl, hm, happ, bqr, hfar⟩ := hrel
    have HM := Lib.hid hm
    have hmb : m + 1000 ≤ 140737488355328 := by have := HN.out; omega
    clear hm bq
    by_cases hlt : j < 4
    · have hlt' : (j : Int) < 4 := by omega
      obtain ⟨x, hx1, hx2, hx3⟩ := HFE.out j hlt
      have hcell : wr.cell? ⟨q, j, none⟩ = some (.int .u64 (x : Nat)) := (bqr.cell j).trans hx3
      have HX := Lib.hid hx1
      clear hx1 hx3
      go_wp2_with fail
      refine (wireOrdered wr happ.own happ.heap hx2 (by omega)).mono ?_
      rintro e w5 ⟨A5, c5, rfl, happ5, -⟩
      have h5 := happ.trans happ5
      have e1 : zs ++ ([s.hi, s.lo, s.id, s.parent].take j).flatMap ordEnc ++ ordEnc x = zs ++ ([s.hi, s.lo, s.id, s.parent].take (j + 1)).flatMap ordEnc := by
        rw [take_snoc HX.out, List.flatMap_append, List.flatMap_cons, List.flatMap_nil, List.append_nil, List.append_assoc]
      rw [e1] at h5
      have b5 : Bk w5 q 22 #[.int .u64 s.hi, .int .u64 s.lo, .int .u64 s.id, .int .u64 s.parent] := bqr.grown happ5.grown (fun e => by
        cases A' with
        | none => cases e
        | some a => exact hfar a rfl (Option.some.inj e).symm)
      have f5 : ∀ a, A5 = some a → a.block ≠ q := fun a ha e => by
        subst ha
        rcases happ5.block with h | ⟨r, h1, h2⟩
        · cases A' with
          | none => cases h
          | some b => exact hfar b rfl ((Option.some.inj h).symm.trans e)
        · have := bqr.lt
          have : a.block = r := Option.some.inj h1
          omega
      have HB5 := Lib.hid b5
      have HF5 := Lib.hid f5
      have H5 := Lib.hid h5
      clear e1 happ5 b5 f5 hfar bqr happ h5
      go_wp2
      go_roundw
      case rel => exact ⟨A5, c5, m + 8, j + 1, by omega, rfl, by go_num, by have := HM.out; omega, H5.out, HB5.out, HF5.out⟩
      case measure => simp [intOf]; omega
    · have hlt' : decide ((j : Int) < 4) = false := by simp; omega
      obtain rfl : j = 4 := by omega
      clear hfar bqr HFE HQA HAP
      have e1 : [s.hi, s.lo, s.id, s.parent].take 4 = [s.hi, s.lo, s.id, s.parent] := rfl
      rw [e1] at happ
      obtain ⟨y0, hy0⟩ : ∃ y0, zs ++ [s.hi, s.lo, s.id, s.parent].flatMap ordEnc = y0 := ⟨_, rfl⟩
      rw [hy0] at happ
      have hm0 : m ≤ 1099511627776 + 32 := by have := HM.out; have := HN.out; omega
      have bkr := HB.out.below happ.below0 hgl
      have k4 : wr.cell? ⟨g, 4, none⟩ = some (.string s.service) := bkr.cell 4
      have k5 : wr.cell? ⟨g, 5, none⟩ = some (.string s.name) := bkr.cell 5
      have HY0 := Lib.hid hy0
      clear hy0 bkr HM hmb
      go_wp2_with fail
      refine (spPieces (k := 2) (ls := [s.service, s.name]) _ (happ.own.alloc (.cells #[.string s.service, .string s.name] 9)) (by have := happ.heap; simp; omega) (fun i t ht => ?_) rfl (by simp) ?_ ?_ (by omega)).mono ?_
      · have hb := (Bk.new wr 9 #[.string s.service, .string s.name]).cell i
        rw [hb]
        match i, ht with
        | 0, ht => cases ht; rfl
        | 1, ht => cases ht; rfl
      · intro e
        cases A' with
        | none => cases e
        | some a =>
          have := (happ.own.lt a.block rfl).2
          have : a.block = wr.heap.size := Option.some.inj e
          omega
      · intro t ht
        have := L1.out
        have := L2.out
        simp at ht
        rcases ht with rfl | rfl <;> omega
      rintro e w5 ⟨A5, c5, rfl, happ5, -⟩
      have h5 := (happ.alloc (.cells #[.string s.service, .string s.name] 9)).trans happ5
      have epp : [s.service, s.name].flatMap pie = pie s.service ++ pie s.name := by simp
      rw [epp] at h5 ⊢
      obtain ⟨m5, hm5⟩ : ∃ m5, m + (pie s.service ++ pie s.name).length = m5 := ⟨_, rfl⟩
      have hm5b : m5 ≤ 1099511627776 + 400 := by
        have h1 := pie_len s.service (by have := L1.out; omega)
        have h2 := pie_len s.name (by have := L2.out; omega)
        have := L1.out
        have := L2.out
        rw [← hm5, List.length_append]
        omega
      obtain ⟨y5, hy5⟩ : ∃ y5, y0 ++ (pie s.service ++ pie s.name) = y5 := ⟨_, rfl⟩
      rw [hm5, hy5] at h5
      rw [hm5]
      have HY5 := Lib.hid hy5
      clear hm5 hy5 happ5 happ epp k4 k5 hm0
      have bk5 := HB.out.below h5.below0 hgl
      have k6 : w5.cell? ⟨g, 6, none⟩ = some (.int .i64 s.kind) := bk5.cell 6
      clear bk5
      go_wp2_with (at_builtin; go_loud (refine wpList_appb _ rfl (.tmp 46) (.tmp 50) rfl w2.heap.size _ m5 y5 rfl (h5.own.alloc _) _ _ 1 1 [s.kind] rfl rfl (Rd.lit _ _ _) (by omega) (by have := h5.heap; simp; omega) ?_))
      intro A6 c6 w6 h6' hne6
      have h6 := (h5.alloc (.cells #[.int .u8 s.kind] 5)).trans h6'
      clear h5 h6' hne6 k6
      obtain ⟨y6, hy6⟩ : ∃ y6, y5 ++ [s.kind] = y6 := ⟨_, rfl⟩
      obtain ⟨m6, hm6⟩ : ∃ m6, m5 + 1 = m6 := ⟨_, rfl⟩
      rw [hy6, hm6] at h6
      rw [hm6]
      have hm6b : m6 ≤ 1099511627776 + 401 := by omega
      have HY6 := Lib.hid hy6
      clear hy6 hm6 hm5b
      have bk6 := HB.out.below h6.below0 hgl
      have k7 : w6.cell? ⟨g, 7, none⟩ = some (.int .i64 s.start) := bk6.cell 7
      have k8 : w6.cell? ⟨g, 8, none⟩ = some (.int .i64 s.length) := bk6.cell 8
      obtain ⟨r1, r2, r3, r4⟩ := HH.out
      obtain ⟨a1, ha1⟩ : ∃ a1 : Nat, s.start = a1 := ⟨s.start.toNat, by omega⟩
      obtain ⟨a2, ha2⟩ : ∃ a2 : Nat, s.length = a2 := ⟨s.length.toNat, by omega⟩
      rw [ha1] at k7
      rw [ha2] at k8
      have hl1 := numEnc_u64 (x := a1) (by omega)
      have hl2 := numEnc_u64 (x := a2) (by omega)
      have ha1b : a1 ≤ 4611686018427387903 := by omega
      have ha2b : a2 ≤ 4611686018427387903 := by omega
      have hwr1 : IntKind.u64.wrap (a1 : Int) = (a1 : Int) := IntWalk.u64_in _ ⟨by omega, by omega⟩
      have hwr2 : IntKind.u64.wrap (a2 : Int) = (a2 : Int) := IntWalk.u64_in _ ⟨by omega, by omega⟩
      have hle6 : w2.heap.size ≤ w6.drew.heap.size := h6.heap
      have hx1 : a1 < 18446744073709551616 := by omega
      have hx2 : a2 < 18446744073709551616 := by omega
      have hmb6 : m6 + 10 ≤ 140737488355328 := by omega
      have hmb7 : m6 + (numEnc a1).length + 10 ≤ 140737488355328 := by omega
      have HA1 := Lib.hid ha1
      have HA2 := Lib.hid ha2
      clear bk6 ha1 ha2 r1 r2 r3 r4
      go_wp2_with fail
      go_region_held3 (fun w' => w'.cell? ⟨g, 7, none⟩ = some (.int .i64 a1) ∧ w'.cell? ⟨g, 8, none⟩ = some (.int .i64 a2)) (go_keep)
        (first
          | (go_at_call_of 39 (Value.int .u64 (a1 : Nat))
             refine (wireNumber (base := w2.heap.size) (x := a1) (xs := y6) _ h6.drew.own hle6 hx1 hmb6).mono ?_
             rintro e w7 ⟨A7, c7, rfl, happ7, -⟩
             have h7 := (h6.drew).trans happ7
             have k7' : w7.cell? ⟨g, 7, none⟩ = some (.int .i64 a1) := ((HB.out.below h7.below0 hgl).cell 7).trans (by rw [← HA1.out]; rfl)
             have k8' : w7.cell? ⟨g, 8, none⟩ = some (.int .i64 a2) := ((HB.out.below h7.below0 hgl).cell 8).trans (by rw [← HA2.out]; rfl))
          | (go_at_call_of 39 (Value.int .u64 (a2 : Nat))
             refine (wireNumber (base := w2.heap.size) (x := a2) (xs := y6 ++ numEnc a1) _ h7.own h7.heap hx2 hmb7).mono ?_
             rintro e w8 ⟨A8, c8, rfl, happ8, -⟩
             have h8 := h7.trans happ8
             have k7b : w8.cell? ⟨g, 7, none⟩ = some (.int .i64 a1) := ((HB.out.below h8.below0 hgl).cell 7).trans (by rw [← HA1.out]; rfl)
             have k8b : w8.cell? ⟨g, 8, none⟩ = some (.int .i64 a2) := ((HB.out.below h8.below0 hgl).cell 8).trans (by rw [← HA2.out]; rfl))
          | fail)
      obtain ⟨y8, hy8⟩ : ∃ y8, y6 ++ numEnc a1 ++ numEnc a2 = y8 := ⟨_, rfl⟩
      obtain ⟨m8, hm8⟩ : ∃ m8, m6 + (numEnc a1).length + (numEnc a2).length = m8 := ⟨_, rfl⟩
      rw [hy8, hm8] at h8
      rw [hm8]
      have hm8b : m8 ≤ 1099511627776 + 421 := by omega
      have HY8 := Lib.hid hy8
      clear hy8 hm8 hm6b h6 h7 happ7 happ8 k7 k8 k7' k8' k7b k8b hl1 hl2 hmb6 hmb7 hle6 hwr1 hwr2 hx1 hx2 ha1b ha2b
      obtain ⟨fv, hfv⟩ : ∃ fv : Int, (if s.fails = true then 1 else 0) = fv := ⟨_, rfl⟩
      have hfv0 : 0 ≤ fv := by rw [← hfv]; split <;> omega
      have hfv1 : fv ≤ 1 := by rw [← hfv]; split <;> omega
      have hwru : IntKind.u8.wrap fv = fv := by rw [IntKind.wrap_u8]; omega
      have hT := fun W => spTruth W s.fails
      rw [hfv] at hT
      have HFV := Lib.hid hfv
      have bk8 := HB.out.below h8.below0 hgl
      have k9 : w8.cell? ⟨g, 9, none⟩ = some (.bool s.fails) := bk8.cell 9
      have k10 : w8.cell? ⟨g, 10, none⟩ = some (.slice At nt ct) := bk8.cell 10
      have hwr3 : IntKind.u64.wrap (nt : Int) = (nt : Int) := IntWalk.u64_in _ ⟨by omega, by omega⟩
      have hx3 : nt < 18446744073709551616 := by omega
      have hl3 := numEnc_u64 hx3
      have hmb8 : m8 + 1 ≤ 140737488355328 := by omega
      have hmb9 : m8 + 1 + 10 ≤ 140737488355328 := by omega
      have h8a := (h8.alloc (.cells #[.int .u8 fv] 5)).drew
      have hle8 : w2.heap.size ≤ (w8.alloc (.cells #[.int .u8 fv] 5)).drew.heap.size := h8a.heap
      clear bk8 hfv
      go_wp2_with fail
      go_region_held3 (fun w' => w'.cell? ⟨g, 9, none⟩ = some (.bool s.fails) ∧ w'.cell? ⟨g, 10, none⟩ = some (.slice At nt ct)) (go_keep)
        (first
          | (go_at_call 40
             refine (hT _).mono ?_
             rintro e w9 ⟨rfl, hw9⟩
             rw [hw9]
             clear hw9 w9)
          | (refine step_appb (by rfl) (.tmp 61) (.tmp 66) (by rfl) w2.heap.size (.slice A8 m8 c8) m8 y8 (by rfl) h8a.own _ _ 1 1 [fv] (by rfl) (by rfl) (Rd.lit w8 _ _) hmb8 hle8 ?_
             intro A9 c9 w9 happ9 _
             have h9 := h8a.trans happ9
             have k9b : w9.cell? ⟨g, 9, none⟩ = some (.bool s.fails) := (HB.out.below h9.below0 hgl).cell 9
             have k10b : w9.cell? ⟨g, 10, none⟩ = some (.slice At nt ct) := (HB.out.below h9.below0 hgl).cell 10)
          | (go_at_call 39
             refine (wireNumber (base := w2.heap.size) (x := nt) (xs := y8 ++ [fv]) _ h9.own h9.heap hx3 hmb9).mono ?_
             rintro e w10 ⟨A10, c10, rfl, happ10, -⟩
             have h10 := h9.trans happ10
             have k9c : w10.cell? ⟨g, 9, none⟩ = some (.bool s.fails) := (HB.out.below h10.below0 hgl).cell 9
             have k10c : w10.cell? ⟨g, 10, none⟩ = some (.slice At nt ct) := (HB.out.below h10.below0 hgl).cell 10)
          | fail)
      obtain ⟨y10, hy10⟩ : ∃ y10, y8 ++ [fv] ++ numEnc nt = y10 := ⟨_, rfl⟩
      obtain ⟨m10, hm10⟩ : ∃ m10, m8 + 1 + (numEnc nt).length = m10 := ⟨_, rfl⟩
      rw [hy10, hm10] at h10
      rw [hm10]
      have hm10b : m10 ≤ 1099511627776 + 432 := by omega
      have HY10 := Lib.hid hy10
      have HH10 := Lib.hid h10
      clear hy10 hm10 hm8b h8 h9 h8a happ9 happ10 k9 k10 k9b k9c k10b hl3 hmb8 hmb9 hle8 hwr3 hwru hx3 hT hfv0 hfv1 h10
      go_wp2_with fail
      go_loopw [7, 76] (fun v iv_ wr => ∃ (A' : Option Addr) (c' m j : Nat), j ≤ nt ∧ v = .slice A' m c' ∧ iv_ = .int .i64 j ∧ m ≤ m10 + j * 300 ∧ App w2.heap.size 5 1 w2 (.slice none 0 0) wr (.slice A' m c') m (bv (y10 ++ (s.tags.take j).flatMap tgEnc))) (fun _ i _ => nt - (intOf i).toNat)
      case atStart => exact ⟨A10, c10, m10, 0, by omega, rfl, rfl, by omega, by simpa using HH10.out⟩
      case round =>
        clear k10c
        obtain ⟨A', c', m, j, hj, rfl, rfl, hm, happ⟩ := hrel
        have hmb : m ≤ 1099511627776 + 6000 := by omega
        by_cases hlt : j < nt
        · have hlt' : (j : Int) < (nt : Int) := by omega
          obtain ⟨x, hx⟩ : ∃ x, s.tags[j]? = some x := ⟨_, List.getElem?_eq_getElem (by rw [HNT.out]; exact hlt)⟩
          have hsx := L4.out x (List.mem_of_getElem? hx)
          obtain ⟨b, o, e', hbb, c1, c2⟩ := RbT.get (Rd.below HF.out (happ.below0.mono (by omega))) hx
          cases e'
          have HX := Lib.hid hx
          clear hx
          have ha2 := (happ.alloc (.cells #[.string x.key, .string x.val] 42)).alloc (.cells #[.string x.key, .string x.val] 9)
          have hrow : (Value.slice A' m c').ownBlock ≠ some (wr.heap.size + 1) := fun e => by
            cases A' with
            | none => cases e
            | some a =>
              have h1 := (happ.own.lt a.block rfl).2
              have h2 : a.block = wr.heap.size + 1 := Option.some.inj e
              omega
          have bb : Bk ((wr.alloc (.cells #[.string x.key, .string x.val] 42)).alloc (.cells #[.string x.key, .string x.val] 9)) (wr.heap.size + 1) 9 #[.string x.key, .string x.val] := by
            have h := Bk.new (wr.alloc (.cells #[.string x.key, .string x.val] 42)) 9 #[.string x.key, .string x.val]
            simpa using h
          have hcells : ∀ (i : Nat) (t : ByteArray), [x.key, x.val][i]? = some t → ((wr.alloc (.cells #[.string x.key, .string x.val] 42)).alloc (.cells #[.string x.key, .string x.val] 9)).cell? ⟨wr.heap.size + 1, i, none⟩ = some (.string t) := fun i t ht => by
            rw [bb.cell i]
            match i, ht with
            | 0, ht => cases ht; rfl
            | 1, ht => cases ht; rfl
          have hsz : ∀ t ∈ [x.key, x.val], t.size ≤ 1048576 := fun t ht => by
            simp at ht
            rcases ht with rfl | rfl <;> omega
          have hp := spPieces (k := 2) (c1 := 2) (ls := [x.key, x.val]) _ ha2.own ha2.heap hcells rfl bb.lt hrow hsz (by omega)
          have HP := Lib.hid hp
          have HA2 := Lib.hid ha2
          clear hp hrow bb hcells hsz ha2
          go_wp2_with fail
          refine HP.out.mono ?_
          rintro e w12 ⟨A12, c12, rfl, happ12, -⟩
          have h12 := HA2.out.trans happ12
          have e1 : [x.key, x.val].flatMap pie = tgEnc x := by simp [tgEnc]
          have e2 : y10 ++ (s.tags.take j).flatMap tgEnc ++ tgEnc x = y10 ++ (s.tags.take (j + 1)).flatMap tgEnc := by
            rw [take_snoc HX.out, List.flatMap_append, List.flatMap_cons, List.flatMap_nil, List.append_nil, List.append_assoc]
          rw [e1, e2] at h12
          rw [e1]
          have hl12 : (tgEnc x).length ≤ 300 := by
            have h1 := pie_len x.key (by omega)
            have h2 := pie_len x.val (by omega)
            rw [tgEnc, List.length_append]
            omega
          obtain ⟨m12, hm12⟩ : ∃ m12, m + (tgEnc x).length = m12 := ⟨_, rfl⟩
          rw [hm12] at h12 ⊢
          have hm12b : m12 ≤ m10 + (j + 1) * 300 := by omega
          clear e1 e2 hl12 hm12 happ12 c1 c2
          go_wp2
          go_roundw
          case rel => exact ⟨A12, c12, m12, j + 1, by omega, rfl, by go_num, hm12b, h12⟩
          case measure => simp [intOf]; omega
        · have hlt' : decide ((j : Int) < (nt : Int)) = false := by simp; omega
          obtain rfl : j = nt := by omega
          have e1 : s.tags.take j = s.tags := List.take_of_length_le (by rw [HNT.out]; omega)
          rw [e1] at happ
          have hy : y10 ++ s.tags.flatMap tgEnc = zs ++ spEnc s := by
            have hk : s.kind % 256 = s.kind := by omega
            rw [← HY10.out, ← HY8.out, ← HY6.out, ← HY5.out, ← HY0.out, spEnc, spHead, hk, ← HFV.out, HNT.out, HA1.out, HA2.out]
            simp
          rw [hy] at happ
          have hml : m = (zs ++ spEnc s).length := by
            have := own_length happ.own
            rw [bv_length] at this
            exact this.symm
          have HML := Lib.hid hml
          have HAPP := Lib.hid happ
          clear hy hml e1
          go_wp2
          go_ret2
          have happ := HAPP.out
          have hml := HML.out
          refine ⟨HBW.out.trans (happ.below0.mono (by omega)), .inr ⟨HK.out, A', c', by rw [← hml]; rfl, happ.rd, by rw [← hml]; exact happ.cap, fun a ha => ?_⟩⟩
          have := (happ.lo a ha).1
          omega
end Go.Proofs.Ytohnpogoldbplaa

/- Spans: bootprintkit.SameSpan of two equal spans. -/
namespace Go.Proofs.Ytohnpogoldbplaa
open Go.RowKit

theorem strEq_of {s t : ByteArray} : (s.toList == t.toList) = decide (s = t) := by
  rw [ByteArray.toList_eq, ByteArray.toList_eq, Bool.eq_iff_iff, beq_iff_eq, decide_eq_true_iff]
  exact ⟨fun h => ByteArray.ext (Array.ext' h), fun h => by rw [h]⟩
set_option maxRecDepth 100000 in
set_option maxHeartbeats 8000000 in
/-- Two spans whose heads are the same: their tags are held against one another. -/
theorem kitSameTags {A1 A2 : Option Addr} {c1 c2 n B : Nat} (s : Sp) (ta tb : List Tg) (w : World) (hf : RbT w B A1 ta) (hg : RbT w B A2 tb) (hn : ta.length = n) (hm : tb.length = n) (hB : B ≤ w.heap.size) (hnl : n ≤ 9223372036854775807) :
    Calls Try.prog 11 #[spV s A1 n c1, spV s A2 n c2] w fun e w' => e = .returned (.bool (decide (ta = tb))) ∧ Below w.heap.size w w' := by
  obtain ⟨q, hq⟩ : ∃ q, decide (ta = tb) = q := ⟨_, rfl⟩
  rw [hq]
  have HQT := Lib.hid hq
  have HN := Lib.hid hn
  have HM := Lib.hid hm
  clear hq hn hm
  have hb0 : Below w.heap.size w ((w.alloc (.cells (spC s A1 n c1) 27)).alloc (.cells (spC s A2 n c2) 27)) := ((Below.refl _ w).alloc (Nat.le_refl _) _).alloc (by simp) _
  have hff := Rd.below hf (hb0.mono hB)
  have hgg := Rd.below hg (hb0.mono hB)
  have bk1 := (Bk.new w 27 (spC s A1 n c1)).alloc (.cells (spC s A2 n c2) 27)
  have bk2 : Bk ((w.alloc (.cells (spC s A1 n c1) 27)).alloc (.cells (spC s A2 n c2) 27)) (w.heap.size + 1) 27 (spC s A2 n c2) := by
    have h := Bk.new (w.alloc (.cells (spC s A1 n c1) 27)) 27 (spC s A2 n c2)
    simpa using h
  obtain ⟨w1, hw1⟩ : ∃ w1, ((w.alloc (.cells (spC s A1 n c1) 27)).alloc (.cells (spC s A2 n c2) 27)) = w1 := ⟨_, rfl⟩
  rw [hw1] at hb0 hff hgg bk1 bk2
  obtain ⟨g1, hg1⟩ : ∃ g1, w.heap.size = g1 := ⟨_, rfl⟩
  obtain ⟨g2, hg2⟩ : ∃ g2, g1 + 1 = g2 := ⟨_, rfl⟩
  rw [hg1] at bk1 bk2
  rw [hg2] at bk2
  have HW := Lib.hid hw1
  have HG1 := Lib.hid hg1
  have HG2 := Lib.hid hg2
  have kg10 : w1.cell? ⟨g1, 0, none⟩ = some (.int .u64 s.hi) := bk1.cell 0
  have kg11 : w1.cell? ⟨g1, 1, none⟩ = some (.int .u64 s.lo) := bk1.cell 1
  have kg12 : w1.cell? ⟨g1, 2, none⟩ = some (.int .u64 s.id) := bk1.cell 2
  have kg13 : w1.cell? ⟨g1, 3, none⟩ = some (.int .u64 s.parent) := bk1.cell 3
  have kg14 : w1.cell? ⟨g1, 4, none⟩ = some (.string s.service) := bk1.cell 4
  have kg15 : w1.cell? ⟨g1, 5, none⟩ = some (.string s.name) := bk1.cell 5
  have kg16 : w1.cell? ⟨g1, 6, none⟩ = some (.int .i64 s.kind) := bk1.cell 6
  have kg17 : w1.cell? ⟨g1, 7, none⟩ = some (.int .i64 s.start) := bk1.cell 7
  have kg18 : w1.cell? ⟨g1, 8, none⟩ = some (.int .i64 s.length) := bk1.cell 8
  have kg19 : w1.cell? ⟨g1, 9, none⟩ = some (.bool s.fails) := bk1.cell 9
  have kg110 : w1.cell? ⟨g1, 10, none⟩ = some (.slice A1 n c1) := bk1.cell 10
  have kg20 : w1.cell? ⟨g2, 0, none⟩ = some (.int .u64 s.hi) := bk2.cell 0
  have kg21 : w1.cell? ⟨g2, 1, none⟩ = some (.int .u64 s.lo) := bk2.cell 1
  have kg22 : w1.cell? ⟨g2, 2, none⟩ = some (.int .u64 s.id) := bk2.cell 2
  have kg23 : w1.cell? ⟨g2, 3, none⟩ = some (.int .u64 s.parent) := bk2.cell 3
  have kg24 : w1.cell? ⟨g2, 4, none⟩ = some (.string s.service) := bk2.cell 4
  have kg25 : w1.cell? ⟨g2, 5, none⟩ = some (.string s.name) := bk2.cell 5
  have kg26 : w1.cell? ⟨g2, 6, none⟩ = some (.int .i64 s.kind) := bk2.cell 6
  have kg27 : w1.cell? ⟨g2, 7, none⟩ = some (.int .i64 s.start) := bk2.cell 7
  have kg28 : w1.cell? ⟨g2, 8, none⟩ = some (.int .i64 s.length) := bk2.cell 8
  have kg29 : w1.cell? ⟨g2, 9, none⟩ = some (.bool s.fails) := bk2.cell 9
  have kg210 : w1.cell? ⟨g2, 10, none⟩ = some (.slice A2 n c2) := bk2.cell 10
  have fbool : (s.fails != s.fails) = false := by simp
  clear hw1 bk1 bk2 hg1 hg2 hf hg
  go_enter Try.func11, Try.ntmps11
  go_upto_region 1 with fail
  rw [HW.out, HG1.out]
  simp only [HG2.out]
  go_wp2_with fail
  clear kg10 kg11 kg12 kg13 kg14 kg15 kg16 kg17 kg18 kg19 kg20 kg21 kg22 kg23 kg24 kg25 kg26 kg27 kg28 kg29
  have hg1l : g1 < w1.heap.size := by rw [← HG1.out, ← HW.out]; simp; omega
  have hg2l : g2 < w1.heap.size := by rw [← HG2.out, ← HG1.out, ← HW.out]; simp
  go_loopw [5] (fun iv_ wr => ∃ j : Nat, j ≤ n ∧ iv_ = .int .i64 j ∧ ta.take j = tb.take j ∧ Below w1.heap.size w1 wr) (fun i _ => n - (intOf i).toNat)
  case atStart => exact ⟨0, by omega, rfl, rfl, Below.refl _ _⟩
  case round =>
    obtain ⟨j, hj, rfl, hall, hb⟩ := hrel
    have HA := Lib.hid hall
    clear hall
    have k1' : wr.cell? ⟨g1, 10, none⟩ = some (.slice A1 n c1) := (hb.cell (p := ⟨g1, 10, none⟩) hg1l).trans kg110
    have k2' : wr.cell? ⟨g2, 10, none⟩ = some (.slice A2 n c2) := (hb.cell (p := ⟨g2, 10, none⟩) hg2l).trans kg210
    by_cases hlt : j < n
    · have hlt' : (j : Int) < (n : Int) := by omega
      have hBs : B ≤ w1.heap.size := by rw [← HW.out]; simp; omega
      obtain ⟨x, hx⟩ : ∃ x, ta[j]? = some x := ⟨_, List.getElem?_eq_getElem (by rw [HN.out]; exact hlt)⟩
      obtain ⟨y, hy⟩ : ∃ y, tb[j]? = some y := ⟨_, List.getElem?_eq_getElem (by rw [HM.out]; exact hlt)⟩
      obtain ⟨b1, o1, rfl, hbb1, c11, c12⟩ := RbT.get (Rd.below hff (hb.mono hBs)) hx
      obtain ⟨b2, o2, rfl, hbb2, c21, c22⟩ := RbT.get (Rd.below hgg (hb.mono hBs)) hy
      have HX := Lib.hid hx
      have HY := Lib.hid hy
      clear hx hy hbb1 hbb2 kg110 kg210 hg1l hg2l
      by_cases hxy : x = y
      · subst hxy
        go_wp2_with fail
        go_quiet (fail)
        go_wp2
        go_roundw
        case rel => exact ⟨j + 1, by omega, by go_num, by rw [take_snoc HX.out, take_snoc HY.out, HA.out], below_drewN hb _⟩
        case measure => simp [intOf]; omega
      · have hqf : q = false := by
          rw [← HQT.out, decide_eq_false_iff_not]
          intro h
          have h1 := HX.out
          rw [h, HY.out] at h1
          exact hxy (Option.some.inj h1).symm
        have HQF := Lib.hid hqf
        clear hqf
        by_cases hk : x.key = y.key
        · have hv : x.val ≠ y.val := fun h => hxy (by cases x; cases y; simp_all)
          have d1 : (x.key.toList == y.key.toList) = true := by rw [strEq_of]; simpa using hk
          have d2 : (x.val.toList == y.val.toList) = false := by rw [strEq_of]; simpa using hv
          clear hk hv
          go_wp2_with fail
          go_quiet (fail)
          go_wp2
          go_ret
          exact ⟨by rw [HQF.out]; rfl, hb0.trans ((below_drewN hb _).mono (by rw [← HW.out]; simp; omega))⟩
        · have d1 : (x.key.toList == y.key.toList) = false := by rw [strEq_of]; simpa using hk
          clear hk
          go_wp2_with fail
          go_quiet (fail)
          go_wp2
          go_ret
          exact ⟨by rw [HQF.out]; rfl, hb0.trans ((below_drewN hb _).mono (by rw [← HW.out]; simp; omega))⟩
    · have hlt' : decide ((j : Int) < (n : Int)) = false := by simp; omega
      go_wp2
      go_ret
      have : q = true := by
        rw [← HQT.out, decide_eq_true_iff]
        have h1 := HA.out
        rwa [List.take_of_length_le (by rw [HN.out]; omega), List.take_of_length_le (by rw [HM.out]; omega)] at h1
      exact ⟨by rw [this]; rfl, hb0.trans (hb.mono (by rw [← HW.out]; simp; omega))⟩
end Go.Proofs.Ytohnpogoldbplaa

/- Spans: IDText, TraceText. -/
namespace Go.Proofs.Ytohnpogoldbplaa
open Go.RowKit

def hexD (z : Nat) : Int := if z < 10 then 48 + z else 87 + z
/-- The digits as they stand when j of them have been laid. -/
def idC (x j : Nat) : List Int := (List.range 16).map fun p => if 16 - j ≤ p then hexD (x / 16 ^ (15 - p) % 16) else 0
def idL (x : Nat) : List Int := (List.range 16).map fun p => hexD (x / 16 ^ (15 - p) % 16)
theorem idC_len (x j : Nat) : (idC x j).length = 16 := by simp [idC]
theorem idC_all (x : Nat) : idC x 16 = idL x := by simp [idC, idL]
theorem idC_zero (x : Nat) : idC x 0 = List.replicate 16 0 := by
  apply List.ext_getElem?
  intro i
  by_cases h : i < 16
  · rw [List.getElem?_replicate, if_pos h]
    simp only [idC, List.getElem?_map, List.getElem?_range h, Option.map_some]
    rw [if_neg (by omega)]
  · rw [List.getElem?_eq_none (by rw [idC_len]; omega), List.getElem?_eq_none (by simp; omega)]
theorem idC_step (x j : Nat) (hj : j < 16) : (idC x j).set (15 - j) (hexD (x / 16 ^ j % 16)) = idC x (j + 1) := by
  apply List.ext_getElem?
  intro i
  by_cases h : i < 16
  · rw [List.getElem?_set]
    by_cases hi : 15 - j = i
    · rw [if_pos hi, if_pos (by rw [idC_len]; omega)]
      simp only [idC, List.getElem?_map, List.getElem?_range h, Option.map_some]
      rw [if_pos (by omega), show 15 - i = j from by omega]
    · rw [if_neg hi]
      simp only [idC, List.getElem?_map, List.getElem?_range h, Option.map_some]
      by_cases h2 : 16 - j ≤ i
      · rw [if_pos h2, if_pos (by omega)]
      · rw [if_neg h2, if_neg (by omega)]
  · rw [List.getElem?_eq_none (by rw [List.length_set, idC_len]; omega), List.getElem?_eq_none (by rw [idC_len]; omega)]
theorem hexD_rng (z : Nat) (h : z < 16) : 0 ≤ hexD z ∧ hexD z ≤ 255 := by unfold hexD; split <;> omega
def digits16 : ByteArray := ⟨#[48, 49, 50, 51, 52, 53, 54, 55, 56, 57, 97, 98, 99, 100, 101, 102]⟩
theorem hexD_get : ∀ (z : Nat) (h : z < 16), ((digits16[z]'h).toNat : Int) = hexD z := by decide +kernel
theorem and15 (v : Nat) (hv : v < 18446744073709551616) : bits .and .u64 (v : Int) 15 = ((v % 16 : Nat) : Int) := by
  have h := u64_and_nat v 15 hv (by omega)
  rw [show ((15 : Nat) : Int) = (15 : Int) from rfl] at h
  rw [h]
  have : v &&& 15 = v % 16 := Nat.and_two_pow_sub_one_eq_mod v 4
  rw [this]

theorem bv_zeros (n : Nat) : (madeCells #[Value.int .u8 0] n).toList = bv (List.replicate n 0) := by
  rw [toList_madeCells_one, bv, List.map_replicate]
theorem mk16 (w : World) : (Instr.makeSlice 28 (.int .i64 16) (.int .i64 16)).run Try.prog w = .ok (.slice (some ⟨w.heap.size, 0, none⟩) 16 16) (w.alloc (.cells (bv (List.replicate 16 0)).toArray 5)) := by
  obtain ⟨i, hi, hz0, hz1, hz2⟩ := info_parts u8info
  have h1 := run_make (P := Try.prog) w 28 5 i (.int .u8 0) Try.underlying28 hi hz0 .i64 .i64 16 16 (by omega) (by omega) (by rw [hz2]; omega) (by omega)
  rw [h1, hz1, show (16 : Int).toNat = 16 from rfl, Nat.mul_one]
  rw [← bv_zeros]
  rfl
theorem bv_set (l : List Int) (k : Nat) (z : Int) : (bv l).toArray.setIfInBounds k (.int .u8 z) = (bv (l.set k z)).toArray := by
  rw [List.setIfInBounds_toArray, bv, bv, List.map_set]
theorem shr_nib {x : Nat} {e : Nat} (k : Nat) (h : e = 4 * k) : (x : Int) / 2 ^ e = ((x / 16 ^ k : Nat) : Int) := by
  subst h
  have e : (2 : Nat) ^ (4 * k) = 16 ^ k := by rw [Nat.pow_mul]
  rw [← e]
  simp

set_option maxRecDepth 100000 in
set_option maxHeartbeats 1000000 in
theorem spIDText {x : Nat} (w : World) (hx : x < 18446744073709551616) :
    Calls Try.prog 28 #[.int .u64 (x : Nat)] w fun e w' => e = .returned (.string (strOfNums (idL x))) ∧ Below w.heap.size w w' := by
  have hmk := mk16 w
  have bk := Bk.new w 5 (bv (List.replicate 16 0)).toArray
  have hb0 : Below w.heap.size w (w.alloc (.cells (bv (List.replicate 16 0)).toArray 5)) := (Below.refl _ w).alloc (Nat.le_refl _) _
  obtain ⟨C, hC⟩ : ∃ C, (bv (List.replicate 16 0)).toArray = C := ⟨_, rfl⟩
  rw [hC] at hmk hb0
  have bk1 : Bk (w.alloc (.cells C 5)) w.heap.size 5 (bv (idC x 0)).toArray := by rw [idC_zero, ← hC]; exact bk
  clear bk hC
  obtain ⟨w1, hw1⟩ : ∃ w1, w.alloc (.cells C 5) = w1 := ⟨_, rfl⟩
  rw [hw1] at hmk hb0 bk1
  obtain ⟨g, hg⟩ : ∃ g, w.heap.size = g := ⟨_, rfl⟩
  rw [hg] at hmk bk1 hb0 ⊢
  clear hw1
  go_enter Try.func28, Try.ntmps28
  go_wp2
  go_loopw [8] (fun iv_ wr => ∃ j : Nat, j ≤ 16 ∧ iv_ = .int .i64 j ∧ Bk wr g 5 (bv (idC x j)).toArray ∧ Below g w wr) (fun i _ => 16 - (intOf i).toNat)
  case atStart => exact ⟨0, by omega, rfl, bk1, hb0⟩
  case round =>
    clear hmk bk1 hb0
    obtain ⟨j, hj, rfl, bk, hb⟩ := hrel
    by_cases hlt : j < 16
    · have hlt' : (j : Int) < 16 := by omega
      obtain ⟨d, hd⟩ : ∃ d : Nat, 15 - j = d := ⟨_, rfl⟩
      have hdj : (15 : Int) - (j : Int) = (d : Int) := by omega
      have hd16 : d < 16 := by omega
      obtain ⟨z, hz⟩ : ∃ z : Nat, x / 16 ^ j % 16 = z := ⟨_, rfl⟩
      have hz16 : z < 16 := by omega
      have hq : x / 16 ^ j < 18446744073709551616 := Nat.lt_of_le_of_lt (Nat.div_le_self _ _) hx
      have hand : bits .and .u64 ((x : Int) / 2 ^ (4 * j)) 15 = (z : Int) := by
        rw [shr_nib j rfl, and15 _ hq, hz]
      have hstep : (idC x j).set d (hexD z) = idC x (j + 1) := by rw [← hd, ← hz]; exact idC_step x j hlt
      have hcd : ∃ u, wr.cell? ⟨g, d, none⟩ = some u := by
        rw [bk.cell d, List.getElem?_toArray]
        exact ⟨_, List.getElem?_eq_getElem (by rw [bv_length, idC_len]; exact hd16)⟩
      obtain ⟨u, hcd⟩ := hcd
      have hfd : wr.frozen? ⟨g, d, none⟩ = false := bk.frozen d
      have hdg : (((⟨#[48, 49, 50, 51, 52, 53, 54, 55, 56, 57, 97, 98, 99, 100, 101, 102]⟩ : ByteArray)[z]'hz16).toNat : Int) = hexD z := hexD_get z hz16
      have b2 := bk.set d (.int .u8 (hexD z))
      rw [bv_set, hstep] at b2
      have HBK := Lib.hid b2
      clear bk b2 hstep hz hq hd
      go_wp2_with fail
      go_roundw
      case rel => exact ⟨j + 1, by omega, by go_num, HBK.out, hb.setCell (p := ⟨g, d, none⟩) (Nat.le_refl _) _⟩
      case measure => simp [intOf]; omega
    · have hlt' : decide ((j : Int) < 16) = false := by simp; omega
      obtain rfl : j = 16 := by omega
      rw [idC_all] at bk
      have hrd : Rb wr wr.heap.size (some ⟨g, 0, none⟩) (idL x) := fun _ => ⟨g, 0, rfl, bk.lt, fun k u hu => by
        rw [Nat.zero_add, bk.cell k]
        simpa using hu⟩
      have hconv := Rb.str (P := Try.prog) hrd Try.underlying28 Try.underlying5 Try.underlying9 16
      have hl16 : (idL x).length = 16 := by simp [idL]
      rw [hl16] at hconv
      go_wp2
      go_ret
      exact ⟨rfl, hb⟩

theorem idL_byt (x : Nat) : Byt (idL x) := fun z hz => by
  obtain ⟨p, _, rfl⟩ := List.mem_map.1 hz
  exact hexD_rng _ (by omega)
def trcL (hi lo : Nat) : ByteArray := strOfNums (idL hi) ++ strOfNums (idL lo)
set_option maxHeartbeats 1000000 in
theorem spTraceText {hi lo : Nat} (w : World) (h1 : hi < 18446744073709551616) (h2 : lo < 18446744073709551616) :
    Calls Try.prog 26 #[.agg #[.int .u64 (hi : Nat), .int .u64 (lo : Nat)]] w fun e w' => e = .returned (.string (strOfNums (idL hi) ++ strOfNums (idL lo))) ∧ Below w.heap.size w w' := by
  obtain ⟨u, hu⟩ : ∃ u, strOfNums (idL hi) = u := ⟨_, rfl⟩
  obtain ⟨v, hv⟩ : ∃ v, strOfNums (idL lo) = v := ⟨_, rfl⟩
  have hus : u.size = 16 := by rw [← hu, ← nums_len, nums_strOf (idL_byt hi)]; simp [idL]
  have hvs : v.size = 16 := by rw [← hv, ← nums_len, nums_strOf (idL_byt lo)]; simp [idL]
  have c1 := fun W => spIDText (x := hi) W h1
  have c2 := fun W => spIDText (x := lo) W h2
  rw [hu] at c1 ⊢
  rw [hv] at c2 ⊢
  have hadd : ∀ W : World, (Op.stringOp .add u v).run Try.prog W = .ok (.string (u ++ v)) W := fun W => run_string_add_sum _ _ _ (by omega)
  have C1 := Lib.hid c1
  have C2 := Lib.hid c2
  have hsum : u.size + v.size ≤ 9223372036854775807 := by omega
  clear hu hv hus hvs c1 c2
  have bk := Bk.new w 24 #[.int .u64 (hi : Nat), .int .u64 (lo : Nat)]
  have hb0 : Below w.heap.size w (w.alloc (.cells #[.int .u64 (hi : Nat), .int .u64 (lo : Nat)] 24)) := (Below.refl _ w).alloc (Nat.le_refl _) _
  have hs1 : (w.alloc (.cells #[.int .u64 (hi : Nat), .int .u64 (lo : Nat)] 24)).heap.size = w.heap.size + 1 := by simp
  obtain ⟨w1, hw1⟩ : ∃ w1, w.alloc (.cells #[.int .u64 (hi : Nat), .int .u64 (lo : Nat)] 24) = w1 := ⟨_, rfl⟩
  rw [hw1] at bk hb0 hs1
  have HW := Lib.hid hw1
  have k0 : w1.cell? ⟨w.heap.size, 0, none⟩ = some (.int .u64 (hi : Nat)) := bk.cell 0
  have k1 : w1.cell? ⟨w.heap.size, 1, none⟩ = some (.int .u64 (lo : Nat)) := bk.cell 1
  clear hw1
  go_enter Try.func26, Try.ntmps26
  go_upto_region 1 with fail
  rw [HW.out]
  obtain ⟨g, hg⟩ : ∃ g, w.heap.size = g := ⟨_, rfl⟩
  rw [hg] at bk k0 k1 hb0 hs1 ⊢
  go_region_held3 (fun w' => w'.cell? ⟨g, 0, none⟩ = some (.int .u64 (hi : Nat)) ∧ w'.cell? ⟨g, 1, none⟩ = some (.int .u64 (lo : Nat))) (go_keep)
    (first
      | (go_at_call_of 28 (Value.int .u64 (hi : Nat))
         refine (C1.out _).mono ?_
         rintro e w5 ⟨rfl, hb5⟩
         have b5 := bk.drew.below hb5 bk.lt
         have k0' : w5.cell? ⟨g, 0, none⟩ = some (.int .u64 (hi : Nat)) := b5.cell 0
         have k1' : w5.cell? ⟨g, 1, none⟩ = some (.int .u64 (lo : Nat)) := b5.cell 1)
      | (go_at_call_of 28 (Value.int .u64 (lo : Nat))
         refine (C2.out _).mono ?_
         rintro e w6 ⟨rfl, hb6⟩
         have b6 := b5.below hb6 b5.lt
         have k0b : w6.cell? ⟨g, 0, none⟩ = some (.int .u64 (hi : Nat)) := b6.cell 0
         have k1b : w6.cell? ⟨g, 1, none⟩ = some (.int .u64 (lo : Nat)) := b6.cell 1)
      | fail)
  all_goals
    have hs5 : w1.heap.size ≤ w5.heap.size := hb5.size
    have hg5 : g ≤ w1.heap.size := by omega
    have HB6 : Hid (Below g w w6) := (show Below g w w1.drew from below_drewN hb0 1).trans ((hb5.mono (show g ≤ w1.heap.size from hg5)).trans (hb6.mono (by omega)))
    go_wp2
    go_ret
    exact ⟨rfl, by rw [hg]; exact HB6.out⟩
end Go.Proofs.Ytohnpogoldbplaa

/- Spans: bootprintkit.SmallSpan, SameSpan. -/
namespace Go.Proofs.Ytohnpogoldbplaa
open Go.RowKit

def tgSmall (most : Int) (t : Tg) : Bool := decide ((t.key.size : Int) ≤ most) && decide ((t.val.size : Int) ≤ most)
def smallB (s : Sp) (most : Int) : Bool := decide ((s.service.size : Int) ≤ most) && decide ((s.name.size : Int) ≤ most) && decide ((s.tags.length : Int) ≤ most) && s.tags.all (tgSmall most)
set_option maxRecDepth 100000 in
set_option maxHeartbeats 2000000 in
theorem kitSmall {A : Option Addr} {c n B : Nat} (s : Sp) (most : Int) (w : World) (hf : RbT w B A s.tags) (hn : s.tags.length = n) (hB : B ≤ w.heap.size) (hnl : n ≤ 9223372036854775807) :
    Calls Try.prog 8 #[spV s A n c, .int .i64 most] w fun e w' => e = .returned (.bool (smallB s most)) ∧ Below w.heap.size w w' := by
  obtain ⟨q, hq⟩ : ∃ q, smallB s most = q := ⟨_, rfl⟩
  rw [hq]
  unfold smallB at hq
  rw [hn] at hq
  have HQ := Lib.hid hq
  have HN := Lib.hid hn
  have hb0 : Below w.heap.size w (w.alloc (.cells (spC s A n c) 27)) := (Below.refl _ w).alloc (Nat.le_refl _) _
  have hf1 := Rd.alloc hf hB (.cells (spC s A n c) 27)
  have bk := Bk.new w 27 (spC s A n c)
  clear hq hn
  by_cases h1 : most < (s.service.size : Int)
  · go_enter Try.func8, Try.ntmps8
    go_wp2
    go_ret
    have : q = false := by rw [← HQ.out, decide_eq_false (show ¬ _ by omega)]; rfl
    exact ⟨by rw [this]; rfl, hb0⟩
  have d1 : decide (most < (s.service.size : Int)) = false := by simp; omega
  by_cases h2 : most < (s.name.size : Int)
  · go_enter Try.func8, Try.ntmps8
    go_wp2
    go_ret
    have : q = false := by rw [← HQ.out, decide_eq_false (p := (s.name.size : Int) ≤ most) (by omega)]; simp
    exact ⟨by rw [this]; rfl, hb0⟩
  have d2 : decide (most < (s.name.size : Int)) = false := by simp; omega
  by_cases h3 : most < (n : Int)
  · go_enter Try.func8, Try.ntmps8
    go_wp2
    go_ret
    have : q = false := by rw [← HQ.out, decide_eq_false (p := (n : Int) ≤ most) (by omega)]; simp
    exact ⟨by rw [this]; rfl, hb0⟩
  have d3 : decide (most < (n : Int)) = false := by simp; omega
  have hq2 : s.tags.all (tgSmall most) = q := by
    rw [← HQ.out, decide_eq_true (p := (s.service.size : Int) ≤ most) (by omega), decide_eq_true (p := (s.name.size : Int) ≤ most) (by omega), decide_eq_true (p := (n : Int) ≤ most) (by omega)]
    simp
  have HQ2 := Lib.hid hq2
  clear hq2
  obtain ⟨w1, hw1⟩ : ∃ w1, w.alloc (.cells (spC s A n c) 27) = w1 := ⟨_, rfl⟩
  rw [hw1] at hb0 hf1 bk
  obtain ⟨g, hg⟩ : ∃ g, w.heap.size = g := ⟨_, rfl⟩
  rw [hg] at bk
  have HW := Lib.hid hw1
  have HG := Lib.hid hg
  have k10 : w1.cell? ⟨g, 10, none⟩ = some (.slice A n c) := bk.cell 10
  have k4 : w1.cell? ⟨g, 4, none⟩ = some (.string s.service) := bk.cell 4
  have k5 : w1.cell? ⟨g, 5, none⟩ = some (.string s.name) := bk.cell 5
  clear hw1 bk hg
  go_enter Try.func8, Try.ntmps8
  go_wp2_with fail
  rw [HW.out, HG.out]
  go_loopw [5] (fun iv_ wr => ∃ j : Nat, j ≤ n ∧ iv_ = .int .i64 j ∧ (s.tags.take j).all (tgSmall most) = true ∧ ∃ d, wr = w1.drewN d) (fun i _ => n - (intOf i).toNat)
  case atStart => exact ⟨0, by omega, rfl, rfl, 0, rfl⟩
  case round =>
    obtain ⟨j, hj, rfl, hall, d, rfl⟩ := hrel
    have HA := Lib.hid hall
    clear hall
    have k10' : (w1.drewN d).cell? ⟨g, 10, none⟩ = some (.slice A n c) := k10
    by_cases hlt : j < n
    · have hlt' : (j : Int) < (n : Int) := by omega
      obtain ⟨x, hx⟩ : ∃ x, s.tags[j]? = some x := ⟨_, List.getElem?_eq_getElem (by rw [HN.out]; exact hlt)⟩
      obtain ⟨b, o, rfl, hbb, c1, c2⟩ := RbT.get hf1 hx
      have c1' : (w1.drewN d).cell? ⟨b, o + j * 2, none⟩ = some (.string x.key) := c1
      have c2' : (w1.drewN d).cell? ⟨b, o + j * 2 + 1, none⟩ = some (.string x.val) := c2
      have HX := Lib.hid hx
      clear hx c1 c2
      have hno : tgSmall most x = false → q = false := fun h => by
        rw [← HQ2.out, List.all_eq_false]
        exact ⟨x, List.mem_of_getElem? HX.out, by rw [h]; simp⟩
      have HNO := Lib.hid hno
      clear hno
      by_cases g1 : most < (x.key.size : Int)
      · go_wp2
        all_goals go_ret
        all_goals exact ⟨by rw [HNO.out (by rw [tgSmall, decide_eq_false (p := (x.key.size : Int) ≤ most) (by omega)]; rfl)]; rfl, below_drewN hb0 _⟩
      have e1 : decide (most < (x.key.size : Int)) = false := by simp; omega
      by_cases g2 : most < (x.val.size : Int)
      · go_wp2
        all_goals go_ret
        all_goals exact ⟨by rw [HNO.out (by rw [tgSmall, decide_eq_false (p := (x.val.size : Int) ≤ most) (by omega)]; simp)]; rfl, below_drewN hb0 _⟩
      have e2 : decide (most < (x.val.size : Int)) = false := by simp; omega
      go_wp2
      go_roundw
      case rel => exact ⟨j + 1, by omega, by go_num, by rw [take_snoc HX.out, List.all_append, HA.out]; simp [tgSmall]; omega, _, rfl⟩
      case measure => simp [intOf]; omega
    · have hlt' : decide ((j : Int) < (n : Int)) = false := by simp; omega
      go_wp2
      go_ret
      have : q = true := by
        rw [← HQ2.out]
        have h1 := HA.out
        rwa [List.take_of_length_le (by rw [HN.out]; omega)] at h1
      exact ⟨by rw [this]; rfl, below_drewN hb0 _⟩
end Go.Proofs.Ytohnpogoldbplaa

/- Spans: the examples that each statement of layer 17 asks first. -/
namespace Go.Proofs.Ytohnpogoldbplaa
open Go.RowKit

def oneS : Sp := ⟨1, 255, 7, 0, ⟨#[97]⟩, ⟨#[120]⟩, 1, 300, 5, true, [⟨⟨#[107]⟩, ⟨#[118]⟩⟩]⟩
theorem one_chk : spChk oneS = 0 := by decide +kernel
theorem one_err : prErr (spEnc oneS) = 0 := by decide +kernel
theorem one_sp : (prAll (spEnc oneS)).1 = oneS := by decide +kernel
theorem zero_chk : spChk zeroSp = 2 := by decide +kernel
theorem one_trc : (strOfNums (idL 1) ++ strOfNums (idL 255)) = ⟨#[48, 48, 48, 48, 48, 48, 48, 48, 48, 48, 48, 48, 48, 48, 48, 49, 48, 48, 48, 48, 48, 48, 48, 48, 48, 48, 48, 48, 48, 48, 102, 102]⟩ := by decide +kernel
def OnePost (w : World) (e : Ending) (w' : World) : Prop := ∃ A, e = .returned (spV oneS A 1 1) ∧ RbT w' w'.heap.size A oneS.tags ∧ Below w.heap.size w w'
set_option maxRecDepth 100000 in
set_option maxHeartbeats 1000000 in
theorem lawOne (w : World) : Calls Try.prog 13 #[] w (OnePost w) := by
  go_enter Try.func13, Try.ntmps13
  go_wp2_with fail
  try simp only [Exit.inBlock, Exit.then]
  refine bodyPost_ret (results_cell_row rfl _ _ w.heap.size 27 (spC oneS (some ⟨w.heap.size + 1, 0, none⟩) 1 1) (0, 0) _ rfl ?_ Try.underlying27 rfl ?_) rfl ?_
  · show ((w.alloc _).alloc _).heap[w.heap.size]? = _
    rw [heap_alloc_old _ _ (h := by simp), heap_alloc_new]
    rfl
  · rfl
  · refine ⟨some ⟨w.heap.size + 1, 0, none⟩, rfl, ?_, ((Below.refl _ w).alloc (Nat.le_refl _) _).alloc (by simp) _⟩
    have h := Rd.lit' (w := w.alloc (.cells #[.int .u64 1, .int .u64 255, .int .u64 7, .int .u64 0, .string ⟨#[97]⟩, .string ⟨#[120]⟩, .int .i64 1, .int .i64 300, .int .i64 5, .bool true, .slice (some ⟨w.heap.size + 1, 0, none⟩) 1 1] 27)) (cs := #[.string ⟨#[107]⟩, .string ⟨#[118]⟩]) (t := 42) (g := w.heap.size + 1) (by simp)
    exact h.more (by simp)
end Go.Proofs.Ytohnpogoldbplaa

/- Spans: 'lives' answers true. -/
namespace Go.Proofs.Ytohnpogoldbplaa
open Go.RowKit

theorem Byt.nil : Byt [] := fun x hx => by simp at hx
theorem Byt.one {x : Int} (h0 : 0 ≤ x) (h1 : x ≤ 255) : Byt [x] := fun y hy => by simp at hy; omega
theorem pie_byt (s : ByteArray) : Byt (pie s) := (numEnc_byt _).append (nums_byt s)
theorem byt_flat {α : Type} {f : α → List Int} (l : List α) (h : ∀ x ∈ l, Byt (f x)) : Byt (l.flatMap f) := fun y hy => by
  obtain ⟨x, hx, hy⟩ := List.mem_flatMap.1 hy
  exact h x hx y hy
theorem spEnc_byt (s : Sp) : Byt (spEnc s) := by
  unfold spEnc spHead
  refine (((((byt_flat _ fun x _ => ordEnc_byt x).append ((pie_byt _).append (pie_byt _))).append (Byt.one (by omega) (by omega))).append ((numEnc_byt _).append (numEnc_byt _))).append ?_ |>.append (numEnc_byt _)).append (byt_flat _ fun t _ => (pie_byt _).append (pie_byt _))
  split
  · exact Byt.one (by omega) (by omega)
  · exact Byt.one (by omega) (by omega)
/-- The first field of a span: its trace. -/
theorem field_trace (W : World) (a b c d e f g h i j k : Value) : (Instr.field 27 (.agg #[a, b, c, d, e, f, g, h, i, j, k]) 0).run Try.prog W = .ok (.agg #[a, b]) W := by
  kernel_rfl
theorem one_u64 : oneS.U64 := by unfold Sp.U64 oneS; simp
theorem one_len : (spEnc oneS).length ≤ 1000 ∧ spEnc oneS ≠ [] := by decide +kernel

/-- The eleven cells of a span that lies in a block. -/
def Cells11 (g : Nat) (s : Sp) (A : Option Addr) (n c : Nat) (w' : World) : Prop := w'.cell? ⟨g, 0, none⟩ = some (.int .u64 s.hi) ∧ w'.cell? ⟨g, 1, none⟩ = some (.int .u64 s.lo) ∧ w'.cell? ⟨g, 2, none⟩ = some (.int .u64 s.id) ∧ w'.cell? ⟨g, 3, none⟩ = some (.int .u64 s.parent) ∧ w'.cell? ⟨g, 4, none⟩ = some (.string s.service) ∧ w'.cell? ⟨g, 5, none⟩ = some (.string s.name) ∧ w'.cell? ⟨g, 6, none⟩ = some (.int .i64 s.kind) ∧ w'.cell? ⟨g, 7, none⟩ = some (.int .i64 s.start) ∧ w'.cell? ⟨g, 8, none⟩ = some (.int .i64 s.length) ∧ w'.cell? ⟨g, 9, none⟩ = some (.bool s.fails) ∧ w'.cell? ⟨g, 10, none⟩ = some (.slice A n c)
theorem cells11 {w' : World} {g : Nat} {s : Sp} {A : Option Addr} {n c : Nat} (h : Bk w' g 27 (spC s A n c)) : w'.cell? ⟨g, 0, none⟩ = some (.int .u64 s.hi) ∧ w'.cell? ⟨g, 1, none⟩ = some (.int .u64 s.lo) ∧ w'.cell? ⟨g, 2, none⟩ = some (.int .u64 s.id) ∧ w'.cell? ⟨g, 3, none⟩ = some (.int .u64 s.parent) ∧ w'.cell? ⟨g, 4, none⟩ = some (.string s.service) ∧ w'.cell? ⟨g, 5, none⟩ = some (.string s.name) ∧ w'.cell? ⟨g, 6, none⟩ = some (.int .i64 s.kind) ∧ w'.cell? ⟨g, 7, none⟩ = some (.int .i64 s.start) ∧ w'.cell? ⟨g, 8, none⟩ = some (.int .i64 s.length) ∧ w'.cell? ⟨g, 9, none⟩ = some (.bool s.fails) ∧ w'.cell? ⟨g, 10, none⟩ = some (.slice A n c) :=
  ⟨h.cell 0, h.cell 1, h.cell 2, h.cell 3, h.cell 4, h.cell 5, h.cell 6, h.cell 7, h.cell 8, h.cell 9, h.cell 10⟩
theorem kitSameOne {A1 A2 : Option Addr} {c1 c2 n : Nat} (w : World) (hn : n = oneS.tags.length) (h1 : RbT w w.heap.size A1 oneS.tags) (h2 : RbT w w.heap.size A2 oneS.tags) : Calls Try.prog 11 #[spV oneS A1 n c1, spV oneS A2 1 c2] w fun e w' => e = .returned (.bool true) ∧ Below w.heap.size w w' := by
  subst hn
  have h := kitSameTags (c1 := c1) (c2 := c2) (n := 1) oneS oneS.tags oneS.tags w h1 h2 rfl rfl (Nat.le_refl _) (by omega)
  rw [decide_eq_true rfl] at h
  exact h
set_option maxRecDepth 100000 in
set_option maxHeartbeats 4000000 in
theorem lawLives (w : World) : Calls Try.prog 7 #[] w fun e w' => e = .returned (.bool true) ∧ Below w.heap.size w w' := by
  obtain ⟨E, hE⟩ : ∃ E, [] ++ spEnc oneS = E := ⟨_, rfl⟩
  have hE' : spEnc oneS = E := by rw [← hE]; rfl
  have e0 : prErr E = 0 := by rw [← hE']; exact one_err
  have e1 : prSp E = oneS := by rw [prSp, if_pos e0, ← hE']; exact one_sp
  have hEb : Byt E := by rw [← hE']; exact spEnc_byt _
  have hEl : E.length ≤ 1000 := by rw [← hE']; exact one_len.1
  have hEn : E ≠ [] := by rw [← hE']; exact one_len.2
  have HE := Lib.hid hE
  clear hE hE'
  go_enter Try.func7, Try.ntmps7
  go_wp2_with fail
  refine (lawOne w).mono ?_
  rintro e w1 ⟨A1, rfl, ht1, hb1⟩
  go_wp2_with fail
  refine (spAppend (zs := []) (n := 0) (B := w1.heap.size) oneS w1 Rd.nil (Nat.le_refl _) (by simp) (fun _ => ⟨rfl, rfl⟩) rfl ht1 rfl (by decide) one_u64).mono ?_
  rintro e w2 ⟨hb2, ⟨h, -⟩ | ⟨-, A2, c2, rfl, hr2, hc2, hf2⟩⟩
  · exact absurd one_chk h
  rw [HE.out] at hr2 hc2 ⊢
  have hs1 := hb1.size
  have hs2 := hb2.size
  have hb02 := hb1.trans (hb2.mono hs1)
  have hA2 : A2 = none → E = [] ∧ c2 = 0 := fun h => by
    obtain ⟨b, o, e, _, _⟩ := hr2 (by cases E with | nil => exact absurd rfl hEn | cons x l => simp [bv])
    rw [h] at e
    cases e
  obtain ⟨n2, hn2⟩ : ∃ n2, E.length = n2 := ⟨_, rfl⟩
  rw [hn2] at hc2 ⊢
  have HN2 := Lib.hid hn2
  clear hn2
  go_wp2_with fail
  refine (spParse w2 hr2 (Nat.le_refl _) hEb (by omega) hA2 HN2.out).mono ?_
  rintro e w3 ⟨A3, c3, rfl, ht3, hb3, hl3, hf3⟩
  rw [e1] at ht3 hl3 ⊢
  rw [e0]
  have hs3 := hb3.size
  have hb03 := hb02.trans (hb3.mono (by omega))
  clear hb1 hb2 hb02 hb3 hr2 hf2 hf3 hA2 ht1 e0 e1 hEb hEl hEn
  have hfld := fun W a b c d e f g h i j k => field_trace W a b c d e f g h i j k
  go_upto_region 3 with fail
  have bk := Bk.new w3 27 (spC oneS A3 oneS.tags.length c3)
  have ht4 := Rd.allocS ht3 (.cells (spC oneS A3 oneS.tags.length c3) 27)
  have hb04 := hb03.alloc (by omega) (.cells (spC oneS A3 oneS.tags.length c3) 27)
  have hs4 : (w3.alloc (.cells (spC oneS A3 oneS.tags.length c3) 27)).heap.size = w3.heap.size + 1 := by simp
  obtain ⟨W, hW⟩ : ∃ W, w3.alloc (.cells (spC oneS A3 oneS.tags.length c3) 27) = W := ⟨_, rfl⟩
  rw [hW] at bk ht4 hb04 hs4 ⊢
  obtain ⟨g, hg⟩ : ∃ g, w3.heap.size = g := ⟨_, rfl⟩
  rw [hg] at bk ⊢
  have bkd : Bk W.drew g 27 (spC oneS A3 oneS.tags.length c3) := bk.drew
  have htd : RbT W.drew W.drew.heap.size A3 oneS.tags := ht4
  have hbd : Below w.heap.size w W.drew := below_drewN hb04 1
  have hwd : w.heap.size ≤ W.drew.heap.size := hbd.size
  clear hW bk ht4 hb04 ht3 hs4 hb03
  go_region_held3 (fun w' => w'.cell? ⟨g, 0, none⟩ = some (.int .u64 oneS.hi) ∧ w'.cell? ⟨g, 1, none⟩ = some (.int .u64 oneS.lo) ∧ w'.cell? ⟨g, 2, none⟩ = some (.int .u64 oneS.id) ∧ w'.cell? ⟨g, 3, none⟩ = some (.int .u64 oneS.parent) ∧ w'.cell? ⟨g, 4, none⟩ = some (.string oneS.service) ∧ w'.cell? ⟨g, 5, none⟩ = some (.string oneS.name) ∧ w'.cell? ⟨g, 6, none⟩ = some (.int .i64 oneS.kind) ∧ w'.cell? ⟨g, 7, none⟩ = some (.int .i64 oneS.start) ∧ w'.cell? ⟨g, 8, none⟩ = some (.int .i64 oneS.length) ∧ w'.cell? ⟨g, 9, none⟩ = some (.bool oneS.fails) ∧ w'.cell? ⟨g, 10, none⟩ = some (.slice A3 oneS.tags.length c3))
    (exact cells11 (by assumption))
    (first
      | (go_at_call 13
         refine (lawOne W.drew).mono ?_
         rintro e w5 ⟨A5, rfl, ht5, hb5⟩
         have b5 := bkd.below hb5 bkd.lt
         have htd5 := Rd.belowS htd hb5
         have hb05 := hbd.trans (hb5.mono hwd)
         have hw5 := hb05.size)
      | (go_at_call 11
         refine (kitSameOne (n := oneS.tags.length) w5 rfl htd5 ht5).mono ?_
         rintro e w6 ⟨rfl, hb6⟩
         have b6 := b5.below hb6 b5.lt
         have hb06 := hb05.trans (hb6.mono hw5)
         have hw6 := hb06.size)
      | (go_at_call 13
         refine (lawOne w6).mono ?_
         rintro e w7 ⟨A7, rfl, ht7, hb7⟩
         rw [show spV oneS A7 1 1 = .agg #[.int .u64 1, .int .u64 255, .int .u64 7, .int .u64 0, .string ⟨#[97]⟩, .string ⟨#[120]⟩, .int .i64 1, .int .i64 300, .int .i64 5, .bool true, .slice A7 1 1] from rfl]
         have b7 := b6.below hb7 b6.lt
         have hb07 := hb06.trans (hb7.mono hw6)
         have hw7 := hb07.size)
      | (go_at_call 26
         refine (spTraceText (hi := 1) (lo := 255) w7 (by decide) (by decide)).mono ?_
         rintro e w8 ⟨rfl, hb8⟩
         rw [one_trc]
         have b8 := b7.below hb8 b7.lt
         have hb08 := hb07.trans (hb8.mono hw7)
         have hw8 := hb08.size)
      | (go_at_call 14
         refine (spCheck (A := none) (c := 0) (n := 0) (B := 0) zeroSp w8 Rd.nil rfl (Nat.zero_le _) (by decide)).mono ?_
         rintro e w9 ⟨rfl, hb9⟩
         rw [zero_chk]
         have b9 := b8.below hb9 b8.lt
         have hb09 := hb08.trans (hb9.mono hw8))
      | fail)
  all_goals
    go_wp2
    go_ret
    exact ⟨rfl, hb09⟩
end Go.Proofs.Ytohnpogoldbplaa

/- Spans: bootprintkit.SameSpan of two spans that are unlike, part. -/
namespace Go.Proofs.Ytohnpogoldbplaa
open Go.RowKit

set_option maxRecDepth 100000 in
set_option maxHeartbeats 8000000 in
theorem kitSameNeA {A1 A2 : Option Addr} {c1 c2 n m B : Nat} (a b : Sp) (w : World) (hf : RbT w B A1 a.tags) (hg : RbT w B A2 b.tags) (hn : a.tags.length = n) (hm : b.tags.length = m) (hB : B ≤ w.heap.size) (hcase : (a.hi ≠ b.hi) ∨ (a.hi = b.hi ∧ a.lo ≠ b.lo) ∨ (a.hi = b.hi ∧ a.lo = b.lo ∧ a.id ≠ b.id) ∨ (a.hi = b.hi ∧ a.lo = b.lo ∧ a.id = b.id ∧ a.parent ≠ b.parent)) (hnl : n ≤ 9223372036854775807) (hml : m ≤ 9223372036854775807) :
    Calls Try.prog 11 #[spV a A1 n c1, spV b A2 m c2] w fun e w' => e = .returned (.bool false) ∧ Below w.heap.size w w' := by
  have HCASE := Lib.hid hcase
  have hb0 : Below w.heap.size w ((w.alloc (.cells (spC a A1 n c1) 27)).alloc (.cells (spC b A2 m c2) 27)) := ((Below.refl _ w).alloc (Nat.le_refl _) _).alloc (by simp) _
  have bk1 := (Bk.new w 27 (spC a A1 n c1)).alloc (.cells (spC b A2 m c2) 27)
  have bk2 := Bk.new (w.alloc (.cells (spC a A1 n c1) 27)) 27 (spC b A2 m c2)
  rw [World.size_alloc] at bk2
  obtain ⟨w1, hw1⟩ : ∃ w1, ((w.alloc (.cells (spC a A1 n c1) 27)).alloc (.cells (spC b A2 m c2) 27)) = w1 := ⟨_, rfl⟩
  rw [hw1] at hb0 bk1 bk2
  have HW := Lib.hid hw1
  obtain ⟨g, hgq⟩ : ∃ g, w.heap.size = g := ⟨_, rfl⟩
  rw [hgq] at bk1 bk2
  have HG := Lib.hid hgq
  have kp0 : w1.cell? ⟨g, 0, none⟩ = some (.int .u64 a.hi) := bk1.cell 0
  have kp1 : w1.cell? ⟨g, 1, none⟩ = some (.int .u64 a.lo) := bk1.cell 1
  have kp2 : w1.cell? ⟨g, 2, none⟩ = some (.int .u64 a.id) := bk1.cell 2
  have kp3 : w1.cell? ⟨g, 3, none⟩ = some (.int .u64 a.parent) := bk1.cell 3
  have kp4 : w1.cell? ⟨g, 4, none⟩ = some (.string a.service) := bk1.cell 4
  have kp5 : w1.cell? ⟨g, 5, none⟩ = some (.string a.name) := bk1.cell 5
  have kp6 : w1.cell? ⟨g, 6, none⟩ = some (.int .i64 a.kind) := bk1.cell 6
  have kp7 : w1.cell? ⟨g, 7, none⟩ = some (.int .i64 a.start) := bk1.cell 7
  have kp8 : w1.cell? ⟨g, 8, none⟩ = some (.int .i64 a.length) := bk1.cell 8
  have kp9 : w1.cell? ⟨g, 9, none⟩ = some (.bool a.fails) := bk1.cell 9
  have kp10 : w1.cell? ⟨g, 10, none⟩ = some (.slice A1 n c1) := bk1.cell 10
  have kq0 : w1.cell? ⟨g + 1, 0, none⟩ = some (.int .u64 b.hi) := bk2.cell 0
  have kq1 : w1.cell? ⟨g + 1, 1, none⟩ = some (.int .u64 b.lo) := bk2.cell 1
  have kq2 : w1.cell? ⟨g + 1, 2, none⟩ = some (.int .u64 b.id) := bk2.cell 2
  have kq3 : w1.cell? ⟨g + 1, 3, none⟩ = some (.int .u64 b.parent) := bk2.cell 3
  have kq4 : w1.cell? ⟨g + 1, 4, none⟩ = some (.string b.service) := bk2.cell 4
  have kq5 : w1.cell? ⟨g + 1, 5, none⟩ = some (.string b.name) := bk2.cell 5
  have kq6 : w1.cell? ⟨g + 1, 6, none⟩ = some (.int .i64 b.kind) := bk2.cell 6
  have kq7 : w1.cell? ⟨g + 1, 7, none⟩ = some (.int .i64 b.start) := bk2.cell 7
  have kq8 : w1.cell? ⟨g + 1, 8, none⟩ = some (.int .i64 b.length) := bk2.cell 8
  have kq9 : w1.cell? ⟨g + 1, 9, none⟩ = some (.bool b.fails) := bk2.cell 9
  have kq10 : w1.cell? ⟨g + 1, 10, none⟩ = some (.slice A2 m c2) := bk2.cell 10
  clear hw1 bk1 bk2 hgq hf hg hn hm hcase
  go_enter Try.func11, Try.ntmps11
  go_upto_region 1 with fail
  rw [HW.out, HG.out]
  have hcase := HCASE.out
  clear HCASE
  rcases hcase with x1 | ⟨x1, x2⟩ | ⟨x1, x2, x3⟩ | ⟨x1, x2, x3, x4⟩
  · have d : ((a.hi : Int) != (b.hi : Int)) = true := by rw [bne_iff_ne]; omega
    have d' : ((a.hi : Int) == (b.hi : Int)) = false := by rw [beq_eq_false_iff_ne]; omega
    go_wp2
    go_ret
    exact ⟨rfl, hb0⟩
  · have d : ((a.lo : Int) != (b.lo : Int)) = true := by rw [bne_iff_ne]; omega
    have d' : ((a.lo : Int) == (b.lo : Int)) = false := by rw [beq_eq_false_iff_ne]; omega
    go_wp2
    go_ret
    exact ⟨rfl, hb0⟩
  · have d : ((a.id : Int) != (b.id : Int)) = true := by rw [bne_iff_ne]; omega
    have d' : ((a.id : Int) == (b.id : Int)) = false := by rw [beq_eq_false_iff_ne]; omega
    go_wp2
    go_ret
    exact ⟨rfl, hb0⟩
  · have d : ((a.parent : Int) != (b.parent : Int)) = true := by rw [bne_iff_ne]; omega
    have d' : ((a.parent : Int) == (b.parent : Int)) = false := by rw [beq_eq_false_iff_ne]; omega
    go_wp2
    go_ret
    exact ⟨rfl, hb0⟩
end Go.Proofs.Ytohnpogoldbplaa

/- Spans: bootprintkit.SameSpan of two spans that are unlike, part. -/
namespace Go.Proofs.Ytohnpogoldbplaa
open Go.RowKit

set_option maxRecDepth 100000 in
set_option maxHeartbeats 8000000 in
theorem kitSameNeB {A1 A2 : Option Addr} {c1 c2 n m B : Nat} (a b : Sp) (w : World) (hf : RbT w B A1 a.tags) (hg : RbT w B A2 b.tags) (hn : a.tags.length = n) (hm : b.tags.length = m) (hB : B ≤ w.heap.size) (hcase : (a.hi = b.hi ∧ a.lo = b.lo ∧ a.id = b.id ∧ a.parent = b.parent ∧ a.service ≠ b.service) ∨ (a.hi = b.hi ∧ a.lo = b.lo ∧ a.id = b.id ∧ a.parent = b.parent ∧ a.service = b.service ∧ a.name ≠ b.name) ∨ (a.hi = b.hi ∧ a.lo = b.lo ∧ a.id = b.id ∧ a.parent = b.parent ∧ a.service = b.service ∧ a.name = b.name ∧ a.kind ≠ b.kind) ∨ (a.hi = b.hi ∧ a.lo = b.lo ∧ a.id = b.id ∧ a.parent = b.parent ∧ a.service = b.service ∧ a.name = b.name ∧ a.kind = b.kind ∧ a.start ≠ b.start)) (hnl : n ≤ 9223372036854775807) (hml : m ≤ 9223372036854775807) :
    Calls Try.prog 11 #[spV a A1 n c1, spV b A2 m c2] w fun e w' => e = .returned (.bool false) ∧ Below w.heap.size w w' := by
  have HCASE := Lib.hid hcase
  have hb0 : Below w.heap.size w ((w.alloc (.cells (spC a A1 n c1) 27)).alloc (.cells (spC b A2 m c2) 27)) := ((Below.refl _ w).alloc (Nat.le_refl _) _).alloc (by simp) _
  have bk1 := (Bk.new w 27 (spC a A1 n c1)).alloc (.cells (spC b A2 m c2) 27)
  have bk2 := Bk.new (w.alloc (.cells (spC a A1 n c1) 27)) 27 (spC b A2 m c2)
  rw [World.size_alloc] at bk2
  obtain ⟨w1, hw1⟩ : ∃ w1, ((w.alloc (.cells (spC a A1 n c1) 27)).alloc (.cells (spC b A2 m c2) 27)) = w1 := ⟨_, rfl⟩
  rw [hw1] at hb0 bk1 bk2
  have HW := Lib.hid hw1
  obtain ⟨g, hgq⟩ : ∃ g, w.heap.size = g := ⟨_, rfl⟩
  rw [hgq] at bk1 bk2
  have HG := Lib.hid hgq
  have kp0 : w1.cell? ⟨g, 0, none⟩ = some (.int .u64 a.hi) := bk1.cell 0
  have kp1 : w1.cell? ⟨g, 1, none⟩ = some (.int .u64 a.lo) := bk1.cell 1
  have kp2 : w1.cell? ⟨g, 2, none⟩ = some (.int .u64 a.id) := bk1.cell 2
  have kp3 : w1.cell? ⟨g, 3, none⟩ = some (.int .u64 a.parent) := bk1.cell 3
  have kp4 : w1.cell? ⟨g, 4, none⟩ = some (.string a.service) := bk1.cell 4
  have kp5 : w1.cell? ⟨g, 5, none⟩ = some (.string a.name) := bk1.cell 5
  have kp6 : w1.cell? ⟨g, 6, none⟩ = some (.int .i64 a.kind) := bk1.cell 6
  have kp7 : w1.cell? ⟨g, 7, none⟩ = some (.int .i64 a.start) := bk1.cell 7
  have kp8 : w1.cell? ⟨g, 8, none⟩ = some (.int .i64 a.length) := bk1.cell 8
  have kp9 : w1.cell? ⟨g, 9, none⟩ = some (.bool a.fails) := bk1.cell 9
  have kp10 : w1.cell? ⟨g, 10, none⟩ = some (.slice A1 n c1) := bk1.cell 10
  have kq0 : w1.cell? ⟨g + 1, 0, none⟩ = some (.int .u64 b.hi) := bk2.cell 0
  have kq1 : w1.cell? ⟨g + 1, 1, none⟩ = some (.int .u64 b.lo) := bk2.cell 1
  have kq2 : w1.cell? ⟨g + 1, 2, none⟩ = some (.int .u64 b.id) := bk2.cell 2
  have kq3 : w1.cell? ⟨g + 1, 3, none⟩ = some (.int .u64 b.parent) := bk2.cell 3
  have kq4 : w1.cell? ⟨g + 1, 4, none⟩ = some (.string b.service) := bk2.cell 4
  have kq5 : w1.cell? ⟨g + 1, 5, none⟩ = some (.string b.name) := bk2.cell 5
  have kq6 : w1.cell? ⟨g + 1, 6, none⟩ = some (.int .i64 b.kind) := bk2.cell 6
  have kq7 : w1.cell? ⟨g + 1, 7, none⟩ = some (.int .i64 b.start) := bk2.cell 7
  have kq8 : w1.cell? ⟨g + 1, 8, none⟩ = some (.int .i64 b.length) := bk2.cell 8
  have kq9 : w1.cell? ⟨g + 1, 9, none⟩ = some (.bool b.fails) := bk2.cell 9
  have kq10 : w1.cell? ⟨g + 1, 10, none⟩ = some (.slice A2 m c2) := bk2.cell 10
  clear hw1 bk1 bk2 hgq hf hg hn hm hcase
  go_enter Try.func11, Try.ntmps11
  go_upto_region 1 with fail
  rw [HW.out, HG.out]
  have hcase := HCASE.out
  clear HCASE
  rcases hcase with ⟨x1, x2, x3, x4, x5⟩ | ⟨x1, x2, x3, x4, x5, x6⟩ | ⟨x1, x2, x3, x4, x5, x6, x7⟩ | ⟨x1, x2, x3, x4, x5, x6, x7, x8⟩
  · have d : (a.service.toList == b.service.toList) = false := by rw [strEq_of]; simpa using x5
    go_wp2
    go_ret
    exact ⟨rfl, hb0⟩
  · have d : (a.name.toList == b.name.toList) = false := by rw [strEq_of]; simpa using x6
    go_wp2
    go_ret
    exact ⟨rfl, hb0⟩
  · have d : ((a.kind : Int) != (b.kind : Int)) = true := by rw [bne_iff_ne]; omega
    have d' : ((a.kind : Int) == (b.kind : Int)) = false := by rw [beq_eq_false_iff_ne]; omega
    go_wp2
    go_ret
    exact ⟨rfl, hb0⟩
  · have d : ((a.start : Int) != (b.start : Int)) = true := by rw [bne_iff_ne]; omega
    have d' : ((a.start : Int) == (b.start : Int)) = false := by rw [beq_eq_false_iff_ne]; omega
    go_wp2
    go_ret
    exact ⟨rfl, hb0⟩
end Go.Proofs.Ytohnpogoldbplaa
