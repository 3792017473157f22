/- Spans: the walk of Append. -/
import Derived.Test.YtlamebbolioljaaSpB
namespace Go.Proofs.Ytlamebbolioljaa
open Go.RowKit

theorem ordsLen (l : List Nat) : (l.flatMap ordEnc).length = l.length * 8 := by
  induction l with
  | nil => rfl
  | cons x l ih => rw [List.flatMap_cons, List.length_append, ih, ordEnc_len, List.length_cons]; omega
theorem own_downK {w : World} {base base' size n : Nat} {e : TypeId} {v : Value} {xs : List Value} (h : w.ownsRow base e size v n xs) (hb : base' ≤ base) : w.ownsRow base' e size v n xs :=
  ⟨h.1, h.2.imp id fun ⟨g, cap, cur, hv, hg, r⟩ => ⟨g, cap, cur, hv, Nat.le_trans hb hg, r⟩⟩
/-- Append's answer: a row of its own. -/
def AppPost2 (w : World) (zs : List Int) (s : Sp) (e : Ending) (w' : World) : Prop :=
  Below w.heap.size w w' ∧ ((spChk s ≠ 0 ∧ e = .returned (.tuple #[.slice none 0 0, .int .i64 (spChk s)])) ∨
    (spChk s = 0 ∧ ∃ A' c', e = .returned (.tuple #[.slice A' (zs ++ spEnc s).length c', .int .i64 0]) ∧ w'.ownsRow w.heap.size 5 1 (.slice A' (zs ++ spEnc s).length c') (zs ++ spEnc s).length (bv (zs ++ spEnc s)) ∧ (zs ++ spEnc s).length ≤ c'))
set_option maxRecDepth 100000 in
set_option maxHeartbeats 4000000 in
theorem spAppend2 {A0 At : Option Addr} {c0 ct B n nt : Nat} {zs : List Int} (s : Sp) (w : World) (ha : Rb w B A0 zs) (hB : B ≤ w.heap.size) (hz : zs.length ≤ 1099511627776) (hc : A0 = none → zs = [] ∧ c0 = 0) (hn : zs.length = n)
    (hf : RbT w B At s.tags) (hnt : s.tags.length = nt) (hnl : nt ≤ 9223372036854775807) (hu : s.U64) :
    Calls Try.prog 53 #[.slice A0 n c0, spV s At nt ct] w (AppPost2 w zs s) := by
  have hb0 : Below w.heap.size w (w.alloc (.cells (spC s At nt ct) 43)) := (Below.refl _ w).alloc (Nat.le_refl _) _
  have hf1 := Rd.alloc hf hB (.cells (spC s At nt ct) 43)
  have ha1 := Rd.alloc ha hB (.cells (spC s At nt ct) 43)
  have bk := Bk.new w 43 (spC s At nt ct)
  have hs1 : (w.alloc (.cells (spC s At nt ct) 43)).heap.size = w.heap.size + 1 := by simp
  obtain ⟨w1, hw1⟩ : ∃ w1, w.alloc (.cells (spC s At nt ct) 43) = w1 := ⟨_, rfl⟩
  rw [hw1] at hb0 hf1 ha1 bk hs1
  have HW := Lib.hid hw1
  have hc1 := spCheck (c := ct) s w1 hf1 hnt (by omega) hnl
  obtain ⟨k, hk⟩ : ∃ k, spChk s = k := ⟨_, rfl⟩
  rw [hk] at hc1
  have HC := Lib.hid hc1
  have HK := Lib.hid hk
  have HN := Lib.hid hn
  have HNT := Lib.hid hnt
  clear hw1 hc1 hk hn hnt
  go_enter Try.func53, Try.ntmps53
  go_wp2_with fail
  rw [HW.out]
  refine HC.out.mono ?_
  rintro e w2 ⟨rfl, hb2⟩
  have hs2 := hb2.size
  have hb02 := hb0.trans (hb2.mono (by omega))
  have hf2 := Rd.below hf1 (hb2.mono (by omega))
  have ha2 := Rd.below ha1 (hb2.mono (by omega))
  have bk2 := bk.below hb2 (by omega)
  clear bk hf1 ha1 hb0 HW hb2 ha hf HC
  by_cases hk0 : k = 0
  case neg =>
    have hk1 : ((k : Int) != 0) = true := by rw [bne_iff_ne]; omega
    go_wp2
    go_ret2
    exact ⟨hb02, .inl ⟨by rw [HK.out]; exact hk0, by rw [HK.out]; rfl⟩⟩
  subst hk0
  -- what Check has seen
  have hk := HK.out
  have hlong : longB s = false := by
    cases h : longB s with
    | false => rfl
    | true => rw [spChk, if_pos h] at hk; cases hk
  have hhead : headB s = true := by
    cases h : headB s with
    | true => rfl
    | false => rw [spChk, if_neg (by rw [hlong]; simp), h] at hk; simp at hk
  simp only [headB, Bool.and_eq_true, Bool.or_eq_true, decide_eq_true_eq, ne_eq] at hhead
  obtain ⟨⟨⟨⟨⟨⟨⟨⟨⟨h0, h1⟩, h2⟩, h3⟩, h4⟩, h5⟩, h6⟩, h7⟩, h8⟩, h9⟩ := hhead
  simp only [longB, Bool.or_eq_false_iff, decide_eq_false_iff_not] at hlong
  obtain ⟨⟨⟨l1, l2⟩, l3⟩, l4⟩ := hlong
  have hnt16 : nt ≤ 16 := by have := HNT.out; omega
  have L4 : Hid (∀ t ∈ s.tags, t.key.size ≤ 128 ∧ t.val.size ≤ 128) := fun t ht => by
    have := List.any_eq_false.1 l4 t ht
    simp [tgLong] at this
    exact this
  have L1 := Lib.hid l1
  have L2 := Lib.hid l2
  have HH := Lib.hid (And.intro h6 (And.intro h7 (And.intro h8 h9)))
  clear hk h0 h1 h2 h3 l1 l2 l3 l4 hnl h8 h9
  obtain ⟨g, hg⟩ : ∃ g, w.heap.size = g := ⟨_, rfl⟩
  have hgl := bk2.lt
  rw [hg] at bk2 hgl ⊢
  have k0 : w2.cell? ⟨g, 0, none⟩ = some (.int .u64 s.hi) := bk2.cell 0
  go_wp2_with fail
  refine (slClone w2 ha2 (by omega) (by omega) hc HN.out).mono ?_
  rintro e w3 ⟨A3, c3, rfl, happ, hne⟩
  have HB : Hid (Bk w2 g 43 (spC s At nt ct)) := bk2
  have HF : Hid (RbT w2 B At s.tags) := hf2
  have HBW := Lib.hid hb02
  have bk3 := bk2.below happ.below0 hgl
  have k0 : w3.cell? ⟨g, 0, none⟩ = some (.int .u64 s.hi) := bk3.cell 0
  have k1 : w3.cell? ⟨g, 1, none⟩ = some (.int .u64 s.lo) := bk3.cell 1
  have k2 : w3.cell? ⟨g, 2, none⟩ = some (.int .u64 s.id) := bk3.cell 2
  have k3 : w3.cell? ⟨g, 3, none⟩ = some (.int .u64 s.parent) := bk3.cell 3
  clear bk2 hf2 hb02 ha2 bk3
  go_wp2_with fail
  have happ4 := happ.alloc (.cells #[.int .u64 s.hi, .int .u64 s.lo, .int .u64 s.id, .int .u64 s.parent] 22)
  have bq := Bk.new w3 22 #[.int .u64 s.hi, .int .u64 s.lo, .int .u64 s.id, .int .u64 s.parent]
  have hq2 : w2.heap.size ≤ w3.heap.size := happ.heap
  have hqa : ∀ a, A3 = some a → a.block < w3.heap.size := fun a ha => (happ.lo a ha).2
  obtain ⟨w4, hw4⟩ : ∃ w4, w3.alloc (.cells #[.int .u64 s.hi, .int .u64 s.lo, .int .u64 s.id, .int .u64 s.parent] 22) = w4 := ⟨_, rfl⟩
  rw [hw4] at happ4 bq ⊢
  obtain ⟨q, hq⟩ : ∃ q, w3.heap.size = q := ⟨_, rfl⟩
  rw [hq] at bq hq2 hqa ⊢
  have hfetch : ∀ j, j < 4 → ∃ x : Nat, [s.hi, s.lo, s.id, s.parent][j]? = some x ∧ x < 18446744073709551616 ∧ (#[.int .u64 s.hi, .int .u64 s.lo, .int .u64 s.id, .int .u64 s.parent] : Array Value)[j]? = some (.int .u64 (x : Nat)) := by
    intro j hj
    obtain ⟨u1, u2, u3, u4⟩ := hu
    match j, hj with
    | 0, _ => exact ⟨_, rfl, u1, rfl⟩
    | 1, _ => exact ⟨_, rfl, u2, rfl⟩
    | 2, _ => exact ⟨_, rfl, u3, rfl⟩
    | 3, _ => exact ⟨_, rfl, u4, rfl⟩
  have HFE := Lib.hid hfetch
  have HQA := Lib.hid hqa
  have HAP := Lib.hid happ4
  clear hfetch hqa hw4 hq happ k0 k1 k2 k3 happ4 hu
  go_loopw [7, 31] (fun v iv_ wr => ∃ (A' : Option Addr) (c' m j : Nat), j ≤ 4 ∧ v = .slice A' m c' ∧ iv_ = .int .i64 j ∧ m = n + j * 8 ∧ App w2.heap.size 5 1 w2 (.slice none 0 0) wr (.slice A' m c') m (bv (zs ++ ([s.hi, s.lo, s.id, s.parent].take j).flatMap ordEnc)) ∧
    Bk wr q 22 #[.int .u64 s.hi, .int .u64 s.lo, .int .u64 s.id, .int .u64 s.parent] ∧ (∀ a, A' = some a → a.block ≠ q)) (fun _ i _ => 4 - (intOf i).toNat)
  case atStart => exact ⟨A3, c3, n, 0, by omega, rfl, rfl, by omega, by simpa using HAP.out, bq, fun a ha => by have := HQA.out a ha; omega⟩
  case round =>
    obtain ⟨A', c', m, j, hj, rfl, rfl, hm, happ, bqr, hfar⟩ := hrel
    have HM := Lib.hid hm
    have hmb : m + 1000 ≤ 140737488355328 := by have := HN.out; omega
    clear hm bq
    by_cases hlt : j < 4
    · have hlt' : (j : Int) < 4 := by omega
      obtain ⟨x, hx1, hx2, hx3⟩ := HFE.out j hlt
      have hcell : wr.cell? ⟨q, j, none⟩ = some (.int .u64 (x : Nat)) := (bqr.cell j).trans hx3
      have HX := Lib.hid hx1
      clear hx1 hx3
      go_wp2_with fail
      refine (wireOrdered wr happ.own happ.heap hx2 (by omega)).mono ?_
      rintro e w5 ⟨A5, c5, rfl, happ5, -⟩
      have h5 := happ.trans happ5
      have e1 : zs ++ ([s.hi, s.lo, s.id, s.parent].take j).flatMap ordEnc ++ ordEnc x = zs ++ ([s.hi, s.lo, s.id, s.parent].take (j + 1)).flatMap ordEnc := by
        rw [take_snoc HX.out, List.flatMap_append, List.flatMap_cons, List.flatMap_nil, List.append_nil, List.append_assoc]
      rw [e1] at h5
      have b5 : Bk w5 q 22 #[.int .u64 s.hi, .int .u64 s.lo, .int .u64 s.id, .int .u64 s.parent] := bqr.grown happ5.grown (fun e => by
        cases A' with
        | none => cases e
        | some a => exact hfar a rfl (Option.some.inj e).symm)
      have f5 : ∀ a, A5 = some a → a.block ≠ q := fun a ha e => by
        subst ha
        rcases happ5.block with h | ⟨r, h1, h2⟩
        · cases A' with
          | none => cases h
          | some b => exact hfar b rfl ((Option.some.inj h).symm.trans e)
        · have := bqr.lt
          have : a.block = r := Option.some.inj h1
          omega
      have HB5 := Lib.hid b5
      have HF5 := Lib.hid f5
      have H5 := Lib.hid h5
      clear e1 happ5 b5 f5 hfar bqr happ h5
      go_wp2
      go_roundw
      case rel => exact ⟨A5, c5, m + 8, j + 1, by omega, rfl, by go_num, by have := HM.out; omega, H5.out, HB5.out, HF5.out⟩
      case measure => simp [intOf]; omega
    · have hlt' : decide ((j : Int) < 4) = false := by simp; omega
      obtain rfl : j = 4 := by omega
      clear hfar bqr HFE HQA HAP
      have e1 : [s.hi, s.lo, s.id, s.parent].take 4 = [s.hi, s.lo, s.id, s.parent] := rfl
      rw [e1] at happ
      obtain ⟨y0, hy0⟩ : ∃ y0, zs ++ [s.hi, s.lo, s.id, s.parent].flatMap ordEnc = y0 := ⟨_, rfl⟩
      rw [hy0] at happ
      have hm0 : m ≤ 1099511627776 + 32 := by have := HM.out; have := HN.out; omega
      have bkr := HB.out.below happ.below0 hgl
      have k4 : wr.cell? ⟨g, 4, none⟩ = some (.string s.service) := bkr.cell 4
      have k5 : wr.cell? ⟨g, 5, none⟩ = some (.string s.name) := bkr.cell 5
      have HY0 := Lib.hid hy0
      clear hy0 bkr HM hmb
      go_wp2_with fail
      refine (spPieces (k := 2) (ls := [s.service, s.name]) _ (happ.own.alloc (.cells #[.string s.service, .string s.name] 9)) (by have := happ.heap; simp; omega) (fun i t ht => ?_) rfl (by simp) ?_ ?_ (by omega)).mono ?_
      · have hb := (Bk.new wr 9 #[.string s.service, .string s.name]).cell i
        rw [hb]
        match i, ht with
        | 0, ht => cases ht; rfl
        | 1, ht => cases ht; rfl
      · intro e
        cases A' with
        | none => cases e
        | some a =>
          have := (happ.own.lt a.block rfl).2
          have : a.block = wr.heap.size := Option.some.inj e
          omega
      · intro t ht
        have := L1.out
        have := L2.out
        simp at ht
        rcases ht with rfl | rfl <;> omega
      rintro e w5 ⟨A5, c5, rfl, happ5, -⟩
      have h5 := (happ.alloc (.cells #[.string s.service, .string s.name] 9)).trans happ5
      have epp : [s.service, s.name].flatMap pie = pie s.service ++ pie s.name := by simp
      rw [epp] at h5 ⊢
      obtain ⟨m5, hm5⟩ : ∃ m5, m + (pie s.service ++ pie s.name).length = m5 := ⟨_, rfl⟩
      have hm5b : m5 ≤ 1099511627776 + 400 := by
        have h1 := pie_len s.service (by have := L1.out; omega)
        have h2 := pie_len s.name (by have := L2.out; omega)
        have := L1.out
        have := L2.out
        rw [← hm5, List.length_append]
        omega
      obtain ⟨y5, hy5⟩ : ∃ y5, y0 ++ (pie s.service ++ pie s.name) = y5 := ⟨_, rfl⟩
      rw [hm5, hy5] at h5
      rw [hm5]
      have HY5 := Lib.hid hy5
      clear hm5 hy5 happ5 happ epp k4 k5 hm0
      have bk5 := HB.out.below h5.below0 hgl
      have k6 : w5.cell? ⟨g, 6, none⟩ = some (.int .i64 s.kind) := bk5.cell 6
      clear bk5
      go_wp2_with (at_builtin; go_loud (refine wpList_appb _ rfl (.tmp 46) (.tmp 50) rfl w2.heap.size _ m5 y5 rfl (h5.own.alloc _) _ _ 1 1 [s.kind] rfl rfl (Rd.lit _ _ _) (by omega) (by have := h5.heap; simp; omega) ?_))
      intro A6 c6 w6 h6' hne6
      have h6 := (h5.alloc (.cells #[.int .u8 s.kind] 5)).trans h6'
      clear h5 h6' hne6 k6
      obtain ⟨y6, hy6⟩ : ∃ y6, y5 ++ [s.kind] = y6 := ⟨_, rfl⟩
      obtain ⟨m6, hm6⟩ : ∃ m6, m5 + 1 = m6 := ⟨_, rfl⟩
      rw [hy6, hm6] at h6
      rw [hm6]
      have hm6b : m6 ≤ 1099511627776 + 401 := by omega
      have HY6 := Lib.hid hy6
      clear hy6 hm6 hm5b
      have bk6 := HB.out.below h6.below0 hgl
      have k7 : w6.cell? ⟨g, 7, none⟩ = some (.int .i64 s.start) := bk6.cell 7
      have k8 : w6.cell? ⟨g, 8, none⟩ = some (.int .i64 s.length) := bk6.cell 8
      obtain ⟨r1, r2, r3, r4⟩ := HH.out
      obtain ⟨a1, ha1⟩ : ∃ a1 : Nat, s.start = a1 := ⟨s.start.toNat, by omega⟩
      obtain ⟨a2, ha2⟩ : ∃ a2 : Nat, s.length = a2 := ⟨s.length.toNat, by omega⟩
      rw [ha1] at k7
      rw [ha2] at k8
      have hl1 := numEnc_u64 (x := a1) (by omega)
      have hl2 := numEnc_u64 (x := a2) (by omega)
      have ha1b : a1 ≤ 4611686018427387903 := by omega
      have ha2b : a2 ≤ 4611686018427387903 := by omega
      have hwr1 : IntKind.u64.wrap (a1 : Int) = (a1 : Int) := IntWalk.u64_in _ ⟨by omega, by omega⟩
      have hwr2 : IntKind.u64.wrap (a2 : Int) = (a2 : Int) := IntWalk.u64_in _ ⟨by omega, by omega⟩
      have hle6 : w2.heap.size ≤ w6.drew.heap.size := h6.heap
      have hx1 : a1 < 18446744073709551616 := by omega
      have hx2 : a2 < 18446744073709551616 := by omega
      have hmb6 : m6 + 10 ≤ 140737488355328 := by omega
      have hmb7 : m6 + (numEnc a1).length + 10 ≤ 140737488355328 := by omega
      have HA1 := Lib.hid ha1
      have HA2 := Lib.hid ha2
      clear bk6 ha1 ha2 r1 r2 r3 r4
      go_wp2_with fail
      go_region_held3 (fun w' => w'.cell? ⟨g, 7, none⟩ = some (.int .i64 a1) ∧ w'.cell? ⟨g, 8, none⟩ = some (.int .i64 a2)) (go_keep)
        (first
          | (go_at_call_of 62 (Value.int .u64 (a1 : Nat))
             refine (wireNumber (base := w2.heap.size) (x := a1) (xs := y6) _ h6.drew.own hle6 hx1 hmb6).mono ?_
             rintro e w7 ⟨A7, c7, rfl, happ7, -⟩
             have h7 := (h6.drew).trans happ7
             have k7' : w7.cell? ⟨g, 7, none⟩ = some (.int .i64 a1) := ((HB.out.below h7.below0 hgl).cell 7).trans (by rw [← HA1.out]; rfl)
             have k8' : w7.cell? ⟨g, 8, none⟩ = some (.int .i64 a2) := ((HB.out.below h7.below0 hgl).cell 8).trans (by rw [← HA2.out]; rfl))
          | (go_at_call_of 62 (Value.int .u64 (a2 : Nat))
             refine (wireNumber (base := w2.heap.size) (x := a2) (xs := y6 ++ numEnc a1) _ h7.own h7.heap hx2 hmb7).mono ?_
             rintro e w8 ⟨A8, c8, rfl, happ8, -⟩
             have h8 := h7.trans happ8
             have k7b : w8.cell? ⟨g, 7, none⟩ = some (.int .i64 a1) := ((HB.out.below h8.below0 hgl).cell 7).trans (by rw [← HA1.out]; rfl)
             have k8b : w8.cell? ⟨g, 8, none⟩ = some (.int .i64 a2) := ((HB.out.below h8.below0 hgl).cell 8).trans (by rw [← HA2.out]; rfl))
          | fail)
      obtain ⟨y8, hy8⟩ : ∃ y8, y6 ++ numEnc a1 ++ numEnc a2 = y8 := ⟨_, rfl⟩
      obtain ⟨m8, hm8⟩ : ∃ m8, m6 + (numEnc a1).length + (numEnc a2).length = m8 := ⟨_, rfl⟩
      rw [hy8, hm8] at h8
      rw [hm8]
      have hm8b : m8 ≤ 1099511627776 + 421 := by omega
      have HY8 := Lib.hid hy8
      clear hy8 hm8 hm6b h6 h7 happ7 happ8 k7 k8 k7' k8' k7b k8b hl1 hl2 hmb6 hmb7 hle6 hwr1 hwr2 hx1 hx2 ha1b ha2b
      obtain ⟨fv, hfv⟩ : ∃ fv : Int, (if s.fails = true then 1 else 0) = fv := ⟨_, rfl⟩
      have hfv0 : 0 ≤ fv := by rw [← hfv]; split <;> omega
      have hfv1 : fv ≤ 1 := by rw [← hfv]; split <;> omega
      have hwru : IntKind.u8.wrap fv = fv := by rw [IntKind.wrap_u8]; omega
      have hT := fun W => spTruth W s.fails
      rw [hfv] at hT
      have HFV := Lib.hid hfv
      have bk8 := HB.out.below h8.below0 hgl
      have k9 : w8.cell? ⟨g, 9, none⟩ = some (.bool s.fails) := bk8.cell 9
      have k10 : w8.cell? ⟨g, 10, none⟩ = some (.slice At nt ct) := bk8.cell 10
      have hwr3 : IntKind.u64.wrap (nt : Int) = (nt : Int) := IntWalk.u64_in _ ⟨by omega, by omega⟩
      have hx3 : nt < 18446744073709551616 := by omega
      have hl3 := numEnc_u64 hx3
      have hmb8 : m8 + 1 ≤ 140737488355328 := by omega
      have hmb9 : m8 + 1 + 10 ≤ 140737488355328 := by omega
      have h8a := (h8.alloc (.cells #[.int .u8 fv] 5)).drew
      have hle8 : w2.heap.size ≤ (w8.alloc (.cells #[.int .u8 fv] 5)).drew.heap.size := h8a.heap
      clear bk8 hfv
      go_wp2_with fail
      go_region_held3 (fun w' => w'.cell? ⟨g, 9, none⟩ = some (.bool s.fails) ∧ w'.cell? ⟨g, 10, none⟩ = some (.slice At nt ct)) (go_keep)
        (first
          | (go_at_call 76
             refine (hT _).mono ?_
             rintro e w9 ⟨rfl, hw9⟩
             rw [hw9]
             clear hw9 w9)
          | (refine step_appb (by rfl) (.tmp 61) (.tmp 66) (by rfl) w2.heap.size (.slice A8 m8 c8) m8 y8 (by rfl) h8a.own _ _ 1 1 [fv] (by rfl) (by rfl) (Rd.lit w8 _ _) hmb8 hle8 ?_
             intro A9 c9 w9 happ9 _
             have h9 := h8a.trans happ9
             have k9b : w9.cell? ⟨g, 9, none⟩ = some (.bool s.fails) := (HB.out.below h9.below0 hgl).cell 9
             have k10b : w9.cell? ⟨g, 10, none⟩ = some (.slice At nt ct) := (HB.out.below h9.below0 hgl).cell 10)
          | (go_at_call 62
             refine (wireNumber (base := w2.heap.size) (x := nt) (xs := y8 ++ [fv]) _ h9.own h9.heap hx3 hmb9).mono ?_
             rintro e w10 ⟨A10, c10, rfl, happ10, -⟩
             have h10 := h9.trans happ10
             have k9c : w10.cell? ⟨g, 9, none⟩ = some (.bool s.fails) := (HB.out.below h10.below0 hgl).cell 9
             have k10c : w10.cell? ⟨g, 10, none⟩ = some (.slice At nt ct) := (HB.out.below h10.below0 hgl).cell 10)
          | fail)
      obtain ⟨y10, hy10⟩ : ∃ y10, y8 ++ [fv] ++ numEnc nt = y10 := ⟨_, rfl⟩
      obtain ⟨m10, hm10⟩ : ∃ m10, m8 + 1 + (numEnc nt).length = m10 := ⟨_, rfl⟩
      rw [hy10, hm10] at h10
      rw [hm10]
      have hm10b : m10 ≤ 1099511627776 + 432 := by omega
      have HY10 := Lib.hid hy10
      have HH10 := Lib.hid h10
      clear hy10 hm10 hm8b h8 h9 h8a happ9 happ10 k9 k10 k9b k9c k10b hl3 hmb8 hmb9 hle8 hwr3 hwru hx3 hT hfv0 hfv1 h10
      go_wp2_with fail
      go_loopw [7, 76] (fun v iv_ wr => ∃ (A' : Option Addr) (c' m j : Nat), j ≤ nt ∧ v = .slice A' m c' ∧ iv_ = .int .i64 j ∧ m ≤ m10 + j * 300 ∧ App w2.heap.size 5 1 w2 (.slice none 0 0) wr (.slice A' m c') m (bv (y10 ++ (s.tags.take j).flatMap tgEnc))) (fun _ i _ => nt - (intOf i).toNat)
      case atStart => exact ⟨A10, c10, m10, 0, by omega, rfl, rfl, by omega, by simpa using HH10.out⟩
      case round =>
        clear k10c
        obtain ⟨A', c', m, j, hj, rfl, rfl, hm, happ⟩ := hrel
        have hmb : m ≤ 1099511627776 + 6000 := by omega
        by_cases hlt : j < nt
        · have hlt' : (j : Int) < (nt : Int) := by omega
          obtain ⟨x, hx⟩ : ∃ x, s.tags[j]? = some x := ⟨_, List.getElem?_eq_getElem (by rw [HNT.out]; exact hlt)⟩
          have hsx := L4.out x (List.mem_of_getElem? hx)
          obtain ⟨b, o, e', hbb, c1, c2⟩ := RbT.get (Rd.below HF.out (happ.below0.mono (by omega))) hx
          cases e'
          have HX := Lib.hid hx
          clear hx
          have ha2 := (happ.alloc (.cells #[.string x.key, .string x.val] 97)).alloc (.cells #[.string x.key, .string x.val] 9)
          have hrow : (Value.slice A' m c').ownBlock ≠ some (wr.heap.size + 1) := fun e => by
            cases A' with
            | none => cases e
            | some a =>
              have h1 := (happ.own.lt a.block rfl).2
              have h2 : a.block = wr.heap.size + 1 := Option.some.inj e
              omega
          have bb : Bk ((wr.alloc (.cells #[.string x.key, .string x.val] 97)).alloc (.cells #[.string x.key, .string x.val] 9)) (wr.heap.size + 1) 9 #[.string x.key, .string x.val] := by
            have h := Bk.new (wr.alloc (.cells #[.string x.key, .string x.val] 97)) 9 #[.string x.key, .string x.val]
            simpa using h
          have hcells : ∀ (i : Nat) (t : ByteArray), [x.key, x.val][i]? = some t → ((wr.alloc (.cells #[.string x.key, .string x.val] 97)).alloc (.cells #[.string x.key, .string x.val] 9)).cell? ⟨wr.heap.size + 1, i, none⟩ = some (.string t) := fun i t ht => by
            rw [bb.cell i]
            match i, ht with
            | 0, ht => cases ht; rfl
            | 1, ht => cases ht; rfl
          have hsz : ∀ t ∈ [x.key, x.val], t.size ≤ 1048576 := fun t ht => by
            simp at ht
            rcases ht with rfl | rfl <;> omega
          have hp := spPieces (k := 2) (c1 := 2) (ls := [x.key, x.val]) _ ha2.own ha2.heap hcells rfl bb.lt hrow hsz (by omega)
          have HP := Lib.hid hp
          have HA2 := Lib.hid ha2
          clear hp hrow bb hcells hsz ha2
          go_wp2_with fail
          refine HP.out.mono ?_
          rintro e w12 ⟨A12, c12, rfl, happ12, -⟩
          have h12 := HA2.out.trans happ12
          have e1 : [x.key, x.val].flatMap pie = tgEnc x := by simp [tgEnc]
          have e2 : y10 ++ (s.tags.take j).flatMap tgEnc ++ tgEnc x = y10 ++ (s.tags.take (j + 1)).flatMap tgEnc := by
            rw [take_snoc HX.out, List.flatMap_append, List.flatMap_cons, List.flatMap_nil, List.append_nil, List.append_assoc]
          rw [e1, e2] at h12
          rw [e1]
          have hl12 : (tgEnc x).length ≤ 300 := by
            have h1 := pie_len x.key (by omega)
            have h2 := pie_len x.val (by omega)
            rw [tgEnc, List.length_append]
            omega
          obtain ⟨m12, hm12⟩ : ∃ m12, m + (tgEnc x).length = m12 := ⟨_, rfl⟩
          rw [hm12] at h12 ⊢
          have hm12b : m12 ≤ m10 + (j + 1) * 300 := by omega
          clear e1 e2 hl12 hm12 happ12 c1 c2
          go_wp2
          go_roundw
          case rel => exact ⟨A12, c12, m12, j + 1, by omega, rfl, by go_num, hm12b, h12⟩
          case measure => simp [intOf]; omega
        · have hlt' : decide ((j : Int) < (nt : Int)) = false := by simp; omega
          obtain rfl : j = nt := by omega
          have e1 : s.tags.take j = s.tags := List.take_of_length_le (by rw [HNT.out]; omega)
          rw [e1] at happ
          have hy : y10 ++ s.tags.flatMap tgEnc = zs ++ spEnc s := by
            have hk : s.kind % 256 = s.kind := by omega
            rw [← HY10.out, ← HY8.out, ← HY6.out, ← HY5.out, ← HY0.out, spEnc, spHead, hk, ← HFV.out, HNT.out, HA1.out, HA2.out]
            simp
          rw [hy] at happ
          have hml : m = (zs ++ spEnc s).length := by
            have := own_length happ.own
            rw [bv_length] at this
            exact this.symm
          have HML := Lib.hid hml
          have HAPP := Lib.hid happ
          clear hy hml e1
          go_wp2
          go_ret2
          have happ := HAPP.out
          have hml := HML.out
          refine ⟨HBW.out.trans (happ.below0.mono (by omega)), .inr ⟨HK.out, A', c', by rw [← hml]; rfl, by rw [← hml]; exact own_downK happ.own (by omega), by rw [← hml]; exact happ.cap⟩⟩
theorem spAppend {A0 At : Option Addr} {c0 ct B n nt : Nat} {zs : List Int} (s : Sp) (w : World) (ha : Rb w B A0 zs) (hB : B ≤ w.heap.size) (hz : zs.length ≤ 1099511627776) (hc : A0 = none → zs = [] ∧ c0 = 0) (hn : zs.length = n)
    (hf : RbT w B At s.tags) (hnt : s.tags.length = nt) (hnl : nt ≤ 9223372036854775807) (hu : s.U64) :
    Calls Try.prog 53 #[.slice A0 n c0, spV s At nt ct] w (AppPost w zs s) :=
  (spAppend2 s w ha hB hz hc hn hf hnt hnl hu).mono fun _ _ ⟨hb, h⟩ => ⟨hb, h.imp id fun ⟨hk, A', c', he, ho, hcap⟩ => ⟨hk, A', c', he, Rd.of_own ho, hcap, fun a ha => by subst ha; exact (ho.lt a.block rfl).1⟩⟩
end Go.Proofs.Ytlamebbolioljaa
