/- Keys: the document's Check. -/
import Derived.Test.YtlamebbolioljaaScD
import Derived.Test.YtlamebbolioljaaSrA
namespace Go.Proofs.Ytlamebbolioljaa
open Go.RowKit

theorem neqTrc0 (W : World) (hi lo : Nat) : (binOp .neq 24 (.agg #[.int .u64 hi, .int .u64 lo]) (.agg #[.int .u64 0, .int .u64 0])).run Try.prog W = .ok (.bool (!trcB hi lo)) W := by
  unfold trcB
  by_cases h1 : hi = 0
  · subst h1
    by_cases h2 : lo = 0
    · subst h2
      kernel_rfl
    · have e : ((lo : Int) == 0) = false := by simp [h2]
      go_simp
  · have e : ((hi : Int) == 0) = false := by simp [h1]
    go_simp
attribute [local go_sem ↓] neqTrc0
theorem ren_inj {a b : Int} (h : ren a = ren b) : a = b := by
  unfold ren at h
  split at h <;> split at h <;> (try split at h) <;> (try split at h) <;> omega
theorem has_ren (l : List Int) (p : Int) : hasI (l.map ren) (ren p) = hasI l p := by
  unfold hasI
  rw [List.any_map]
  congr 1
  funext y
  simp only [Function.comp]
  rw [Bool.eq_iff_iff, beq_iff_eq, beq_iff_eq]
  exact ⟨fun h => ren_inj h, fun h => by rw [h]⟩
theorem rl_some {k : Int} {l : List Int} (h : partsOf k = some l) : rl k = l.map ren := by rw [rl, h]; rfl
/-- What a kind with a number is. -/
theorem partsOf_num (k : Int) (l : List Int) (h : partsOf k = some l) : hasI l 7 = (decide (k = 100) || decide (k = 101)) := by
  unfold partsOf at h
  cases hf : kinds.find? (fun p => p.1 == k) with
  | none => rw [hf] at h; cases h
  | some x =>
    rw [hf] at h
    have hk := List.find?_some hf
    have hm := List.mem_of_find?_eq_some hf
    have hx : x.1 = k := by simpa using hk
    have hl : x.2 = l := by simpa using h
    subst hx hl
    have : ∀ x ∈ kinds, hasI x.2 7 = (decide (x.1 = 100) || decide (x.1 = 101)) := by decide
    exact this x hm

set_option maxRecDepth 100000 in
set_option maxHeartbeats 8000000 in
theorem rCheckB (k : Ky) (w : World) (a1 : k.service.size ≤ 128) (a2 : k.name.size ≤ 128) (a3 : k.value.size ≤ 128) (a0 : kyLong k = false) :
    Calls Try.prog 17 #[kyV k] w fun e w' => e = .returned (.int .i64 (kyChk k)) ∧ Below w.heap.size w w' := by
  have hb0 : Below w.heap.size w (w.alloc (.cells (kyC k) 26)) := (Below.refl _ w).alloc (Nat.le_refl _) _
  have bk := Bk.new w 26 (kyC k)
  obtain ⟨w1, hw1⟩ : ∃ w1, w.alloc (.cells (kyC k) 26) = w1 := ⟨_, rfl⟩
  rw [hw1] at hb0 bk
  have HW := Lib.hid hw1
  obtain ⟨g, hg⟩ : ∃ g, w.heap.size = g := ⟨_, rfl⟩
  rw [hg] at bk
  have HG := Lib.hid hg
  obtain ⟨q, hq⟩ : ∃ q, kyChk k = q := ⟨_, rfl⟩
  rw [hq]
  have HQ := Lib.hid hq
  have HB0 := Lib.hid hb0
  have k0 : w1.cell? ⟨g, 0, none⟩ = some (.int .i64 k.kind) := bk.cell 0
  have k4 : w1.cell? ⟨g, 4, none⟩ = some (.string k.service) := bk.cell 4
  have k5 : w1.cell? ⟨g, 5, none⟩ = some (.string k.name) := bk.cell 5
  have k6 : w1.cell? ⟨g, 6, none⟩ = some (.string k.value) := bk.cell 6
  have hb1 : decide ((128 : Int) < (k.service.size : Int)) = false := by simp; omega
  have hb2 : decide ((128 : Int) < (k.name.size : Int)) = false := by simp; omega
  have hb3 : decide ((128 : Int) < (k.value.size : Int)) = false := by simp; omega
  have HQ2 : Hid (q = match partsOf k.kind with | none => 2 | some l => if kyFine k l = true then 0 else 2) := by
    rw [← HQ.out, kyChk, if_neg (by rw [a0]; simp)]
    exact Lib.hid rfl
  clear hw1 hg hq hb0 a0
  go_enter Try.func17, Try.ntmps17
  go_upto_region 1 with fail
  rw [HW.out, HG.out]
  go_upto_region 4 with (go_at_call 29; refine (refParts _ _).mono ?_; rintro e wc ⟨A, c, rfl, hr, hb⟩)
  have hk := bk.bS hb
  have hbel : Below w.heap.size w wc := HB0.out.trans (hb.mono HB0.out.size)
  have hle0 := partsOf_len k.kind
  have hle : (rl k.kind).length ≤ 7 := by rw [rl, List.length_map]; exact hle0
  clear hle0 k0 k4 k5 k6 bk hb
  obtain ⟨o, ho⟩ : ∃ o, partsOf k.kind = o := ⟨_, rfl⟩
  have hq2 := HQ2.out
  rw [ho] at hq2 ⊢
  have HO := Lib.hid ho
  clear ho HQ2 HQ
  cases o with
  | none =>
    have HQ3 := Lib.hid hq2
    clear hq2
    go_wp2
    go_ret
    exact ⟨by rw [HQ3.out]; rfl, hbel⟩
  | some l =>
  simp only [Option.isSome_some] at hq2 ⊢
  have hL := rl_some HO.out
  have hnum := partsOf_num _ _ HO.out
  have HNUM := Lib.hid hnum
  obtain ⟨n, hn⟩ : ∃ n, (rl k.kind).length = n := ⟨_, rfl⟩
  rw [hn] at hle ⊢
  have has : ∀ (x : Int) (m : Nat), Calls Try.prog 41 #[.slice A n c, .int .i64 x] (wc.drewN m) fun e w'' => e = .returned (.bool (hasI (rl k.kind) x)) ∧ w'' = wc.drewN m := fun x m => rHas x _ (hr.drewN m) hn (by omega)
  have E0 : Hid (hasI (rl k.kind) 0 = hasI l 0) := by rw [hL]; exact Lib.hid (has_ren l 0)
  have E2 : Hid (hasI (rl k.kind) 2 = hasI l 2) := by rw [hL]; exact Lib.hid (has_ren l 2)
  have E3 : Hid (hasI (rl k.kind) 3 = hasI l 3) := by rw [hL]; exact Lib.hid (has_ren l 3)
  have E4 : Hid (hasI (rl k.kind) 4 = hasI l 4) := by rw [hL]; exact Lib.hid (has_ren l 4)
  have E5 : Hid (hasI (rl k.kind) 5 = hasI l 5) := by rw [hL]; exact Lib.hid (has_ren l 5)
  have E6 : Hid (hasI (rl k.kind) 6 = hasI l 7) := by rw [hL]; exact Lib.hid (has_ren l 7)
  have E7 : Hid (hasI (rl k.kind) 7 = hasI l 6) := by rw [hL]; exact Lib.hid (has_ren l 6)
  obtain ⟨L, hLL⟩ : ∃ L, rl k.kind = L := ⟨_, rfl⟩
  rw [hLL] at has E0 E2 E3 E4 E5 E6 E7
  have HAS := Lib.hid has
  have HQQ := Lib.hid hq2
  clear has hL hnum hn hLL hr hle hq2
  have k0 : wc.cell? ⟨g, 0, none⟩ = some (.int .i64 k.kind) := hk.cell 0
  have k1 : wc.cell? ⟨g, 1, none⟩ = some (.int .u64 k.hi) := hk.cell 1
  have k2 : wc.cell? ⟨g, 2, none⟩ = some (.int .u64 k.lo) := hk.cell 2
  have k3 : wc.cell? ⟨g, 3, none⟩ = some (.int .u64 k.id) := hk.cell 3
  have k4 : wc.cell? ⟨g, 4, none⟩ = some (.string k.service) := hk.cell 4
  have k5 : wc.cell? ⟨g, 5, none⟩ = some (.string k.name) := hk.cell 5
  have k6 : wc.cell? ⟨g, 6, none⟩ = some (.string k.value) := hk.cell 6
  have k7 : wc.cell? ⟨g, 7, none⟩ = some (.int .u64 k.number) := hk.cell 7
  have k8 : wc.cell? ⟨g, 8, none⟩ = some (.int .i64 k.start) := hk.cell 8
  have hid0 : ∀ n : Nat, ((n : Int) == 0) = decide (n = 0) := fun n => by rw [Bool.eq_iff_iff, beq_iff_eq, decide_eq_true_iff]; omega
  have HI := Lib.hid hid0
  clear hid0
  go_upto_region 6 with fail
  obtain ⟨c6, hc6⟩ : ∃ b, (txtB k.service && txtB k.name && txtB k.value) = b := ⟨_, rfl⟩
  have C6 := Lib.hid hc6
  clear hc6
  go_cut [5] from 34 to 46 (fun v W => v = .bool c6 ∧ ∃ m, W = wc.drewN m)
  case first =>
    have hcs : (txtB k.service = false ∧ c6 = false) ∨ (txtB k.service = true ∧ txtB k.name = false ∧ c6 = false) ∨ (txtB k.service = true ∧ txtB k.name = true ∧ txtB k.value = false ∧ c6 = false) ∨ (txtB k.service = true ∧ txtB k.name = true ∧ txtB k.value = true ∧ c6 = true) := by
      have h := C6.out
      cases e1 : txtB k.service
      · exact .inl ⟨rfl, by rw [← h, e1]; rfl⟩
      cases e2 : txtB k.name
      · exact .inr (.inl ⟨rfl, rfl, by rw [← h, e1, e2]; rfl⟩)
      cases e3 : txtB k.value
      · exact .inr (.inr (.inl ⟨rfl, rfl, rfl, by rw [← h, e1, e2, e3]; rfl⟩))
      · exact .inr (.inr (.inr ⟨rfl, rfl, rfl, by rw [← h, e1, e2, e3]; rfl⟩))
    rcases hcs with ⟨h1, rfl⟩ | ⟨h1, h2, rfl⟩ | ⟨h1, h2, h3, rfl⟩ | ⟨h1, h2, h3, rfl⟩
    all_goals
      have H1 := Lib.hid h1
      try have H2 := Lib.hid h2
      try have H3 := Lib.hid h3
      clear h1
      try clear h2
      try clear h3
      go_wp2_with (go_at_call 40; refine (rTxt _ _).mono ?_; rintro e w' ⟨rfl, hw⟩; rw [hw]; clear hw w'; first | rw [H1.out] | rw [H2.out] | rw [H3.out])
      go_meet
      exact ⟨rfl, 0, rfl⟩
  case rest =>
  obtain ⟨rfl, m6, rfl⟩ := hcut
  go_upto_region 7 with fail
  obtain ⟨c7, hc7⟩ : ∃ b, (!(hasI l 0 == trc0 k) && !(hasI l 2 == decide (k.id = 0))) = b := ⟨_, rfl⟩
  have C7 := Lib.hid hc7
  clear hc7
  go_cut [6] from 47 to 61 (fun v W => v = .bool c7 ∧ ∃ m, W = wc.drewN m)
  case first =>
    have hcs : ((hasI L 0 == !trcB k.hi k.lo) = false ∧ c7 = false) ∨ ((hasI L 0 == !trcB k.hi k.lo) = true ∧ (hasI L 2 == ((k.id : Int) != 0)) = false ∧ c7 = false) ∨ ((hasI L 0 == !trcB k.hi k.lo) = true ∧ (hasI L 2 == ((k.id : Int) != 0)) = true ∧ c7 = true) := by
      have h := C7.out
      have e1 : (!(hasI l 0 == trc0 k)) = (hasI L 0 == !trcB k.hi k.lo) := by rw [E0.out]; unfold trc0; cases hasI l 0 <;> cases trcB k.hi k.lo <;> rfl
      have e2 : (!(hasI l 2 == decide (k.id = 0))) = (hasI L 2 == ((k.id : Int) != 0)) := by rw [E2.out, bne, HI.out]; cases hasI l 2 <;> cases decide (k.id = 0) <;> rfl
      rw [e1, e2] at h
      cases h1 : (hasI L 0 == !trcB k.hi k.lo)
      · exact .inl ⟨rfl, by rw [← h, h1]; rfl⟩
      cases h2 : (hasI L 2 == ((k.id : Int) != 0))
      · exact .inr (.inl ⟨rfl, rfl, by rw [← h, h1, h2]; rfl⟩)
      · exact .inr (.inr ⟨rfl, rfl, by rw [← h, h1, h2]; rfl⟩)
    rcases hcs with ⟨h1, rfl⟩ | ⟨h1, h2, rfl⟩ | ⟨h1, h2, rfl⟩
    all_goals
      go_quiet ((go_at_call 41; first | exact Calls.quiet_of_same (HAS.out _ _) | exact quiet_add_same (HAS.out _ _)))
      go_wp2
      go_meet
      exact ⟨rfl, _, World.drewN_drewN _ _ _⟩
  case rest =>
  obtain ⟨rfl, m7, rfl⟩ := hcut
  go_upto_region 8 with fail
  obtain ⟨c8, hc8⟩ : ∃ b, (!(hasI l 3 == decide (k.service.size = 0)) && !(hasI l 4 == decide (k.name.size = 0)) && (hasI l 5 || decide (k.value.size = 0))) = b := ⟨_, rfl⟩
  have C8 := Lib.hid hc8
  clear hc8
  go_cut [7] from 62 to 84 (fun v W => v = .bool c8 ∧ ∃ m, W = wc.drewN m)
  case first =>
    have hcs : ((hasI L 3 == !k.service.toList.isEmpty) = false ∧ c8 = false) ∨ ((hasI L 3 == !k.service.toList.isEmpty) = true ∧ (hasI L 4 == !k.name.toList.isEmpty) = false ∧ c8 = false) ∨
        ((hasI L 3 == !k.service.toList.isEmpty) = true ∧ (hasI L 4 == !k.name.toList.isEmpty) = true ∧ hasI L 5 = true ∧ c8 = true) ∨
        ((hasI L 3 == !k.service.toList.isEmpty) = true ∧ (hasI L 4 == !k.name.toList.isEmpty) = true ∧ hasI L 5 = false ∧ k.value.toList.isEmpty = true ∧ c8 = true) ∨
        ((hasI L 3 == !k.service.toList.isEmpty) = true ∧ (hasI L 4 == !k.name.toList.isEmpty) = true ∧ hasI L 5 = false ∧ k.value.toList.isEmpty = false ∧ c8 = false) := by
      have h := C8.out
      have e1 : (!(hasI l 3 == decide (k.service.size = 0))) = (hasI L 3 == !k.service.toList.isEmpty) := by rw [E3.out, str_isEmpty]; cases hasI l 3 <;> cases decide (k.service.size = 0) <;> rfl
      have e2 : (!(hasI l 4 == decide (k.name.size = 0))) = (hasI L 4 == !k.name.toList.isEmpty) := by rw [E4.out, str_isEmpty]; cases hasI l 4 <;> cases decide (k.name.size = 0) <;> rfl
      rw [e1, e2, ← E5.out, ← str_isEmpty] at h
      cases h1 : (hasI L 3 == !k.service.toList.isEmpty)
      · exact .inl ⟨rfl, by rw [← h, h1]; rfl⟩
      cases h2 : (hasI L 4 == !k.name.toList.isEmpty)
      · exact .inr (.inl ⟨rfl, rfl, by rw [← h, h1, h2]; rfl⟩)
      cases h3 : hasI L 5
      · cases h4 : k.value.toList.isEmpty
        · exact .inr (.inr (.inr (.inr ⟨rfl, rfl, rfl, rfl, by rw [← h, h1, h2, h3, h4]; rfl⟩)))
        · exact .inr (.inr (.inr (.inl ⟨rfl, rfl, rfl, rfl, by rw [← h, h1, h2, h3, h4]; rfl⟩)))
      · exact .inr (.inr (.inl ⟨rfl, rfl, rfl, by rw [← h, h1, h2, h3]; rfl⟩))
    rcases hcs with ⟨h1, rfl⟩ | ⟨h1, h2, rfl⟩ | ⟨h1, h2, h3, rfl⟩ | ⟨h1, h2, h3, h4, rfl⟩ | ⟨h1, h2, h3, h4, rfl⟩
    all_goals
      go_quiet ((go_at_call 41; first | exact Calls.quiet_of_same (HAS.out _ _) | exact quiet_add_same (HAS.out _ _)))
      go_wp2
      go_meet
      exact ⟨rfl, _, World.drewN_drewN _ _ _⟩
  case rest =>
  obtain ⟨rfl, m8, rfl⟩ := hcut
  go_upto_region 9 with fail
  obtain ⟨c9, hc9⟩ : ∃ b, ((hasI l 7 || decide (k.number = 0)) && (decide (k.kind ≠ 100) || decide (k.number ≤ 4611686018427387903))) = b := ⟨_, rfl⟩
  have C9 := Lib.hid hc9
  clear hc9
  go_cut [8] from 85 to 101 (fun v W => v = .bool c9 ∧ ∃ m, W = wc.drewN m)
  case first =>
    have hcs : (hasI L 6 = false ∧ ((k.number : Int) == 0) = true ∧ c9 = true) ∨ (hasI L 6 = false ∧ ((k.number : Int) == 0) = false ∧ c9 = false) ∨ (hasI L 6 = true ∧ (k.kind == 101) = true ∧ c9 = true) ∨
        (hasI L 6 = true ∧ (k.kind == 101) = false ∧ decide ((k.number : Int) ≤ 4611686018427387903) = true ∧ c9 = true) ∨ (hasI L 6 = true ∧ (k.kind == 101) = false ∧ decide ((k.number : Int) ≤ 4611686018427387903) = false ∧ ((k.number : Int) == 0) = false ∧ c9 = false) := by
      have h := C9.out
      have hn := HNUM.out
      rw [E6.out, HI.out]
      cases h1 : hasI l 7
      · rw [h1] at h hn
        have e : k.kind ≠ 100 := by intro e; rw [e] at hn; simp at hn
        cases h2 : decide (k.number = 0)
        · exact .inr (.inl ⟨rfl, rfl, by rw [← h, h2]; rfl⟩)
        · exact .inl ⟨rfl, rfl, by rw [← h, h2]; simp [e]⟩
      · rw [h1] at h hn
        by_cases e1 : k.kind = 101
        · exact .inr (.inr (.inl ⟨rfl, by rw [e1]; rfl, by rw [← h, e1]; simp⟩))
        · have e2 : k.kind = 100 := by simpa [e1] using hn
          by_cases e3 : k.number ≤ 4611686018427387903
          · exact .inr (.inr (.inr (.inl ⟨rfl, by rw [e2]; rfl, by simp; omega, by rw [← h]; simp [e3]⟩)))
          · exact .inr (.inr (.inr (.inr ⟨rfl, by rw [e2]; rfl, by simp; omega, by simp; omega, by rw [← h]; simp [e2, e3]⟩)))
    rcases hcs with ⟨h1, h2, rfl⟩ | ⟨h1, h2, rfl⟩ | ⟨h1, h2, rfl⟩ | ⟨h1, h2, h3, rfl⟩ | ⟨h1, h2, h3, h4, rfl⟩
    all_goals
      have H1 := Lib.hid h1
      clear h1
      go_wp2_with (go_at_call 41; refine (HAS.out _ _).mono ?_; rintro e w' ⟨rfl, hw⟩; rw [hw]; clear hw w'; rw [H1.out])
      go_meet
      exact ⟨rfl, _, rfl⟩
  case rest =>
  obtain ⟨rfl, m9, rfl⟩ := hcut
  go_upto_region 10 with fail
  obtain ⟨c10, hc10⟩ : ∃ b, (decide (0 ≤ k.start) && decide (k.start ≤ 4611686018427387903) && (hasI l 6 || decide (k.start = 0))) = b := ⟨_, rfl⟩
  have C10 := Lib.hid hc10
  clear hc10
  go_cut [9] from 102 to 118 (fun v W => v = .bool c10 ∧ ∃ m, W = wc.drewN m)
  case first =>
    have hcs : (hasI L 7 = false ∧ (k.start == 0) = true ∧ c10 = true) ∨ (hasI L 7 = false ∧ (k.start == 0) = false ∧ c10 = false) ∨ (hasI L 7 = true ∧ k.start < 0 ∧ (k.start == 0) = false ∧ c10 = false) ∨
        (hasI L 7 = true ∧ 0 ≤ k.start ∧ k.start ≤ 4611686018427387903 ∧ c10 = true) ∨ (hasI L 7 = true ∧ 0 ≤ k.start ∧ 4611686018427387903 < k.start ∧ (k.start == 0) = false ∧ c10 = false) := by
      have h := C10.out
      rw [E7.out]
      by_cases e0 : k.start = 0
      · cases h1 : hasI l 6
        · exact .inl ⟨rfl, by rw [e0]; rfl, by rw [← h, e0]; simp⟩
        · exact .inr (.inr (.inr (.inl ⟨rfl, by omega, by omega, by rw [← h, e0, h1]; rfl⟩)))
      · have e1 : (k.start == 0) = false := by rw [beq_eq_false_iff_ne]; exact e0
        cases h1 : hasI l 6
        · exact .inr (.inl ⟨rfl, e1, by rw [← h, h1]; simp [e0]⟩)
        · by_cases e2 : k.start < 0
          · exact .inr (.inr (.inl ⟨rfl, e2, e1, by rw [← h, decide_eq_false (show ¬ 0 ≤ k.start by omega)]; rfl⟩))
          · by_cases e3 : k.start ≤ 4611686018427387903
            · exact .inr (.inr (.inr (.inl ⟨rfl, by omega, e3, by rw [← h, h1, decide_eq_true e3, decide_eq_true (show 0 ≤ k.start by omega)]; rfl⟩)))
            · exact .inr (.inr (.inr (.inr ⟨rfl, by omega, by omega, e1, by rw [← h, decide_eq_false e3]; simp⟩)))
    rcases hcs with ⟨h1, h2, rfl⟩ | ⟨h1, h2, rfl⟩ | ⟨h1, h3, h2, rfl⟩ | ⟨h1, h3, h4, rfl⟩ | ⟨h1, h3, h4, h2, rfl⟩
    all_goals
      have H1 := Lib.hid h1
      clear h1
      try have d3 : decide (0 ≤ k.start) = false := by simp; omega
      try have d3 : decide (0 ≤ k.start) = true := by simp; omega
      try have d4 : decide (k.start ≤ 4611686018427387903) = true := by simp; omega
      try have d4 : decide (k.start ≤ 4611686018427387903) = false := by simp; omega
      go_wp2_with (go_at_call 41; refine (HAS.out _ _).mono ?_; rintro e w' ⟨rfl, hw⟩; rw [hw]; clear hw w'; rw [H1.out])
      go_meet
      exact ⟨rfl, _, rfl⟩
  case rest =>
  obtain ⟨rfl, m10, rfl⟩ := hcut
  have HF : Hid (kyFine k l = (c6 && c7 && c8 && c9 && c10)) := by
    rw [← C6.out, ← C7.out, ← C8.out, ← C9.out, ← C10.out]
    unfold kyFine
    generalize txtB k.service = x1
    generalize txtB k.name = x2
    generalize txtB k.value = x3
    generalize decide (0 ≤ k.start) = x4
    generalize decide (k.start ≤ 4611686018427387903) = x5
    generalize (hasI l 0 == trc0 k) = x6
    generalize (hasI l 2 == decide (k.id = 0)) = x7
    generalize (hasI l 3 == decide (k.service.size = 0)) = x8
    generalize (hasI l 4 == decide (k.name.size = 0)) = x9
    generalize (hasI l 5 || decide (k.value.size = 0)) = y1
    generalize (hasI l 6 || decide (k.start = 0)) = y2
    generalize (hasI l 7 || decide (k.number = 0)) = y3
    generalize (decide (k.kind ≠ 100) || decide (k.number ≤ 4611686018427387903)) = y4
    exact Lib.hid (by cases x1 <;> cases x2 <;> cases x3 <;> cases x4 <;> cases x5 <;> cases x6 <;> (try rfl) <;> cases x7 <;> (try rfl) <;> cases x8 <;> (try rfl) <;> cases x9 <;> (try rfl) <;> cases y1 <;> (try rfl) <;> cases y2 <;> cases y3 <;> cases y4 <;> rfl)
  have HQ5 : Hid (q = if (c6 && c7 && c8 && c9 && c10) = true then 0 else 2) := by rw [HQQ.out, ← HF.out]; exact Lib.hid rfl
  clear HF
  go_upto_region 11 with fail
  cases c6 with
  | false =>
    go_wp2
    go_ret
    exact ⟨by rw [HQ5.out]; rfl, below_drewN hbel _⟩
  | true =>
  cases c7 with
  | false =>
    go_wp2
    go_ret
    exact ⟨by rw [HQ5.out]; rfl, below_drewN hbel _⟩
  | true =>
  cases c8 with
  | false =>
    go_wp2
    go_ret
    exact ⟨by rw [HQ5.out]; rfl, below_drewN hbel _⟩
  | true =>
  cases c9 with
  | false =>
    go_wp2
    go_ret
    exact ⟨by rw [HQ5.out]; rfl, below_drewN hbel _⟩
  | true =>
  cases c10 with
  | false =>
    go_wp2
    go_ret
    exact ⟨by rw [HQ5.out]; rfl, below_drewN hbel _⟩
  | true =>
    go_wp2
    go_ret
    exact ⟨by rw [HQ5.out]; rfl, below_drewN hbel _⟩
set_option maxRecDepth 100000 in
set_option maxHeartbeats 2000000 in
theorem rCheck (k : Ky) (w : World) :
    Calls Try.prog 17 #[kyV k] w fun e w' => e = .returned (.int .i64 (kyChk k)) ∧ Below w.heap.size w w' := by
  have hsplit : (128 < k.service.size ∧ kyLong k = true) ∨ (k.service.size ≤ 128 ∧ 128 < k.name.size ∧ kyLong k = true) ∨ (k.service.size ≤ 128 ∧ k.name.size ≤ 128 ∧ 128 < k.value.size ∧ kyLong k = true) ∨ (k.service.size ≤ 128 ∧ k.name.size ≤ 128 ∧ k.value.size ≤ 128 ∧ kyLong k = false) := by
    unfold kyLong
    by_cases a1 : 128 < k.service.size
    · exact .inl ⟨a1, by simp [a1]⟩
    by_cases a2 : 128 < k.name.size
    · exact .inr (.inl ⟨by omega, a2, by simp [a2]⟩)
    by_cases a3 : 128 < k.value.size
    · exact .inr (.inr (.inl ⟨by omega, by omega, a3, by simp [a3]⟩))
    · exact .inr (.inr (.inr ⟨by omega, by omega, by omega, by simp; omega⟩))
  rcases hsplit with ⟨a1, a0⟩ | ⟨a1, a2, a0⟩ | ⟨a1, a2, a3, a0⟩ | ⟨a1, a2, a3, a0⟩
  case inr.inr.inr => exact rCheckB k w a1 a2 a3 a0
  all_goals
    have hb0 : Below w.heap.size w (w.alloc (.cells (kyC k) 26)) := (Below.refl _ w).alloc (Nat.le_refl _) _
    have bk := Bk.new w 26 (kyC k)
    obtain ⟨w1, hw1⟩ : ∃ w1, w.alloc (.cells (kyC k) 26) = w1 := ⟨_, rfl⟩
    rw [hw1] at hb0 bk
    have HW := Lib.hid hw1
    obtain ⟨g, hg⟩ : ∃ g, w.heap.size = g := ⟨_, rfl⟩
    rw [hg] at bk
    have HG := Lib.hid hg
    have HB0 := Lib.hid hb0
    have k4 : w1.cell? ⟨g, 4, none⟩ = some (.string k.service) := bk.cell 4
    have k5 : w1.cell? ⟨g, 5, none⟩ = some (.string k.name) := bk.cell 5
    have k6 : w1.cell? ⟨g, 6, none⟩ = some (.string k.value) := bk.cell 6
    have hq3 : kyChk k = 3 := by rw [kyChk, if_pos a0]
    first
      | (have e1 : (128 : Int) < (k.service.size : Int) := by omega)
      | (have e1 : decide ((128 : Int) < (k.service.size : Int)) = false := by simp; omega)
    first
      | (have e2 : (128 : Int) < (k.name.size : Int) := by omega)
      | (have e2 : decide ((128 : Int) < (k.name.size : Int)) = false := by simp; omega)
      | skip
    first
      | (have e3 : (128 : Int) < (k.value.size : Int) := by omega)
      | skip
    rw [hq3]
    clear hw1 hg hb0 bk hq3 a0
    go_enter Try.func17, Try.ntmps17
    go_upto_region 1 with fail
    rw [HW.out, HG.out]
    go_wp2
    go_ret
    exact ⟨rfl, HB0.out⟩
end Go.Proofs.Ytlamebbolioljaa
