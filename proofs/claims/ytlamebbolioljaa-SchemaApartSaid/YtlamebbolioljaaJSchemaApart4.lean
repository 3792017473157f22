/- Texts of the proof of SchemaApartSaid, joined: SrA ScG ScH ScI WireO ScN Str SpA. -/
import Derived.Test.YtlamebbolioljaaJSchemaApart2
import Derived.Test.YtlamebbolioljaaJSchemaApart3
import Derived.Laws.ResultCell
import Derived.Test.YtlamebbolioljaaJSchemaApart1
import Derived.Laws.IdiomStrings
import Derived.Lib.SmallJoins
/- Spans, the document's answer: plain, Text, Check. -/
namespace Go.Proofs.Ytlamebbolioljaa
open Go.RowKit

set_option maxHeartbeats 400000 in
theorem rPlain (w : World) (s : ByteArray) (hm : s.size ≤ 1000000) :
    Calls Try.prog 61 #[.string s] w fun e w' => e = .returned (.bool (plainB s)) ∧ w' = w := by
  obtain ⟨q, hq⟩ : ∃ q, plainB s = q := ⟨_, rfl⟩
  rw [hq]
  have HQ := Lib.hid hq
  clear hq
  go_enter Try.func61, Try.ntmps61
  go_wp2
  go_loop [3] (fun iv_ => ∃ k : Nat, k ≤ s.size ∧ iv_ = .int .i64 k ∧ ((nums s).take k).all (fun x => decide (32 ≤ x) && decide (x ≤ 126)) = true) (fun i => s.size - (intOf i).toNat)
  case atStart => exact ⟨0, by omega, rfl, rfl⟩
  case round =>
    obtain ⟨k, hk, rfl, hall⟩ := hrel
    have HA := Lib.hid hall
    clear hall
    by_cases hlt : k < s.size
    · have hlt' : (k : Int) < (s.size : Int) := by omega
      obtain ⟨z, hz⟩ : ∃ z : Int, z = ((s[k]'hlt).toNat : Int) := ⟨_, rfl⟩
      have hzz : ((s[k]'hlt).toNat : Int) = z := hz.symm
      have HZ : Hid ((nums s)[k]? = some z) := by rw [hz]; exact nums_get hlt
      clear hz
      by_cases h1 : z < 32
      · go_wp2
        go_ret
        have : q = false := by
          rw [← HQ.out, plainB, List.all_eq_false]
          exact ⟨z, List.mem_of_getElem? HZ.out, by simp; omega⟩
        exact ⟨by rw [this]; rfl, rfl⟩
      have h1' : decide (z < 32) = false := by simp; omega
      by_cases h2 : 126 < z
      · go_wp2
        go_ret
        have : q = false := by
          rw [← HQ.out, plainB, List.all_eq_false]
          exact ⟨z, List.mem_of_getElem? HZ.out, by simp; omega⟩
        exact ⟨by rw [this]; rfl, rfl⟩
      have h2' : decide (126 < z) = false := by simp; omega
      go_wp2
      go_round
      case rel => exact ⟨k + 1, by omega, by go_num, by rw [take_snoc HZ.out, List.all_append, HA.out]; simp; omega⟩
      case measure => simp [intOf]; omega
    · have hlt' : decide ((k : Int) < (s.size : Int)) = false := by simp; omega
      go_wp2
      go_ret
      have : q = true := by
        rw [← HQ.out, plainB]
        have h1 := HA.out
        rwa [List.take_of_length_le (by rw [nums_len]; omega)] at h1
      exact ⟨by rw [this]; rfl, rfl⟩

theorem rTxt (w : World) (s : ByteArray) :
    Calls Try.prog 40 #[.string s] w fun e w' => e = .returned (.bool (txtB s)) ∧ w' = w := by
  by_cases h0 : s.size ≤ 128
  · have d1 : (s.size : Int) ≤ 128 := by omega
    obtain ⟨q, hq⟩ : ∃ q, plainB s = q := ⟨_, rfl⟩
    have hn : txtB s = q := by simp [txtB, h0, hq]
    have ht := rPlain w s (by omega)
    rw [hq] at ht
    rw [hn]
    have HT := Lib.hid ht
    clear ht hq hn
    go_enter Try.func40, Try.ntmps40
    go_wp2_with (go_at_call 61; refine HT.out.mono ?_; rintro e w' ⟨rfl, rfl⟩)
    go_ret
    exact ⟨rfl, rfl⟩
  · have d1 : decide ((s.size : Int) ≤ 128) = false := by simp; omega
    have hn : txtB s = false := by simp [txtB, h0]
    rw [hn]
    go_enter Try.func40, Try.ntmps40
    go_wp2
    go_ret
    exact ⟨rfl, rfl⟩

/-- The head's ways, in the order of the document's answer. -/
def HeadWays (s : Sp) : Prop :=
  (headB s = false ∧ ((s.hi = 0 ∧ s.lo = 0) ∨ ((s.hi ≠ 0 ∨ s.lo ≠ 0) ∧ (s.id = 0 ∨ s.id ≠ 0 ∧ (s.service.size = 0 ∨ 0 < s.service.size ∧ (s.name.size = 0 ∨ 0 < s.name.size ∧ (plainB s.service = false ∨ plainB s.service = true ∧ (plainB s.name = false ∨ plainB s.name = true ∧
    (s.kind < 0 ∨ 0 ≤ s.kind ∧ (5 < s.kind ∨ s.kind ≤ 5 ∧ (s.start < 0 ∨ 0 ≤ s.start ∧ (s.length < 0 ∨ 0 ≤ s.length ∧ (4611686018427387903 < s.start ∨ s.start ≤ 4611686018427387903 ∧ 4611686018427387903 - s.start < s.length))))))))))))) ∨
  (headB s = true ∧ (s.hi ≠ 0 ∨ s.lo ≠ 0) ∧ s.id ≠ 0 ∧ 0 < s.service.size ∧ 0 < s.name.size ∧ plainB s.service = true ∧ plainB s.name = true ∧ 0 ≤ s.kind ∧ s.kind ≤ 5 ∧ 0 ≤ s.start ∧ 0 ≤ s.length ∧ s.start ≤ 4611686018427387903 ∧ s.length ≤ 4611686018427387903 - s.start)
theorem headWays (s : Sp) (h1 : s.service.size ≤ 128) (h2 : s.name.size ≤ 128) : HeadWays s := by
  have e1 : nameB s.service = (decide (0 < s.service.size) && plainB s.service) := by simp [nameB, txtB, h1]
  have e2 : nameB s.name = (decide (0 < s.name.size) && plainB s.name) := by simp [nameB, txtB, h2]
  unfold HeadWays
  cases hh : headB s with
  | true =>
    rw [headB, e1, e2] at hh
    simp only [Bool.and_eq_true, Bool.or_eq_true, decide_eq_true_eq, ne_eq] at hh
    obtain ⟨⟨⟨⟨⟨⟨⟨⟨⟨a0, a1⟩, a2, a3⟩, a4, a5⟩, a6⟩, a7⟩, a8⟩, a9⟩, a10⟩, a11⟩ := hh
    exact .inr ⟨rfl, a0, a1, a2, a4, a3, a5, a6, a7, a8, a9, a10, a11⟩
  | false =>
    refine .inl ⟨rfl, ?_⟩
    by_cases a0 : s.hi = 0 ∧ s.lo = 0
    · exact .inl a0
    refine .inr ⟨by omega, ?_⟩
    by_cases a1 : s.id = 0
    · exact .inl a1
    refine .inr ⟨a1, ?_⟩
    by_cases a2 : s.service.size = 0
    · exact .inl a2
    refine .inr ⟨by omega, ?_⟩
    by_cases a3 : s.name.size = 0
    · exact .inl a3
    refine .inr ⟨by omega, ?_⟩
    cases a4 : plainB s.service with
    | false => exact .inl rfl
    | true =>
    refine .inr ⟨rfl, ?_⟩
    cases a5 : plainB s.name with
    | false => exact .inl rfl
    | true =>
    refine .inr ⟨rfl, ?_⟩
    by_cases a6 : s.kind < 0
    · exact .inl a6
    refine .inr ⟨by omega, ?_⟩
    by_cases a7 : 5 < s.kind
    · exact .inl a7
    refine .inr ⟨by omega, ?_⟩
    by_cases a8 : s.start < 0
    · exact .inl a8
    refine .inr ⟨by omega, ?_⟩
    by_cases a9 : s.length < 0
    · exact .inl a9
    refine .inr ⟨by omega, ?_⟩
    by_cases a10 : 4611686018427387903 < s.start
    · exact .inl a10
    refine .inr ⟨by omega, ?_⟩
    by_cases a11 : 4611686018427387903 - s.start < s.length
    · exact a11
    rw [headB, e1, e2] at hh
    have : (decide (s.hi ≠ 0) || decide (s.lo ≠ 0)) = true := by simp; omega
    rw [this, a4, a5] at hh
    simp at hh
    omega
theorem tagsOk_false {l : List Tg} {j n : Nat} (h : tagOk l j = false) (hj : j < n) : tagsOk l n = false := by
  rw [tagsOk, List.all_eq_false]
  exact ⟨j, List.mem_range.2 hj, by simp [h]⟩
end Go.Proofs.Ytlamebbolioljaa

/- Keys: the document's Check. -/
namespace Go.Proofs.Ytlamebbolioljaa
open Go.RowKit

theorem neqTrc0 (W : World) (hi lo : Nat) : (binOp .neq 24 (.agg #[.int .u64 hi, .int .u64 lo]) (.agg #[.int .u64 0, .int .u64 0])).run Try.prog W = .ok (.bool (!trcB hi lo)) W := by
  unfold trcB
  by_cases h1 : hi = 0
  · subst h1
    by_cases h2 : lo = 0
    · subst h2
      kernel_rfl
    · have e : ((lo : Int) == 0) = false := by simp [h2]
      go_simp
  · have e : ((hi : Int) == 0) = false := by simp [h1]
    go_simp
attribute [local go_sem ↓] neqTrc0
theorem ren_inj {a b : Int} (h : ren a = ren b) : a = b := by
  unfold ren at h
  split at h <;> split at h <;> (try split at h) <;> (try split at h) <;> omega
theorem has_ren (l : List Int) (p : Int) : hasI (l.map ren) (ren p) = hasI l p := by
  unfold hasI
  rw [List.any_map]
  congr 1
  funext y
  simp only [Function.comp]
  rw [Bool.eq_iff_iff, beq_iff_eq, beq_iff_eq]
  exact ⟨fun h => ren_inj h, fun h => by rw [h]⟩
theorem rl_some {k : Int} {l : List Int} (h : partsOf k = some l) : rl k = l.map ren := by rw [rl, h]; rfl
/-- What a kind with a number is. -/
theorem partsOf_num (k : Int) (l : List Int) (h : partsOf k = some l) : hasI l 7 = (decide (k = 100) || decide (k = 101)) := by
  unfold partsOf at h
  cases hf : kinds.find? (fun p => p.1 == k) with
  | none => rw [hf] at h; cases h
  | some x =>
    rw [hf] at h
    have hk := List.find?_some hf
    have hm := List.mem_of_find?_eq_some hf
    have hx : x.1 = k := by simpa using hk
    have hl : x.2 = l := by simpa using h
    subst hx hl
    have : ∀ x ∈ kinds, hasI x.2 7 = (decide (x.1 = 100) || decide (x.1 = 101)) := by decide
    exact this x hm

set_option maxRecDepth 100000 in
set_option maxHeartbeats 8000000 in
theorem rCheckB (k : Ky) (w : World) (a1 : k.service.size ≤ 128) (a2 : k.name.size ≤ 128) (a3 : k.value.size ≤ 128) (a0 : kyLong k = false) :
    Calls Try.prog 17 #[kyV k] w fun e w' => e = .returned (.int .i64 (kyChk k)) ∧ Below w.heap.size w w' := by
  have hb0 : Below w.heap.size w (w.alloc (.cells (kyC k) 26)) := (Below.refl _ w).alloc (Nat.le_refl _) _
  have bk := Bk.new w 26 (kyC k)
  obtain ⟨w1, hw1⟩ : ∃ w1, w.alloc (.cells (kyC k) 26) = w1 := ⟨_, rfl⟩
  rw [hw1] at hb0 bk
  have HW := Lib.hid hw1
  obtain ⟨g, hg⟩ : ∃ g, w.heap.size = g := ⟨_, rfl⟩
  rw [hg] at bk
  have HG := Lib.hid hg
  obtain ⟨q, hq⟩ : ∃ q, kyChk k = q := ⟨_, rfl⟩
  rw [hq]
  have HQ := Lib.hid hq
  have HB0 := Lib.hid hb0
  have k0 : w1.cell? ⟨g, 0, none⟩ = some (.int .i64 k.kind) := bk.cell 0
  have k4 : w1.cell? ⟨g, 4, none⟩ = some (.string k.service) := bk.cell 4
  have k5 : w1.cell? ⟨g, 5, none⟩ = some (.string k.name) := bk.cell 5
  have k6 : w1.cell? ⟨g, 6, none⟩ = some (.string k.value) := bk.cell 6
  have hb1 : decide ((128 : Int) < (k.service.size : Int)) = false := by simp; omega
  have hb2 : decide ((128 : Int) < (k.name.size : Int)) = false := by simp; omega
  have hb3 : decide ((128 : Int) < (k.value.size : Int)) = false := by simp; omega
  have HQ2 : Hid (q = match partsOf k.kind with | none => 2 | some l => if kyFine k l = true then 0 else 2) := by
    rw [← HQ.out, kyChk, if_neg (by rw [a0]; simp)]
    exact Lib.hid rfl
  clear hw1 hg hq hb0 a0
  go_enter Try.func17, Try.ntmps17
  go_upto_region 1 with fail
  rw [HW.out, HG.out]
  go_upto_region 4 with (go_at_call 29; refine (refParts _ _).mono ?_; rintro e wc ⟨A, c, rfl, hr, hb⟩)
  have hk := bk.bS hb
  have hbel : Below w.heap.size w wc := HB0.out.trans (hb.mono HB0.out.size)
  have hle0 := partsOf_len k.kind
  have hle : (rl k.kind).length ≤ 7 := by rw [rl, List.length_map]; exact hle0
  clear hle0 k0 k4 k5 k6 bk hb
  obtain ⟨o, ho⟩ : ∃ o, partsOf k.kind = o := ⟨_, rfl⟩
  have hq2 := HQ2.out
  rw [ho] at hq2 ⊢
  have HO := Lib.hid ho
  clear ho HQ2 HQ
  cases o with
  | none =>
    have HQ3 := Lib.hid hq2
    clear hq2
    go_wp2
    go_ret
    exact ⟨by rw [HQ3.out]; rfl, hbel⟩
  | some l =>
  simp only [Option.isSome_some] at hq2 ⊢
  have hL := rl_some HO.out
  have hnum := partsOf_num _ _ HO.out
  have HNUM := Lib.hid hnum
  obtain ⟨n, hn⟩ : ∃ n, (rl k.kind).length = n := ⟨_, rfl⟩
  rw [hn] at hle ⊢
  have has : ∀ (x : Int) (m : Nat), Calls Try.prog 41 #[.slice A n c, .int .i64 x] (wc.drewN m) fun e w'' => e = .returned (.bool (hasI (rl k.kind) x)) ∧ w'' = wc.drewN m := fun x m => rHas x _ (hr.drewN m) hn (by omega)
  have E0 : Hid (hasI (rl k.kind) 0 = hasI l 0) := by rw [hL]; exact Lib.hid (has_ren l 0)
  have E2 : Hid (hasI (rl k.kind) 2 = hasI l 2) := by rw [hL]; exact Lib.hid (has_ren l 2)
  have E3 : Hid (hasI (rl k.kind) 3 = hasI l 3) := by rw [hL]; exact Lib.hid (has_ren l 3)
  have E4 : Hid (hasI (rl k.kind) 4 = hasI l 4) := by rw [hL]; exact Lib.hid (has_ren l 4)
  have E5 : Hid (hasI (rl k.kind) 5 = hasI l 5) := by rw [hL]; exact Lib.hid (has_ren l 5)
  have E6 : Hid (hasI (rl k.kind) 6 = hasI l 7) := by rw [hL]; exact Lib.hid (has_ren l 7)
  have E7 : Hid (hasI (rl k.kind) 7 = hasI l 6) := by rw [hL]; exact Lib.hid (has_ren l 6)
  obtain ⟨L, hLL⟩ : ∃ L, rl k.kind = L := ⟨_, rfl⟩
  rw [hLL] at has E0 E2 E3 E4 E5 E6 E7
  have HAS := Lib.hid has
  have HQQ := Lib.hid hq2
  clear has hL hnum hn hLL hr hle hq2
  have k0 : wc.cell? ⟨g, 0, none⟩ = some (.int .i64 k.kind) := hk.cell 0
  have k1 : wc.cell? ⟨g, 1, none⟩ = some (.int .u64 k.hi) := hk.cell 1
  have k2 : wc.cell? ⟨g, 2, none⟩ = some (.int .u64 k.lo) := hk.cell 2
  have k3 : wc.cell? ⟨g, 3, none⟩ = some (.int .u64 k.id) := hk.cell 3
  have k4 : wc.cell? ⟨g, 4, none⟩ = some (.string k.service) := hk.cell 4
  have k5 : wc.cell? ⟨g, 5, none⟩ = some (.string k.name) := hk.cell 5
  have k6 : wc.cell? ⟨g, 6, none⟩ = some (.string k.value) := hk.cell 6
  have k7 : wc.cell? ⟨g, 7, none⟩ = some (.int .u64 k.number) := hk.cell 7
  have k8 : wc.cell? ⟨g, 8, none⟩ = some (.int .i64 k.start) := hk.cell 8
  have hid0 : ∀ n : Nat, ((n : Int) == 0) = decide (n = 0) := fun n => by rw [Bool.eq_iff_iff, beq_iff_eq, decide_eq_true_iff]; omega
  have HI := Lib.hid hid0
  clear hid0
  go_upto_region 6 with fail
  obtain ⟨c6, hc6⟩ : ∃ b, (txtB k.service && txtB k.name && txtB k.value) = b := ⟨_, rfl⟩
  have C6 := Lib.hid hc6
  clear hc6
  go_cut [5] from 34 to 46 (fun v W => v = .bool c6 ∧ ∃ m, W = wc.drewN m)
  case first =>
    have hcs : (txtB k.service = false ∧ c6 = false) ∨ (txtB k.service = true ∧ txtB k.name = false ∧ c6 = false) ∨ (txtB k.service = true ∧ txtB k.name = true ∧ txtB k.value = false ∧ c6 = false) ∨ (txtB k.service = true ∧ txtB k.name = true ∧ txtB k.value = true ∧ c6 = true) := by
      have h := C6.out
      cases e1 : txtB k.service
      · exact .inl ⟨rfl, by rw [← h, e1]; rfl⟩
      cases e2 : txtB k.name
      · exact .inr (.inl ⟨rfl, rfl, by rw [← h, e1, e2]; rfl⟩)
      cases e3 : txtB k.value
      · exact .inr (.inr (.inl ⟨rfl, rfl, rfl, by rw [← h, e1, e2, e3]; rfl⟩))
      · exact .inr (.inr (.inr ⟨rfl, rfl, rfl, by rw [← h, e1, e2, e3]; rfl⟩))
    rcases hcs with ⟨h1, rfl⟩ | ⟨h1, h2, rfl⟩ | ⟨h1, h2, h3, rfl⟩ | ⟨h1, h2, h3, rfl⟩
    all_goals
      have H1 := Lib.hid h1
      try have H2 := Lib.hid h2
      try have H3 := Lib.hid h3
      clear h1
      try clear h2
      try clear h3
      go_wp2_with (go_at_call 40; refine (rTxt _ _).mono ?_; rintro e w' ⟨rfl, hw⟩; rw [hw]; clear hw w'; first | rw [H1.out] | rw [H2.out] | rw [H3.out])
      go_meet
      exact ⟨rfl, 0, rfl⟩
  case rest =>
  obtain ⟨rfl, m6, rfl⟩ := hcut
  go_upto_region 7 with fail
  obtain ⟨c7, hc7⟩ : ∃ b, (!(hasI l 0 == trc0 k) && !(hasI l 2 == decide (k.id = 0))) = b := ⟨_, rfl⟩
  have C7 := Lib.hid hc7
  clear hc7
  go_cut [6] from 47 to 61 (fun v W => v = .bool c7 ∧ ∃ m, W = wc.drewN m)
  case first =>
    have hcs : ((hasI L 0 == !trcB k.hi k.lo) = false ∧ c7 = false) ∨ ((hasI L 0 == !trcB k.hi k.lo) = true ∧ (hasI L 2 == ((k.id : Int) != 0)) = false ∧ c7 = false) ∨ ((hasI L 0 == !trcB k.hi k.lo) = true ∧ (hasI L 2 == ((k.id : Int) != 0)) = true ∧ c7 = true) := by
      have h := C7.out
      have e1 : (!(hasI l 0 == trc0 k)) = (hasI L 0 == !trcB k.hi k.lo) := by rw [E0.out]; unfold trc0; cases hasI l 0 <;> cases trcB k.hi k.lo <;> rfl
      have e2 : (!(hasI l 2 == decide (k.id = 0))) = (hasI L 2 == ((k.id : Int) != 0)) := by rw [E2.out, bne, HI.out]; cases hasI l 2 <;> cases decide (k.id = 0) <;> rfl
      rw [e1, e2] at h
      cases h1 : (hasI L 0 == !trcB k.hi k.lo)
      · exact .inl ⟨rfl, by rw [← h, h1]; rfl⟩
      cases h2 : (hasI L 2 == ((k.id : Int) != 0))
      · exact .inr (.inl ⟨rfl, rfl, by rw [← h, h1, h2]; rfl⟩)
      · exact .inr (.inr ⟨rfl, rfl, by rw [← h, h1, h2]; rfl⟩)
    rcases hcs with ⟨h1, rfl⟩ | ⟨h1, h2, rfl⟩ | ⟨h1, h2, rfl⟩
    all_goals
      go_quiet ((go_at_call 41; first | exact Calls.quiet_of_same (HAS.out _ _) | exact quiet_add_same (HAS.out _ _)))
      go_wp2
      go_meet
      exact ⟨rfl, _, World.drewN_drewN _ _ _⟩
  case rest =>
  obtain ⟨rfl, m7, rfl⟩ := hcut
  go_upto_region 8 with fail
  obtain ⟨c8, hc8⟩ : ∃ b, (!(hasI l 3 == decide (k.service.size = 0)) && !(hasI l 4 == decide (k.name.size = 0)) && (hasI l 5 || decide (k.value.size = 0))) = b := ⟨_, rfl⟩
  have C8 := Lib.hid hc8
  clear hc8
  go_cut [7] from 62 to 84 (fun v W => v = .bool c8 ∧ ∃ m, W = wc.drewN m)
  case first =>
    have hcs : ((hasI L 3 == !k.service.toList.isEmpty) = false ∧ c8 = false) ∨ ((hasI L 3 == !k.service.toList.isEmpty) = true ∧ (hasI L 4 == !k.name.toList.isEmpty) = false ∧ c8 = false) ∨
        ((hasI L 3 == !k.service.toList.isEmpty) = true ∧ (hasI L 4 == !k.name.toList.isEmpty) = true ∧ hasI L 5 = true ∧ c8 = true) ∨
        ((hasI L 3 == !k.service.toList.isEmpty) = true ∧ (hasI L 4 == !k.name.toList.isEmpty) = true ∧ hasI L 5 = false ∧ k.value.toList.isEmpty = true ∧ c8 = true) ∨
        ((hasI L 3 == !k.service.toList.isEmpty) = true ∧ (hasI L 4 == !k.name.toList.isEmpty) = true ∧ hasI L 5 = false ∧ k.value.toList.isEmpty = false ∧ c8 = false) := by
      have h := C8.out
      have e1 : (!(hasI l 3 == decide (k.service.size = 0))) = (hasI L 3 == !k.service.toList.isEmpty) := by rw [E3.out, str_isEmpty]; cases hasI l 3 <;> cases decide (k.service.size = 0) <;> rfl
      have e2 : (!(hasI l 4 == decide (k.name.size = 0))) = (hasI L 4 == !k.name.toList.isEmpty) := by rw [E4.out, str_isEmpty]; cases hasI l 4 <;> cases decide (k.name.size = 0) <;> rfl
      rw [e1, e2, ← E5.out, ← str_isEmpty] at h
      cases h1 : (hasI L 3 == !k.service.toList.isEmpty)
      · exact .inl ⟨rfl, by rw [← h, h1]; rfl⟩
      cases h2 : (hasI L 4 == !k.name.toList.isEmpty)
      · exact .inr (.inl ⟨rfl, rfl, by rw [← h, h1, h2]; rfl⟩)
      cases h3 : hasI L 5
      · cases h4 : k.value.toList.isEmpty
        · exact .inr (.inr (.inr (.inr ⟨rfl, rfl, rfl, rfl, by rw [← h, h1, h2, h3, h4]; rfl⟩)))
        · exact .inr (.inr (.inr (.inl ⟨rfl, rfl, rfl, rfl, by rw [← h, h1, h2, h3, h4]; rfl⟩)))
      · exact .inr (.inr (.inl ⟨rfl, rfl, rfl, by rw [← h, h1, h2, h3]; rfl⟩))
    rcases hcs with ⟨h1, rfl⟩ | ⟨h1, h2, rfl⟩ | ⟨h1, h2, h3, rfl⟩ | ⟨h1, h2, h3, h4, rfl⟩ | ⟨h1, h2, h3, h4, rfl⟩
    all_goals
      go_quiet ((go_at_call 41; first | exact Calls.quiet_of_same (HAS.out _ _) | exact quiet_add_same (HAS.out _ _)))
      go_wp2
      go_meet
      exact ⟨rfl, _, World.drewN_drewN _ _ _⟩
  case rest =>
  obtain ⟨rfl, m8, rfl⟩ := hcut
  go_upto_region 9 with fail
  obtain ⟨c9, hc9⟩ : ∃ b, ((hasI l 7 || decide (k.number = 0)) && (decide (k.kind ≠ 100) || decide (k.number ≤ 4611686018427387903))) = b := ⟨_, rfl⟩
  have C9 := Lib.hid hc9
  clear hc9
  go_cut [8] from 85 to 101 (fun v W => v = .bool c9 ∧ ∃ m, W = wc.drewN m)
  case first =>
    have hcs : (hasI L 6 = false ∧ ((k.number : Int) == 0) = true ∧ c9 = true) ∨ (hasI L 6 = false ∧ ((k.number : Int) == 0) = false ∧ c9 = false) ∨ (hasI L 6 = true ∧ (k.kind == 101) = true ∧ c9 = true) ∨
        (hasI L 6 = true ∧ (k.kind == 101) = false ∧ decide ((k.number : Int) ≤ 4611686018427387903) = true ∧ c9 = true) ∨ (hasI L 6 = true ∧ (k.kind == 101) = false ∧ decide ((k.number : Int) ≤ 4611686018427387903) = false ∧ ((k.number : Int) == 0) = false ∧ c9 = false) := by
      have h := C9.out
      have hn := HNUM.out
      rw [E6.out, HI.out]
      cases h1 : hasI l 7
      · rw [h1] at h hn
        have e : k.kind ≠ 100 := by intro e; rw [e] at hn; simp at hn
        cases h2 : decide (k.number = 0)
        · exact .inr (.inl ⟨rfl, rfl, by rw [← h, h2]; rfl⟩)
        · exact .inl ⟨rfl, rfl, by rw [← h, h2]; simp [e]⟩
      · rw [h1] at h hn
        by_cases e1 : k.kind = 101
        · exact .inr (.inr (.inl ⟨rfl, by rw [e1]; rfl, by rw [← h, e1]; simp⟩))
        · have e2 : k.kind = 100 := by simpa [e1] using hn
          by_cases e3 : k.number ≤ 4611686018427387903
          · exact .inr (.inr (.inr (.inl ⟨rfl, by rw [e2]; rfl, by simp; omega, by rw [← h]; simp [e3]⟩)))
          · exact .inr (.inr (.inr (.inr ⟨rfl, by rw [e2]; rfl, by simp; omega, by simp; omega, by rw [← h]; simp [e2, e3]⟩)))
    rcases hcs with ⟨h1, h2, rfl⟩ | ⟨h1, h2, rfl⟩ | ⟨h1, h2, rfl⟩ | ⟨h1, h2, h3, rfl⟩ | ⟨h1, h2, h3, h4, rfl⟩
    all_goals
      have H1 := Lib.hid h1
      clear h1
      go_wp2_with (go_at_call 41; refine (HAS.out _ _).mono ?_; rintro e w' ⟨rfl, hw⟩; rw [hw]; clear hw w'; rw [H1.out])
      go_meet
      exact ⟨rfl, _, rfl⟩
  case rest =>
  obtain ⟨rfl, m9, rfl⟩ := hcut
  go_upto_region 10 with fail
  obtain ⟨c10, hc10⟩ : ∃ b, (decide (0 ≤ k.start) && decide (k.start ≤ 4611686018427387903) && (hasI l 6 || decide (k.start = 0))) = b := ⟨_, rfl⟩
  have C10 := Lib.hid hc10
  clear hc10
  go_cut [9] from 102 to 118 (fun v W => v = .bool c10 ∧ ∃ m, W = wc.drewN m)
  case first =>
    have hcs : (hasI L 7 = false ∧ (k.start == 0) = true ∧ c10 = true) ∨ (hasI L 7 = false ∧ (k.start == 0) = false ∧ c10 = false) ∨ (hasI L 7 = true ∧ k.start < 0 ∧ (k.start == 0) = false ∧ c10 = false) ∨
        (hasI L 7 = true ∧ 0 ≤ k.start ∧ k.start ≤ 4611686018427387903 ∧ c10 = true) ∨ (hasI L 7 = true ∧ 0 ≤ k.start ∧ 4611686018427387903 < k.start ∧ (k.start == 0) = false ∧ c10 = false) := by
      have h := C10.out
      rw [E7.out]
      by_cases e0 : k.start = 0
      · cases h1 : hasI l 6
        · exact .inl ⟨rfl, by rw [e0]; rfl, by rw [← h, e0]; simp⟩
        · exact .inr (.inr (.inr (.inl ⟨rfl, by omega, by omega, by rw [← h, e0, h1]; rfl⟩)))
      · have e1 : (k.start == 0) = false := by rw [beq_eq_false_iff_ne]; exact e0
        cases h1 : hasI l 6
        · exact .inr (.inl ⟨rfl, e1, by rw [← h, h1]; simp [e0]⟩)
        · by_cases e2 : k.start < 0
          · exact .inr (.inr (.inl ⟨rfl, e2, e1, by rw [← h, decide_eq_false (show ¬ 0 ≤ k.start by omega)]; rfl⟩))
          · by_cases e3 : k.start ≤ 4611686018427387903
            · exact .inr (.inr (.inr (.inl ⟨rfl, by omega, e3, by rw [← h, h1, decide_eq_true e3, decide_eq_true (show 0 ≤ k.start by omega)]; rfl⟩)))
            · exact .inr (.inr (.inr (.inr ⟨rfl, by omega, by omega, e1, by rw [← h, decide_eq_false e3]; simp⟩)))
    rcases hcs with ⟨h1, h2, rfl⟩ | ⟨h1, h2, rfl⟩ | ⟨h1, h3, h2, rfl⟩ | ⟨h1, h3, h4, rfl⟩ | ⟨h1, h3, h4, h2, rfl⟩
    all_goals
      have H1 := Lib.hid h1
      clear h1
      try have d3 : decide (0 ≤ k.start) = false := by simp; omega
      try have d3 : decide (0 ≤ k.start) = true := by simp; omega
      try have d4 : decide (k.start ≤ 4611686018427387903) = true := by simp; omega
      try have d4 : decide (k.start ≤ 4611686018427387903) = false := by simp; omega
      go_wp2_with (go_at_call 41; refine (HAS.out _ _).mono ?_; rintro e w' ⟨rfl, hw⟩; rw [hw]; clear hw w'; rw [H1.out])
      go_meet
      exact ⟨rfl, _, rfl⟩
  case rest =>
  obtain ⟨rfl, m10, rfl⟩ := hcut
  have HF : Hid (kyFine k l = (c6 && c7 && c8 && c9 && c10)) := by
    rw [← C6.out, ← C7.out, ← C8.out, ← C9.out, ← C10.out]
    unfold kyFine
    generalize txtB k.service = x1
    generalize txtB k.name = x2
    generalize txtB k.value = x3
    generalize decide (0 ≤ k.start) = x4
    generalize decide (k.start ≤ 4611686018427387903) = x5
    generalize (hasI l 0 == trc0 k) = x6
    generalize (hasI l 2 == decide (k.id = 0)) = x7
    generalize (hasI l 3 == decide (k.service.size = 0)) = x8
    generalize (hasI l 4 == decide (k.name.size = 0)) = x9
    generalize (hasI l 5 || decide (k.value.size = 0)) = y1
    generalize (hasI l 6 || decide (k.start = 0)) = y2
    generalize (hasI l 7 || decide (k.number = 0)) = y3
    generalize (decide (k.kind ≠ 100) || decide (k.number ≤ 4611686018427387903)) = y4
    exact Lib.hid (by cases x1 <;> cases x2 <;> cases x3 <;> cases x4 <;> cases x5 <;> cases x6 <;> (try rfl) <;> cases x7 <;> (try rfl) <;> cases x8 <;> (try rfl) <;> cases x9 <;> (try rfl) <;> cases y1 <;> (try rfl) <;> cases y2 <;> cases y3 <;> cases y4 <;> rfl)
  have HQ5 : Hid (q = if (c6 && c7 && c8 && c9 && c10) = true then 0 else 2) := by rw [HQQ.out, ← HF.out]; exact Lib.hid rfl
  clear HF
  go_upto_region 11 with fail
  cases c6 with
  | false =>
    go_wp2
    go_ret
    exact ⟨by rw [HQ5.out]; rfl, below_drewN hbel _⟩
  | true =>
  cases c7 with
  | false =>
    go_wp2
    go_ret
    exact ⟨by rw [HQ5.out]; rfl, below_drewN hbel _⟩
  | true =>
  cases c8 with
  | false =>
    go_wp2
    go_ret
    exact ⟨by rw [HQ5.out]; rfl, below_drewN hbel _⟩
  | true =>
  cases c9 with
  | false =>
    go_wp2
    go_ret
    exact ⟨by rw [HQ5.out]; rfl, below_drewN hbel _⟩
  | true =>
  cases c10 with
  | false =>
    go_wp2
    go_ret
    exact ⟨by rw [HQ5.out]; rfl, below_drewN hbel _⟩
  | true =>
    go_wp2
    go_ret
    exact ⟨by rw [HQ5.out]; rfl, below_drewN hbel _⟩
set_option maxRecDepth 100000 in
set_option maxHeartbeats 2000000 in
theorem rCheck (k : Ky) (w : World) :
    Calls Try.prog 17 #[kyV k] w fun e w' => e = .returned (.int .i64 (kyChk k)) ∧ Below w.heap.size w w' := by
  have hsplit : (128 < k.service.size ∧ kyLong k = true) ∨ (k.service.size ≤ 128 ∧ 128 < k.name.size ∧ kyLong k = true) ∨ (k.service.size ≤ 128 ∧ k.name.size ≤ 128 ∧ 128 < k.value.size ∧ kyLong k = true) ∨ (k.service.size ≤ 128 ∧ k.name.size ≤ 128 ∧ k.value.size ≤ 128 ∧ kyLong k = false) := by
    unfold kyLong
    by_cases a1 : 128 < k.service.size
    · exact .inl ⟨a1, by simp [a1]⟩
    by_cases a2 : 128 < k.name.size
    · exact .inr (.inl ⟨by omega, a2, by simp [a2]⟩)
    by_cases a3 : 128 < k.value.size
    · exact .inr (.inr (.inl ⟨by omega, by omega, a3, by simp [a3]⟩))
    · exact .inr (.inr (.inr ⟨by omega, by omega, by omega, by simp; omega⟩))
  rcases hsplit with ⟨a1, a0⟩ | ⟨a1, a2, a0⟩ | ⟨a1, a2, a3, a0⟩ | ⟨a1, a2, a3, a0⟩
  case inr.inr.inr => exact rCheckB k w a1 a2 a3 a0
  all_goals
    have hb0 : Below w.heap.size w (w.alloc (.cells (kyC k) 26)) := (Below.refl _ w).alloc (Nat.le_refl _) _
    have bk := Bk.new w 26 (kyC k)
    obtain ⟨w1, hw1⟩ : ∃ w1, w.alloc (.cells (kyC k) 26) = w1 := ⟨_, rfl⟩
    rw [hw1] at hb0 bk
    have HW := Lib.hid hw1
    obtain ⟨g, hg⟩ : ∃ g, w.heap.size = g := ⟨_, rfl⟩
    rw [hg] at bk
    have HG := Lib.hid hg
    have HB0 := Lib.hid hb0
    have k4 : w1.cell? ⟨g, 4, none⟩ = some (.string k.service) := bk.cell 4
    have k5 : w1.cell? ⟨g, 5, none⟩ = some (.string k.name) := bk.cell 5
    have k6 : w1.cell? ⟨g, 6, none⟩ = some (.string k.value) := bk.cell 6
    have hq3 : kyChk k = 3 := by rw [kyChk, if_pos a0]
    first
      | (have e1 : (128 : Int) < (k.service.size : Int) := by omega)
      | (have e1 : decide ((128 : Int) < (k.service.size : Int)) = false := by simp; omega)
    first
      | (have e2 : (128 : Int) < (k.name.size : Int) := by omega)
      | (have e2 : decide ((128 : Int) < (k.name.size : Int)) = false := by simp; omega)
      | skip
    first
      | (have e3 : (128 : Int) < (k.value.size : Int) := by omega)
      | skip
    rw [hq3]
    clear hw1 hg hb0 bk hq3 a0
    go_enter Try.func17, Try.ntmps17
    go_upto_region 1 with fail
    rw [HW.out, HG.out]
    go_wp2
    go_ret
    exact ⟨rfl, HB0.out⟩
end Go.Proofs.Ytlamebbolioljaa

/- Keys: the document's part, First and Pack. -/
namespace Go.Proofs.Ytlamebbolioljaa
open Go.RowKit
theorem loadKy_shut2 (a : Addr) : loadVar 26 a = loadK 26 a := rfl
attribute [local go_sem ↓] loadKy_shut2

set_option maxRecDepth 100000 in
set_option maxHeartbeats 1000000 in
theorem rPart0 {base A c n} {xs : List Int} (k : Ky) (w : World) (ho : w.ownsRow base 5 1 (.slice A n c) n (bv xs)) (hb : base ≤ w.heap.size) (hx : k.hi < 18446744073709551616) (hn : n ≤ 1099511620000) :
    Calls Try.prog 36 #[.slice A n c, kyV k, .int .i64 0] w (RetApp base 5 1 w (.slice A n c) (xs ++ ordEnc k.hi).length (bv (xs ++ ordEnc k.hi)) (fun _ => True)) := by
  have hlen : xs.length = n := by have := own_length ho; rwa [bv_length] at this
  have happ : App base 5 1 w (.slice A n c) (w.alloc (.cells (kyC k) 26)) (.slice A n c) n (bv xs) := (App.refl ho).alloc _
  have HL := Lib.hid hlen
  clear hlen
  have cc := refOrdered (x := k.hi) (w.alloc (.cells (kyC k) 26)) happ.own (by simp; omega) hx (by omega)
  have hz8 : (xs ++ ordEnc k.hi).length = n + 8 := by rw [List.length_append, HL.out, ordEnc_len]
  obtain ⟨zs, hzs⟩ : ∃ zs, xs ++ ordEnc k.hi = zs := ⟨_, rfl⟩
  rw [hzs] at cc hz8 ⊢
  rw [← hz8] at cc
  have CC := Lib.hid cc
  clear cc hzs hz8
  go_enter Try.func36, Try.ntmps36
  go_wp2_with (go_at_call 58; refine CC.out.mono ?_; rintro e w' ⟨A2, c2, rfl, h2, -⟩)
  go_ret
  exact ⟨A2, c2, rfl, happ.trans h2, trivial⟩
set_option maxRecDepth 100000 in
set_option maxHeartbeats 1000000 in
theorem rPart1 {base A c n} {xs : List Int} (k : Ky) (w : World) (ho : w.ownsRow base 5 1 (.slice A n c) n (bv xs)) (hb : base ≤ w.heap.size) (hx : k.lo < 18446744073709551616) (hn : n ≤ 1099511620000) :
    Calls Try.prog 36 #[.slice A n c, kyV k, .int .i64 1] w (RetApp base 5 1 w (.slice A n c) (xs ++ ordEnc k.lo).length (bv (xs ++ ordEnc k.lo)) (fun _ => True)) := by
  have hlen : xs.length = n := by have := own_length ho; rwa [bv_length] at this
  have happ : App base 5 1 w (.slice A n c) (w.alloc (.cells (kyC k) 26)) (.slice A n c) n (bv xs) := (App.refl ho).alloc _
  have HL := Lib.hid hlen
  clear hlen
  have cc := refOrdered (x := k.lo) (w.alloc (.cells (kyC k) 26)) happ.own (by simp; omega) hx (by omega)
  have hz8 : (xs ++ ordEnc k.lo).length = n + 8 := by rw [List.length_append, HL.out, ordEnc_len]
  obtain ⟨zs, hzs⟩ : ∃ zs, xs ++ ordEnc k.lo = zs := ⟨_, rfl⟩
  rw [hzs] at cc hz8 ⊢
  rw [← hz8] at cc
  have CC := Lib.hid cc
  clear cc hzs hz8
  go_enter Try.func36, Try.ntmps36
  go_wp2_with (go_at_call 58; refine CC.out.mono ?_; rintro e w' ⟨A2, c2, rfl, h2, -⟩)
  go_ret
  exact ⟨A2, c2, rfl, happ.trans h2, trivial⟩
set_option maxRecDepth 100000 in
set_option maxHeartbeats 1000000 in
theorem rPart2 {base A c n} {xs : List Int} (k : Ky) (w : World) (ho : w.ownsRow base 5 1 (.slice A n c) n (bv xs)) (hb : base ≤ w.heap.size) (hx : k.id < 18446744073709551616) (hn : n ≤ 1099511620000) :
    Calls Try.prog 36 #[.slice A n c, kyV k, .int .i64 2] w (RetApp base 5 1 w (.slice A n c) (xs ++ ordEnc k.id).length (bv (xs ++ ordEnc k.id)) (fun _ => True)) := by
  have hlen : xs.length = n := by have := own_length ho; rwa [bv_length] at this
  have happ : App base 5 1 w (.slice A n c) (w.alloc (.cells (kyC k) 26)) (.slice A n c) n (bv xs) := (App.refl ho).alloc _
  have HL := Lib.hid hlen
  clear hlen
  have cc := refOrdered (x := k.id) (w.alloc (.cells (kyC k) 26)) happ.own (by simp; omega) hx (by omega)
  have hz8 : (xs ++ ordEnc k.id).length = n + 8 := by rw [List.length_append, HL.out, ordEnc_len]
  obtain ⟨zs, hzs⟩ : ∃ zs, xs ++ ordEnc k.id = zs := ⟨_, rfl⟩
  rw [hzs] at cc hz8 ⊢
  rw [← hz8] at cc
  have CC := Lib.hid cc
  clear cc hzs hz8
  go_enter Try.func36, Try.ntmps36
  go_wp2_with (go_at_call 58; refine CC.out.mono ?_; rintro e w' ⟨A2, c2, rfl, h2, -⟩)
  go_ret
  exact ⟨A2, c2, rfl, happ.trans h2, trivial⟩
set_option maxRecDepth 100000 in
set_option maxHeartbeats 1000000 in
theorem rPart3 {base A c n} {xs : List Int} (k : Ky) (w : World) (ho : w.ownsRow base 5 1 (.slice A n c) n (bv xs)) (hb : base ≤ w.heap.size) (hx : k.service.size ≤ 128) (hn : n ≤ 1099511620000) :
    Calls Try.prog 36 #[.slice A n c, kyV k, .int .i64 3] w (RetApp base 5 1 w (.slice A n c) (xs ++ txtEnc (nums k.service)).length (bv (xs ++ txtEnc (nums k.service))) (fun _ => True)) := by
  have hlen : xs.length = n := by have := own_length ho; rwa [bv_length] at this
  have happ : App base 5 1 w (.slice A n c) (w.alloc (.cells (kyC k) 26)) (.slice A n c) n (bv xs) := (App.refl ho).alloc _
  have HL := Lib.hid hlen
  clear hlen
  have cc := refOrderedText (s := k.service) (w.alloc (.cells (kyC k) 26)) happ.own (by simp; omega) (by omega) (by omega)
  obtain ⟨zs, hzs⟩ : ∃ zs, xs ++ txtEnc (nums k.service) = zs := ⟨_, rfl⟩
  rw [hzs] at cc ⊢
  have CC := Lib.hid cc
  clear cc hzs
  go_enter Try.func36, Try.ntmps36
  go_wp2_with (go_at_call 59; refine CC.out.mono ?_; rintro e w' ⟨A2, c2, rfl, h2, -⟩)
  go_ret
  exact ⟨A2, c2, rfl, happ.trans h2, trivial⟩
set_option maxRecDepth 100000 in
set_option maxHeartbeats 1000000 in
theorem rPart4 {base A c n} {xs : List Int} (k : Ky) (w : World) (ho : w.ownsRow base 5 1 (.slice A n c) n (bv xs)) (hb : base ≤ w.heap.size) (hx : k.name.size ≤ 128) (hn : n ≤ 1099511620000) :
    Calls Try.prog 36 #[.slice A n c, kyV k, .int .i64 4] w (RetApp base 5 1 w (.slice A n c) (xs ++ txtEnc (nums k.name)).length (bv (xs ++ txtEnc (nums k.name))) (fun _ => True)) := by
  have hlen : xs.length = n := by have := own_length ho; rwa [bv_length] at this
  have happ : App base 5 1 w (.slice A n c) (w.alloc (.cells (kyC k) 26)) (.slice A n c) n (bv xs) := (App.refl ho).alloc _
  have HL := Lib.hid hlen
  clear hlen
  have cc := refOrderedText (s := k.name) (w.alloc (.cells (kyC k) 26)) happ.own (by simp; omega) (by omega) (by omega)
  obtain ⟨zs, hzs⟩ : ∃ zs, xs ++ txtEnc (nums k.name) = zs := ⟨_, rfl⟩
  rw [hzs] at cc ⊢
  have CC := Lib.hid cc
  clear cc hzs
  go_enter Try.func36, Try.ntmps36
  go_wp2_with (go_at_call 59; refine CC.out.mono ?_; rintro e w' ⟨A2, c2, rfl, h2, -⟩)
  go_ret
  exact ⟨A2, c2, rfl, happ.trans h2, trivial⟩
set_option maxRecDepth 100000 in
set_option maxHeartbeats 1000000 in
theorem rPart5 {base A c n} {xs : List Int} (k : Ky) (w : World) (ho : w.ownsRow base 5 1 (.slice A n c) n (bv xs)) (hb : base ≤ w.heap.size) (hx : k.value.size ≤ 128) (hn : n ≤ 1099511620000) :
    Calls Try.prog 36 #[.slice A n c, kyV k, .int .i64 5] w (RetApp base 5 1 w (.slice A n c) (xs ++ txtEnc (nums k.value)).length (bv (xs ++ txtEnc (nums k.value))) (fun _ => True)) := by
  have hlen : xs.length = n := by have := own_length ho; rwa [bv_length] at this
  have happ : App base 5 1 w (.slice A n c) (w.alloc (.cells (kyC k) 26)) (.slice A n c) n (bv xs) := (App.refl ho).alloc _
  have HL := Lib.hid hlen
  clear hlen
  have cc := refOrderedText (s := k.value) (w.alloc (.cells (kyC k) 26)) happ.own (by simp; omega) (by omega) (by omega)
  obtain ⟨zs, hzs⟩ : ∃ zs, xs ++ txtEnc (nums k.value) = zs := ⟨_, rfl⟩
  rw [hzs] at cc ⊢
  have CC := Lib.hid cc
  clear cc hzs
  go_enter Try.func36, Try.ntmps36
  go_wp2_with (go_at_call 59; refine CC.out.mono ?_; rintro e w' ⟨A2, c2, rfl, h2, -⟩)
  go_ret
  exact ⟨A2, c2, rfl, happ.trans h2, trivial⟩
set_option maxRecDepth 100000 in
set_option maxHeartbeats 1000000 in
theorem rPart6 {base A c n} {xs : List Int} (k : Ky) (w : World) (ho : w.ownsRow base 5 1 (.slice A n c) n (bv xs)) (hb : base ≤ w.heap.size) (h0 : 0 ≤ k.start) (h1 : k.start ≤ 4611686018427387903) (hn : n ≤ 1099511620000) :
    Calls Try.prog 36 #[.slice A n c, kyV k, .int .i64 7] w (RetApp base 5 1 w (.slice A n c) (xs ++ ordEnc k.start.toNat).length (bv (xs ++ ordEnc k.start.toNat)) (fun _ => True)) := by
  have hlen : xs.length = n := by have := own_length ho; rwa [bv_length] at this
  have happ : App base 5 1 w (.slice A n c) (w.alloc (.cells (kyC k) 26)) (.slice A n c) n (bv xs) := (App.refl ho).alloc _
  have HL := Lib.hid hlen
  clear hlen
  have hst : k.start = ((k.start.toNat : Nat) : Int) := by omega
  obtain ⟨x, hx⟩ : ∃ x, k.start.toNat = x := ⟨_, rfl⟩
  rw [hx] at hst ⊢
  have hxs : x < 18446744073709551616 := by omega
  have HST := Lib.hid hst
  clear hx hst
  have cc := refOrdered (x := x) (w.alloc (.cells (kyC k) 26)) happ.own (by simp; omega) hxs (by omega)
  have hz8 : (xs ++ ordEnc x).length = n + 8 := by rw [List.length_append, HL.out, ordEnc_len]
  obtain ⟨zs, hzs⟩ : ∃ zs, xs ++ ordEnc x = zs := ⟨_, rfl⟩
  rw [hzs] at cc hz8 ⊢
  rw [← hz8] at cc
  have CC := Lib.hid cc
  clear cc hzs hz8
  go_enter Try.func36, Try.ntmps36
  go_wp2_with fail
  rw [HST.out]
  refine CC.out.mono ?_
  rintro e w' ⟨A2, c2, rfl, h2, -⟩
  go_wp2
  go_ret
  exact ⟨A2, c2, rfl, happ.trans h2, trivial⟩
set_option maxRecDepth 100000 in
set_option maxHeartbeats 1000000 in
theorem rPart7 {base A c n} {xs : List Int} (k : Ky) (w : World) (ho : w.ownsRow base 5 1 (.slice A n c) n (bv xs)) (hb : base ≤ w.heap.size) (hx : k.number < 18446744073709551616) (hn : n ≤ 1099511620000) :
    Calls Try.prog 36 #[.slice A n c, kyV k, .int .i64 6] w (RetApp base 5 1 w (.slice A n c) (xs ++ ordEnc k.number).length (bv (xs ++ ordEnc k.number)) (fun _ => True)) := by
  have hlen : xs.length = n := by have := own_length ho; rwa [bv_length] at this
  have happ : App base 5 1 w (.slice A n c) (w.alloc (.cells (kyC k) 26)) (.slice A n c) n (bv xs) := (App.refl ho).alloc _
  have HL := Lib.hid hlen
  clear hlen
  have cc := refOrdered (x := k.number) (w.alloc (.cells (kyC k) 26)) happ.own (by simp; omega) hx (by omega)
  have hz8 : (xs ++ ordEnc k.number).length = n + 8 := by rw [List.length_append, HL.out, ordEnc_len]
  obtain ⟨zs, hzs⟩ : ∃ zs, xs ++ ordEnc k.number = zs := ⟨_, rfl⟩
  rw [hzs] at cc hz8 ⊢
  rw [← hz8] at cc
  have CC := Lib.hid cc
  clear cc hzs hz8
  go_enter Try.func36, Try.ntmps36
  go_wp2_with (go_at_call 58; refine CC.out.mono ?_; rintro e w' ⟨A2, c2, rfl, h2, -⟩)
  go_ret
  exact ⟨A2, c2, rfl, happ.trans h2, trivial⟩
set_option maxRecDepth 100000 in
theorem rPart {base A c n} {xs : List Int} (k : Ky) (p : Int) (w : World) (hu : k.U64) (hc : kyChk k = 0) (hp0 : 0 ≤ p) (hp1 : p < 8) (ho : w.ownsRow base 5 1 (.slice A n c) n (bv xs)) (hb : base ≤ w.heap.size) (hn : n ≤ 1099511620000) :
    Calls Try.prog 36 #[.slice A n c, kyV k, .int .i64 (ren p)] w (RetApp base 5 1 w (.slice A n c) (xs ++ partEnc k p).length (bv (xs ++ partEnc k p)) (fun _ => True)) := by
  obtain ⟨a1, a2, a3, a4, a5, _⟩ := kyChk_ok hc
  obtain ⟨u1, u2, u3, u4⟩ := hu
  have hcs : p = 0 ∨ p = 1 ∨ p = 2 ∨ p = 3 ∨ p = 4 ∨ p = 5 ∨ p = 6 ∨ p = 7 := by omega
  rcases hcs with rfl | rfl | rfl | rfl | rfl | rfl | rfl | rfl
  · exact rPart0 k w ho hb u1 hn
  · exact rPart1 k w ho hb u2 hn
  · exact rPart2 k w ho hb u3 hn
  · exact rPart3 k w ho hb a1 hn
  · exact rPart4 k w ho hb a2 hn
  · exact rPart5 k w ho hb a3 hn
  · exact rPart6 k w ho hb a4 a5 hn
  · exact rPart7 k w ho hb u4 hn
set_option maxRecDepth 100000 in
set_option maxHeartbeats 8000000 in
theorem rFirst (k : Ky) (n : Int) (w : World) (hu : k.U64) (hn0 : -9223372036854775808 ≤ n) (hn1 : n ≤ 9223372036854775807) :
    Calls Try.prog 15 #[kyV k, .int .i64 n] w (KeyMade w (firstOf k n)) := by
  have hb0 : Below w.heap.size w (w.alloc (.cells (kyC k) 26)) := (Below.refl _ w).alloc (Nat.le_refl _) _
  have bk := Bk.new w 26 (kyC k)
  obtain ⟨w1, hw1⟩ : ∃ w1, w.alloc (.cells (kyC k) 26) = w1 := ⟨_, rfl⟩
  rw [hw1] at hb0 bk
  have HW := Lib.hid hw1
  obtain ⟨g, hg⟩ : ∃ g, w.heap.size = g := ⟨_, rfl⟩
  rw [hg] at bk
  have HG := Lib.hid hg
  have HB0 := Lib.hid hb0
  have la := loadK_ky bk
  obtain ⟨q, hq⟩ : ∃ q, kyChk k = q := ⟨_, rfl⟩
  have cc := rCheck k w1
  rw [hq] at cc
  have CC := Lib.hid cc
  obtain ⟨r, hr⟩ : ∃ r, firstOf k n = r := ⟨_, rfl⟩
  rw [hr]
  by_cases hq0 : q = 0
  case neg =>
    have HR : Hid (r = ([], q)) := by rw [← hr, firstOf, if_pos (by omega), hq]; exact Lib.hid rfl
    have d : ((q : Int) != 0) = true := by rw [bne_iff_ne]; omega
    clear hw1 hg hb0 hq cc hr hq0
    go_enter Try.func15, Try.ntmps15
    go_upto_region 1 with fail
    rw [HW.out, HG.out]
    go_wp2_with (go_at_call 17; refine CC.out.mono ?_; rintro e w2 ⟨rfl, hb2⟩)
    go_ret2
    exact .no HR.out rfl (HB0.out.trans (hb2.mono HB0.out.size))
  case pos =>
    subst hq0
    have HQ := Lib.hid hq
    have HR : Hid (r = if n < 0 ∨ ((kyParts k).length : Int) < n then ([], 2) else (keyTo k ((kyParts k).take n.toNat), 0)) := by rw [← hr, firstOf, if_neg (by omega)]; exact Lib.hid rfl
    have hle : (kyParts k).length ≤ 7 := partsOf_len k.kind
    clear hw1 hg hb0 hq cc hr
    go_enter Try.func15, Try.ntmps15
    go_upto_region 1 with fail
    rw [HW.out, HG.out]
    go_upto_region 4 with (go_at_call 17; refine CC.out.mono ?_; rintro e w2 ⟨rfl, hb2⟩)
    have bk2 := bk.bS hb2
    have hbw : Below w.heap.size w w2 := HB0.out.trans (hb2.mono HB0.out.size)
    have kd0 : w2.cell? ⟨g, 0, none⟩ = some (.int .i64 k.kind) := bk2.cell 0
    clear la bk hb2
    go_upto_region 5 with (go_at_call 29; refine (refParts _ _).mono ?_; rintro e wc ⟨A, c, rfl, hrd, hb⟩)
    have hk := bk2.bS hb
    have hbel := hbw.trans (hb.mono hbw.size)
    clear kd0 bk2 hb hbw
    have hrl : rl k.kind = (kyParts k).map ren := rfl
    rw [hrl, List.length_map]
    rw [hrl] at hrd
    obtain ⟨m, hm⟩ : ∃ m, (kyParts k).length = m := ⟨_, rfl⟩
    rw [hm] at hle ⊢
    have hr2 := HR.out
    rw [hm] at hr2
    have HM := Lib.hid hm
    have HR2 := Lib.hid hr2
    have kc0 : wc.cell? ⟨g, 0, none⟩ = some (.int .i64 k.kind) := hk.cell 0
    clear hm hr2 HR hrl
    by_cases h1 : n < 0
    · go_wp2
      go_ret2
      exact .no (by rw [HR2.out, if_pos (.inl h1)]) rfl hbel
    by_cases h2 : (m : Int) < n
    · have d1 : decide (n < 0) = false := by simp; omega
      go_wp2
      go_ret2
      exact .no (by rw [HR2.out, if_pos (.inr h2)]) rfl hbel
    obtain ⟨j, rfl⟩ := Int.eq_ofNat_of_zero_le (show 0 ≤ n by omega)
    have d1 : decide ((j : Int) < 0) = false := by simp
    have d2 : decide ((m : Int) < (j : Int)) = false := by simp; omega
    have d3 : j ≤ m := by omega
    have d4 : decide (m < j) = false := by simp; omega
    have d5 : ¬ m < j := by omega
    have HR3 : Hid (r = (keyTo k ((kyParts k).take j), 0)) := by rw [HR2.out, if_neg (by omega)]; exact Lib.hid rfl
    clear h1 h2 hn0 hn1 HR2
    have hbw : w.heap.size ≤ wc.heap.size := hbel.size
    have ho : (wc.alloc (.cells #[.int .u8 (k.kind % 256)] 5)).ownsRow w.heap.size 5 1 (.slice (some ⟨wc.heap.size, 0, none⟩) 1 1) 1 (bv [k.kind % 256]) :=
      World.ownsRow_lit wc #[.int .u8 (k.kind % 256)] 1 hbw (by simp [maxLen]) rfl
    have hbl1 : Below w.heap.size w (wc.alloc (.cells #[.int .u8 (k.kind % 256)] 5)) := hbel.alloc hbw _
    have hk1 := hk.alloc (.cells #[.int .u8 (k.kind % 256)] 5)
    have hrd1 := hrd.alloc (Nat.le_refl _) (.cells #[.int .u8 (k.kind % 256)] 5)
    have hgl : g < wc.heap.size := hk.lt
    obtain ⟨W1, hW1⟩ : ∃ W1, wc.alloc (.cells #[.int .u8 (k.kind % 256)] 5) = W1 := ⟨_, rfl⟩
    have hs1 : W1.heap.size = wc.heap.size + 1 := by rw [← hW1]; simp
    rw [hW1] at ho hbl1 hk1 hrd1
    have HW1 := Lib.hid hW1
    have HS1 := Lib.hid hs1
    have HBEL := Lib.hid hbel
    have HK := Lib.hid hk
    have HRD := Lib.hid hrd
    clear hW1 hs1 hbel hk hrd
    go_wp2
    rw [HW1.out]
    obtain ⟨wh, hwh⟩ : ∃ wh, wc.heap.size = wh := ⟨_, rfl⟩
    rw [hwh] at ho hrd1 hgl hbw ⊢
    have HS2 : Hid (W1.heap.size = wh + 1) := by rw [HS1.out, hwh]; exact Lib.hid rfl
    clear hwh HS1 HW1 HBEL HK HRD kc0
    go_loopw [9, 10] (fun v i wr => ∃ (A' : Option Addr) (c' mm x : Nat) (ys : List Int), v = .slice A' mm c' ∧ i = .int .i64 x ∧ x ≤ j ∧ App w.heap.size 5 1 W1 (.slice (some ⟨wh, 0, none⟩) 1 1) wr (.slice A' mm c') mm (bv ys) ∧ ys = keyTo k ((kyParts k).take x) ∧ mm ≤ 1 + 258 * x ∧ Bk wr g 26 (kyC k) ∧ Rd wr wh A (iv ((kyParts k).map ren)) ∧ Below w.heap.size w wr) (fun _ i _ => j - (intOf i).toNat)
    case atStart => exact ⟨_, 1, 1, 0, _, rfl, rfl, Nat.zero_le _, App.refl ho, by simp [keyTo], by omega, hk1, hrd1, hbl1⟩
    case round =>
      obtain ⟨A', c', mm, x, ys, rfl, rfl, hx, happ, hys, hmm, hkr, hrr, hbr⟩ := hrel
      have HY := Lib.hid hys
      clear hys hk1 hrd1 hbl1 ho
      have hrow : ∀ b, (Value.slice A' mm c').ownBlock = some b → wh ≤ b := fun b hb => by
        rcases happ.block with h | ⟨b', h, h2⟩
        · rw [hb] at h; simp [Value.ownBlock] at h; omega
        · rw [hb] at h; cases h; rw [HS2.out] at h2; omega
      by_cases hlt : x < j
      · have hlt' : (x : Int) < (j : Int) := by omega
        obtain ⟨p, hp⟩ : ∃ p, (kyParts k)[x]? = some p := ⟨_, List.getElem?_eq_getElem (by rw [HM.out]; omega)⟩
        have hp' : ((kyParts k).map ren)[x]? = some (ren p) := by rw [List.getElem?_map, hp]; rfl
        obtain ⟨b, o, rfl, hbb, hcell⟩ := hrr.get (iv_get hp')
        have hpr := partsOf_rng k.kind p (List.mem_of_getElem? hp)
        have hlen : (partEnc k p).length ≤ 258 := by
          unfold partEnc
          cases hit : (allOf k)[p.toNat]? with
          | none => simp
          | some it => exact itEnc_len (all_fine hu HQ.out it (List.mem_of_getElem? hit))
        have HN : Hid (ys ++ partEnc k p = keyTo k ((kyParts k).take (x + 1))) := by rw [take_snoc hp, keyTo_snoc, ← HY.out]; exact Lib.hid rfl
        have la := loadK_ky hkr.drew
        have hc1 : wr.drew.cell? ⟨b, o + x, none⟩ = some (.int .i64 (ren p)) := hcell
        have hx0 : (0 : Int) ≤ (x : Int) := by omega
        have hxm : (x : Int) < (m : Int) := by omega
        have hl1 : (ys ++ partEnc k p).length ≤ mm + 258 := by
          have h1 := own_length happ.own
          rw [bv_length] at h1
          rw [List.length_append, h1]
          omega
        have cp := rPart (c := c') k p wr.drew hu HQ.out hpr.1 hpr.2 happ.drew.own (show w.heap.size ≤ wr.drew.heap.size from hbr.size) (by omega)
        obtain ⟨zs, hzs⟩ : ∃ zs, ys ++ partEnc k p = zs := ⟨_, rfl⟩
        rw [hzs] at cp hl1
        have HN2 : Hid (zs = keyTo k ((kyParts k).take (x + 1))) := by rw [← HN.out, ← hzs]; exact Lib.hid rfl
        have CP := Lib.hid cp
        have HKR := Lib.hid hkr
        have HRR := Lib.hid hrr
        obtain ⟨rp, hrp⟩ : ∃ rp, ren p = rp := ⟨_, rfl⟩
        rw [hrp] at hc1
        have CP2 : Hid (Calls Try.prog 36 #[.slice A' mm c', kyV k, .int .i64 rp] wr.drew (RetApp w.heap.size 5 1 wr.drew (.slice A' mm c') zs.length (bv zs) (fun _ => True))) := by rw [← hrp]; exact CP
        clear hp hp' hpr cp hkr hrr hcell hrp hzs CP
        go_wp2_with fail
        go_region_held3 (fun w' => (loadK 26 ⟨g, 0, none⟩).run Try.prog w' = .ok (kyV k) w' ∧ w'.cell? ⟨b, o + x, none⟩ = some (.int .i64 rp)) (first | go_keep | exact ⟨trivial, trivial⟩)
          (first | (go_at_call 36; refine CP2.out.mono ?_; rintro e w4 ⟨A4, c4, rfl, h4, -⟩
                    have la4 : (loadK 26 ⟨g, 0, none⟩).run Try.prog w4 = .ok (kyV k) w4 := loadK_ky (HKR.out.drew.grown h4.grown (fun e => by have := hrow g e.symm; omega))
                    have hc4 : w4.cell? ⟨b, o + x, none⟩ = some (.int .i64 rp) := (World.cell?_of_block (a := ⟨b, o + x, none⟩) (h4.grown.block b (by have := happ.heap; rw [HS2.out] at this; show b < wr.heap.size; omega) (fun e => by have := hrow b e.symm; omega))).trans hc1) | fail)
        all_goals
          go_wp2
          go_roundw
          case rel => exact ⟨A4, c4, _, x + 1, zs, rfl, by go_num, by omega, happ.drew.trans h4, HN2.out, by omega, HKR.out.drew.grown h4.grown (fun e => by have := hrow g e.symm; omega),
            (HRR.out.drew).grown h4.grown (by have := happ.heap; rw [HS2.out] at this; show wh ≤ wr.heap.size; omega) hrow,
            (below_drewN hbr 1).trans (grown_below h4.grown (show w.heap.size ≤ wr.heap.size from hbr.size) (fun b hb => by have := hrow b hb; omega))⟩
          case measure => simp [intOf]; omega
      · have hlt' : decide ((x : Int) < (j : Int)) = false := by simp; omega
        have HE : Hid (ys = keyTo k ((kyParts k).take j)) := by rw [HY.out, show x = j from by omega]; exact Lib.hid rfl
        have hml : ys.length = mm := by have := own_length happ.own; rwa [bv_length] at this
        have HML := Lib.hid hml
        clear hml
        go_wp2
        go_ret2
        have hle2 := happ.cap
        refine ⟨A', c', by rw [HR3.out, ← HE.out, HML.out]; rfl, by rw [HR3.out, ← HE.out]; exact happ.rd, hbr, by rw [HR3.out, ← HE.out, HML.out]; exact hle2, fun e => ?_, fun a e => ?_⟩
        · have h1 : (keyTo k ((kyParts k).take j)).length ≠ 0 := by simp [keyTo]
          rw [← HE.out, HML.out] at h1
          subst e
          rcases happ.own.2 with ⟨h2, h3⟩ | ⟨_, _, _, h2, _⟩
          · exact absurd h3 h1
          · injection h2 with h2; cases h2
        · subst e
          exact (happ.own.lt a.block rfl).1
set_option maxRecDepth 100000 in
set_option maxHeartbeats 4000000 in
theorem rPackK (k : Ky) (w : World) (hu : k.U64) : Calls Try.prog 11 #[kyV k] w (KeyMade w (packOf k)) := by
  have hb0 : Below w.heap.size w (w.alloc (.cells (kyC k) 26)) := (Below.refl _ w).alloc (Nat.le_refl _) _
  have bk := Bk.new w 26 (kyC k)
  obtain ⟨w1, hw1⟩ : ∃ w1, w.alloc (.cells (kyC k) 26) = w1 := ⟨_, rfl⟩
  rw [hw1] at hb0 bk
  have HW := Lib.hid hw1
  obtain ⟨g, hg⟩ : ∃ g, w.heap.size = g := ⟨_, rfl⟩
  rw [hg] at bk
  have HG := Lib.hid hg
  have HB0 := Lib.hid hb0
  obtain ⟨r, hr⟩ : ∃ r, packOf k = r := ⟨_, rfl⟩
  rw [hr]
  have hle : (kyParts k).length ≤ 7 := partsOf_len k.kind
  have cf : ∀ W, Calls Try.prog 15 #[kyV k, .int .i64 (kyParts k).length] W (KeyMade W r) := fun W => by
    rw [← hr]
    exact rFirst k _ W hu (by omega) (by omega)
  have CF := Lib.hid cf
  have kd0 : w1.cell? ⟨g, 0, none⟩ = some (.int .i64 k.kind) := bk.cell 0
  clear hw1 hg hb0 hr cf
  go_enter Try.func11, Try.ntmps11
  go_upto_region 1 with fail
  rw [HW.out, HG.out]
  go_upto_region 2 with (go_at_call 29; refine (refParts _ _).mono ?_; rintro e w3 ⟨A, c, rfl, hrd, hb3⟩)
  have bk3 := bk.bS hb3
  have la := loadK_ky bk3
  have hrl : rl k.kind = (kyParts k).map ren := rfl
  rw [hrl, List.length_map]
  have hbb : Below w.heap.size w w3 := HB0.out.trans (hb3.mono HB0.out.size)
  clear hrd hrl kd0 hb3
  go_wp2_with (go_at_call 15; refine (CF.out _).mono ?_; rintro e w4 ⟨A4, c4, rfl, hR4⟩; have HR4 := Lib.hid hR4; clear hR4)
  go_ret2
  obtain ⟨h1, h2, h3, h4, h5⟩ := HR4.out
  exact ⟨A4, c4, rfl, h1, hbb.trans (h2.mono hbb.size), h3, h4, fun a e => Nat.le_trans hbb.size (h5 a e)⟩
end Go.Proofs.Ytlamebbolioljaa

/- Keys: what Unpack reads, and its memory. -/
namespace Go.Proofs.Ytlamebbolioljaa
open Go.RowKit

def zeroKy : Ky := ⟨0, 0, 0, 0, ⟨#[]⟩, ⟨#[]⟩, ⟨#[]⟩, 0, 0⟩
abbrev zkyC : Array Value := #[.int .i64 0, .int .u64 0, .int .u64 0, .int .u64 0, .string ⟨#[]⟩, .string ⟨#[]⟩, .string ⟨#[]⟩, .int .u64 0, .int .i64 0]
def putN (k : Ky) (p : Int) (x : Nat) : Ky := if p = 0 then { k with hi := x } else if p = 1 then { k with lo := x } else if p = 2 then { k with id := x } else if p = 7 then { k with number := x } else k
def putT (t : Nat) (p : Int) (x : Nat) : Nat := if p = 6 then x else t
def putS (k : Ky) (p : Int) (s : ByteArray) : Ky := if p = 3 then { k with service := s } else if p = 4 then { k with name := s } else { k with value := s }
def isTxt (p : Int) : Bool := decide (p = 3) || decide (p = 4) || decide (p = 5)
def unpGo : List Int → List Int → Ky → Nat → (Ky × Nat × List Int) ⊕ Nat
  | [], b, k, t => .inl (k, t, b)
  | p :: ps, b, k, t =>
    if isTxt p = true then
      match txtOf b with
      | .inl (out, i) => unpGo ps (b.drop i) (putS k p (strOfNums out)) t
      | .inr e => .inr e
    else if b.length < 8 then .inr 12
    else unpGo ps (b.drop 8) (putN k p (ordVal (b.take 8))) (putT t p (ordVal (b.take 8)))
def unpEnd (r : (Ky × Nat × List Int) ⊕ Nat) : Ky × Nat :=
  match r with
  | .inr e => (zeroKy, e)
  | .inl (k, t, b) => if b ≠ [] ∨ 4611686018427387903 < t ∨ (k.kind = 100 ∧ 4611686018427387903 < k.number) then (zeroKy, 4) else
      if kyChk { k with start := t } ≠ 0 then (zeroKy, kyChk { k with start := t }) else ({ k with start := t }, 0)
def unpOf : List Int → Ky × Nat
  | [] => (zeroKy, 12)
  | c :: rest => match partsOf c with
    | none => (zeroKy, 4)
    | some l => unpEnd (unpGo l rest { zeroKy with kind := c } 0)
theorem txtRead_le (b : List Int) : ∀ (f i : Nat) (out o : List Int) (j : Nat), txtRead b i out f = .inl (o, j) → j ≤ b.length ∧ i + 2 ≤ j := by
  intro f
  induction f with
  | zero => intro i out o j h; simp [txtRead] at h
  | succ f ih =>
    intro i out o j h
    rw [txtRead] at h
    cases hx : b[i]? with
    | none => rw [hx] at h; simp at h
    | some x =>
      rw [hx] at h
      simp only at h
      by_cases h0 : x ≠ 0
      · rw [if_pos h0] at h
        have := ih _ _ _ _ h
        omega
      · rw [if_neg h0] at h
        cases hy : b[i + 1]? with
        | none => rw [hy] at h; simp at h
        | some y =>
          rw [hy] at h
          simp only at h
          have hl := (List.getElem?_eq_some_iff.1 hy).1
          by_cases h1 : y = 1
          · rw [if_pos h1] at h
            simp at h
            omega
          · rw [if_neg h1] at h
            by_cases h2 : y = 255
            · rw [if_pos h2] at h
              have := ih _ _ _ _ h
              omega
            · rw [if_neg h2] at h
              simp at h
theorem txtOf_le {b o : List Int} {j : Nat} (h : txtOf b = .inl (o, j)) : j ≤ b.length := (txtRead_le b _ _ _ _ _ h).1
theorem txtRead_err (b : List Int) : ∀ (f i : Nat) (out : List Int) (e : Nat), txtRead b i out f = .inr e → e = 12 ∨ e = 4 := by
  intro f
  induction f with
  | zero => intro i out e h; simp [txtRead] at h; omega
  | succ f ih =>
    intro i out e h
    rw [txtRead] at h
    cases hx : b[i]? with
    | none => rw [hx] at h; simp at h; omega
    | some x =>
      rw [hx] at h
      simp only at h
      by_cases h0 : x ≠ 0
      · rw [if_pos h0] at h
        exact ih _ _ _ h
      · rw [if_neg h0] at h
        cases hy : b[i + 1]? with
        | none => rw [hy] at h; simp at h; omega
        | some y =>
          rw [hy] at h
          simp only at h
          by_cases h1 : y = 1
          · rw [if_pos h1] at h
            simp at h
          · rw [if_neg h1] at h
            by_cases h2 : y = 255
            · rw [if_pos h2] at h
              exact ih _ _ _ h
            · rw [if_neg h2] at h
              simp at h
              omega
theorem txtOf_err {b : List Int} {e : Nat} (h : txtOf b = .inr e) : e = 12 ∨ e = 4 := txtRead_err b _ _ _ _ h

def UnPost (w : World) (r : Ky × Nat) (e : Ending) (w' : World) : Prop := e = .returned (.tuple #[kyV r.1, .int .i64 r.2]) ∧ Below w.heap.size w w'
theorem results_cell_row_tmpK {P : Program} {fn : Func} {p u : Tmp} {ty : TypeId} (h : fn.results = #[.cell p ty, .tmp u]) (tmps : Array Value) (w : World) (g : Nat) (t : TypeId) (cs : Array Value) (d : TypeDesc)
    (hp : tmps.getD p undef = .pointer (some ⟨g, 0, none⟩)) (hg : Bk w g t cs)
    (hu : P.underlying ty = some d) (hd : (match d with | .struct _ | .array _ _ => true | _ => false) = true) (hi : (P.info? ty).map (·.size) = some cs.size) :
    (results fn tmps).run P w = .ok (.tuple #[.agg cs, tmps.getD u undef]) w := by
  rw [results_cell_tmp h, hp]
  simp [asAddr, Result.andThen, run_loadVar_row w g t ty cs (0, 0) d hg hu hd hi]
theorem Bk.rowK {w : World} {g : Nat} {t : TypeId} {old : Array Value} (h : Bk w g t old) (cs : Array Value) : Bk (w.setRow g cs) g t cs := setRow_heap w g old cs t (0, 0) h
theorem below_rowK {B : Nat} {a w : World} (h : Below B a w) {g : Nat} (hg : B ≤ g) (cs : Array Value) : Below B a (w.setRow g cs) :=
  ⟨h.os, h.tape, h.output, by have := h.size; simpa [World.setRow] using this, fun k hk => (setRow_other w g k cs (by omega)).trans (h.block k hk)⟩
theorem kyC_one (k : Ky) : (kyC k).all (·.oneCell') = true := by simp [Value.oneCell']
theorem zkyC_one : zkyC.all (·.oneCell') = true := by simp [Value.oneCell']

/-- The maps of pointers. -/
def numEs (g tb : Nat) : Array MapEntry := #[⟨.int .i64 0, .pointer (some ⟨g, 1, none⟩), 0⟩, ⟨.int .i64 1, .pointer (some ⟨g, 2, none⟩), 1⟩, ⟨.int .i64 2, .pointer (some ⟨g, 3, none⟩), 2⟩, ⟨.int .i64 6, .pointer (some ⟨tb, 0, none⟩), 3⟩, ⟨.int .i64 7, .pointer (some ⟨g, 7, none⟩), 4⟩]
def txtEs (g : Nat) : Array MapEntry := #[⟨.int .i64 3, .pointer (some ⟨g, 4, none⟩), 0⟩, ⟨.int .i64 4, .pointer (some ⟨g, 5, none⟩), 1⟩, ⟨.int .i64 5, .pointer (some ⟨g, 6, none⟩), 2⟩]
def numAt (g tb : Nat) (p : Int) : Option Addr := if p = 0 then some ⟨g, 1, none⟩ else if p = 1 then some ⟨g, 2, none⟩ else if p = 2 then some ⟨g, 3, none⟩ else if p = 6 then some ⟨tb, 0, none⟩ else if p = 7 then some ⟨g, 7, none⟩ else none
def txtAt (g : Nat) (p : Int) : Option Addr := if p = 3 then some ⟨g, 4, none⟩ else if p = 4 then some ⟨g, 5, none⟩ else if p = 5 then some ⟨g, 6, none⟩ else none
theorem zeroPN (w : World) : (zeroValue 69).run Try.prog w = .ok (.pointer none) w := by kernel_rfl
theorem zeroPS (w : World) : (zeroValue 71).run Try.prog w = .ok (.pointer none) w := by kernel_rfl
theorem num_look {w : World} {m g tb : Nat} (h : Mp w m (numEs g tb)) (p : Int) (hp0 : 0 ≤ p) (hp1 : p < 8) : (Instr.lookup 70 (.map (some m)) (.int .i64 p) false).run Try.prog w = .ok (.pointer (numAt g tb p)) w := by
  have key : ∀ r, Instr.findNow (.int .i64) (.int .i64 p) (numEs g tb).toList 0 = some r → (match r with | some x => x.2 | none => Value.pointer none) = .pointer (numAt g tb p) → (Instr.lookup 70 (.map (some m)) (.int .i64 p) false).run Try.prog w = .ok (.pointer (numAt g tb p)) w := fun r hr e => by
    have hl := run_lookI (P := Try.prog) Try.underlying70 Try.underlying3 (zeroPN w) h p false hr
    rw [hl]
    cases r <;> exact congrArg (fun v => Result.ok v w) e
  have hcs : p = 0 ∨ p = 1 ∨ p = 2 ∨ p = 3 ∨ p = 4 ∨ p = 5 ∨ p = 6 ∨ p = 7 := by omega
  rcases hcs with rfl | rfl | rfl | rfl | rfl | rfl | rfl | rfl <;> exact key _ rfl rfl
theorem txt_look {w : World} {m g : Nat} (h : Mp w m (txtEs g)) (p : Int) (hp0 : 0 ≤ p) (hp1 : p < 8) : (Instr.lookup 72 (.map (some m)) (.int .i64 p) false).run Try.prog w = .ok (.pointer (txtAt g p)) w := by
  have key : ∀ r, Instr.findNow (.int .i64) (.int .i64 p) (txtEs g).toList 0 = some r → (match r with | some x => x.2 | none => Value.pointer none) = .pointer (txtAt g p) → (Instr.lookup 72 (.map (some m)) (.int .i64 p) false).run Try.prog w = .ok (.pointer (txtAt g p)) w := fun r hr e => by
    have hl := run_lookI (P := Try.prog) Try.underlying72 Try.underlying3 (zeroPS w) h p false hr
    rw [hl]
    cases r <;> exact congrArg (fun v => Result.ok v w) e
  have hcs : p = 0 ∨ p = 1 ∨ p = 2 ∨ p = 3 ∨ p = 4 ∨ p = 5 ∨ p = 6 ∨ p = 7 := by omega
  rcases hcs with rfl | rfl | rfl | rfl | rfl | rfl | rfl | rfl <;> exact key _ rfl rfl

/-- Unpack's memory without the maps. -/
structure UnQ (w0 W : World) (rb g tb : Nat) (A : Option Addr) (l : List Int) (Ab : Option Addr) (b : List Int) (k : Ky) (t : Nat) : Prop where
  res : Bk W rb 26 zkyC
  key : Bk W g 26 (kyC k)
  att : Bk W tb 22 #[.int .u64 t]
  parts : Rd W tb A (iv l)
  pfar : ∀ a, A = some a → g < a.block
  bytes : Rb W rb Ab b
  bel : Below w0.heap.size w0 W
  o1 : w0.heap.size ≤ rb
  o2 : rb < g
  o3 : g < tb
theorem UnQ.grown {w0 W W' : World} {rb g tb m : Nat} {A Ab : Option Addr} {l b : List Int} {k : Ky} {t : Nat} (h : UnQ w0 W rb g tb A l Ab b k t) (hg : W.grownBy W' (some m)) (hm : tb < m) : UnQ w0 W' rb g tb A l Ab b k t :=
  have h1 := h.att.lt
  have o1 := h.o1
  have o2 := h.o2
  have o3 := h.o3
  ⟨h.res.grown hg (fun e => by have := Option.some.inj e; omega), h.key.grown hg (fun e => by have := Option.some.inj e; omega), h.att.grown hg (fun e => by have := Option.some.inj e; omega), h.parts.grown hg (by omega) (fun x hx => by have := Option.some.inj hx; omega), h.pfar, h.bytes.grown hg (by omega) (fun x hx => by have := Option.some.inj hx; omega),
    h.bel.trans (grown_below hg (by omega) (fun x hx => by have := Option.some.inj hx; omega)), o1, o2, o3⟩
theorem UnQ.alloc {w0 W : World} {rb g tb : Nat} {A Ab : Option Addr} {l b : List Int} {k : Ky} {t : Nat} (h : UnQ w0 W rb g tb A l Ab b k t) (o : Obj) : UnQ w0 (W.alloc o) rb g tb A l Ab b k t :=
  have h1 := h.att.lt
  have o2 := h.o2
  have o3 := h.o3
  ⟨h.res.alloc o, h.key.alloc o, h.att.alloc o, h.parts.alloc (by omega) o, h.pfar, h.bytes.alloc (by omega) o, h.bel.alloc h.bel.size o, h.o1, h.o2, h.o3⟩
theorem Mp.grown {w w' : World} {m : Nat} {es : Array MapEntry} {r : Nat} (h : Mp w m es) (hg : w.grownBy w' (some r)) (hm : m ≠ r) : Mp w' m es := (hg.block m h.lt (fun e => hm (Option.some.inj e))).trans h
/-- Unpack's memory: the result, the key, the number at, the maps of pointers, the parts, the bytes. -/
structure UnM (w0 W : World) (rb g tb m1 m2 : Nat) (A : Option Addr) (l : List Int) (Ab : Option Addr) (b : List Int) (k : Ky) (t : Nat) : Prop where
  res : Bk W rb 26 zkyC
  key : Bk W g 26 (kyC k)
  att : Bk W tb 22 #[.int .u64 t]
  mp1 : Mp W m1 (numEs g tb)
  mp2 : Mp W m2 (txtEs g)
  parts : Rd W tb A (iv l)
  pfar : ∀ a, A = some a → g < a.block
  bytes : Rb W rb Ab b
  bel : Below w0.heap.size w0 W
  o1 : w0.heap.size ≤ rb
  o2 : rb < g
  o3 : g < tb
  o4 : tb < m1
  o5 : m1 < m2
section
variable {w0 W W' : World} {rb g tb m1 m2 : Nat} {A Ab : Option Addr} {l b : List Int} {k : Ky} {t : Nat}
theorem UnM.lt (h : UnM w0 W rb g tb m1 m2 A l Ab b k t) : m2 < W.heap.size := h.mp2.lt
theorem UnM.below (h : UnM w0 W rb g tb m1 m2 A l Ab b k t) (hb : Below W.heap.size W W') : UnM w0 W' rb g tb m1 m2 A l Ab b k t :=
  have h1 := h.res.lt
  have h2 := h.att.lt
  ⟨h.res.bS hb, h.key.bS hb, h.att.bS hb, h.mp1.bS hb, h.mp2.bS hb, h.parts.below (hb.mono (by omega)), h.pfar, h.bytes.below (hb.mono (by omega)), h.bel.trans (hb.mono h.bel.size), h.o1, h.o2, h.o3, h.o4, h.o5⟩
theorem Mp.far {w : World} {m : Nat} {es : Array MapEntry} (h : Mp w m es) {p : Addr} (hp : m ≠ p.block) (u : Value) : Mp (w.setCell p u) m es := (Below.heap_setCell w p u m hp).trans h
theorem Rd.setfarK {w : World} {B : Nat} {A : Option Addr} {xs : List Value} (h : Rd w B A xs) {q : Addr} (hq : ∀ a, A = some a → a.block ≠ q.block) (u : Value) : Rd (w.setCell q u) B A xs := fun hn => by
  obtain ⟨b, o, rfl, hb, hc⟩ := h hn
  exact ⟨b, o, rfl, hb, fun j x hx => (World.cell?_setCell_other w q ⟨b, o + j, none⟩ u (fun e => hq _ rfl (congrArg Addr.block e).symm)).trans (hc j x hx)⟩
theorem UnM.setKey (h : UnM w0 W rb g tb m1 m2 A l Ab b k t) (o : Nat) (u : Value) {k' : Ky} (hk : (kyC k).setIfInBounds o u = kyC k') : UnM w0 (W.setCell ⟨g, o, none⟩ u) rb g tb m1 m2 A l Ab b k' t :=
  have o2 := h.o2
  have o3 := h.o3
  have o4 := h.o4
  have o5 := h.o5
  ⟨h.res.far (by show rb ≠ g; omega) _, hk ▸ h.key.set o u, h.att.far (by show tb ≠ g; omega) _, h.mp1.far (by show m1 ≠ g; omega) _, h.mp2.far (by show m2 ≠ g; omega) _, h.parts.setfarK (fun a ha => by have := h.pfar a ha; show a.block ≠ g; omega) _, h.pfar, h.bytes.set (by show rb ≤ g; omega) _,
    h.bel.setCell (by have := h.o1; show w0.heap.size ≤ g; omega) _, h.o1, h.o2, h.o3, h.o4, h.o5⟩
theorem UnM.setAt (h : UnM w0 W rb g tb m1 m2 A l Ab b k t) (t' : Nat) : UnM w0 (W.setCell ⟨tb, 0, none⟩ (.int .u64 t')) rb g tb m1 m2 A l Ab b k t' :=
  have o2 := h.o2
  have o3 := h.o3
  have o4 := h.o4
  have o5 := h.o5
  ⟨h.res.far (by show rb ≠ tb; omega) _, h.key.far (by show g ≠ tb; omega) _, h.att.set 0 _, h.mp1.far (by show m1 ≠ tb; omega) _, h.mp2.far (by show m2 ≠ tb; omega) _, h.parts.set (Nat.le_refl _) _, h.pfar, h.bytes.set (by show rb ≤ tb; omega) _,
    h.bel.setCell (by have := h.o1; show w0.heap.size ≤ tb; omega) _, h.o1, h.o2, h.o3, h.o4, h.o5⟩
theorem UnM.drop (h : UnM w0 W rb g tb m1 m2 A l Ab b k t) {i c : Nat} (hc : b.length ≤ c) : UnM w0 W rb g tb m1 m2 A l (if c = i then Ab else Ab.map (·.add i)) (b.drop i) k t :=
  ⟨h.res, h.key, h.att, h.mp1, h.mp2, h.parts, h.pfar, h.bytes.drop hc, h.bel, h.o1, h.o2, h.o3, h.o4, h.o5⟩
theorem UnM.drewN (h : UnM w0 W rb g tb m1 m2 A l Ab b k t) (n : Nat) : UnM w0 (W.drewN n) rb g tb m1 m2 A l Ab b k t := h.below (below_drewN (Below.refl _ W) n)
end
theorem UnM.num {w0 W : World} {rb g tb m1 m2 : Nat} {A Ab : Option Addr} {l b : List Int} {k : Ky} {t : Nat} (h : UnM w0 W rb g tb m1 m2 A l Ab b k t) {p : Int} (hp0 : 0 ≤ p) (hp1 : p < 8) (hp : isTxt p = false) (x : Nat) :
    ∃ bl o, numAt g tb p = some ⟨bl, o, none⟩ ∧ (∃ old : Nat, W.cell? ⟨bl, o, none⟩ = some (.int .u64 old)) ∧ W.frozen? ⟨bl, o, none⟩ = false ∧ UnM w0 (W.setCell ⟨bl, o, none⟩ (.int .u64 x)) rb g tb m1 m2 A l Ab b (putN k p x) (putT t p x) := by
  have hcs : p = 0 ∨ p = 1 ∨ p = 2 ∨ p = 3 ∨ p = 4 ∨ p = 5 ∨ p = 6 ∨ p = 7 := by omega
  rcases hcs with rfl | rfl | rfl | rfl | rfl | rfl | rfl | rfl
  · exact ⟨g, 1, rfl, ⟨_, h.key.cell 1⟩, h.key.frozen 1, h.setKey 1 _ rfl⟩
  · exact ⟨g, 2, rfl, ⟨_, h.key.cell 2⟩, h.key.frozen 2, h.setKey 2 _ rfl⟩
  · exact ⟨g, 3, rfl, ⟨_, h.key.cell 3⟩, h.key.frozen 3, h.setKey 3 _ rfl⟩
  · cases hp
  · cases hp
  · cases hp
  · exact ⟨tb, 0, rfl, ⟨_, h.att.cell 0⟩, h.att.frozen 0, h.setAt x⟩
  · exact ⟨g, 7, rfl, ⟨_, h.key.cell 7⟩, h.key.frozen 7, h.setKey 7 _ rfl⟩
theorem UnM.txt {w0 W : World} {rb g tb m1 m2 : Nat} {A Ab : Option Addr} {l b : List Int} {k : Ky} {t : Nat} (h : UnM w0 W rb g tb m1 m2 A l Ab b k t) {p : Int} (hp : isTxt p = true) :
    ∃ o, txtAt g p = some ⟨g, o, none⟩ ∧ numAt g tb p = none ∧ ∀ W', Below W.heap.size W W' → (∃ old, W'.cell? ⟨g, o, none⟩ = some (.string old)) ∧ W'.frozen? ⟨g, o, none⟩ = false ∧ ∀ s, UnM w0 (W'.setCell ⟨g, o, none⟩ (.string s)) rb g tb m1 m2 A l Ab b (putS k p s) t := by
  have hcs : p = 3 ∨ p = 4 ∨ p = 5 := by simpa [isTxt, or_assoc] using hp
  rcases hcs with rfl | rfl | rfl
  · exact ⟨4, rfl, rfl, fun W' hb => ⟨⟨_, (h.below hb).key.cell 4⟩, (h.below hb).key.frozen 4, fun s => (h.below hb).setKey 4 _ rfl⟩⟩
  · exact ⟨5, rfl, rfl, fun W' hb => ⟨⟨_, (h.below hb).key.cell 5⟩, (h.below hb).key.frozen 5, fun s => (h.below hb).setKey 5 _ rfl⟩⟩
  · exact ⟨6, rfl, rfl, fun W' hb => ⟨⟨_, (h.below hb).key.cell 6⟩, (h.below hb).key.frozen 6, fun s => (h.below hb).setKey 6 _ rfl⟩⟩
theorem unpGo_num {p : Int} {ps b : List Int} {k : Ky} {t : Nat} (hp : isTxt p = false) (h : 8 ≤ b.length) : unpGo (p :: ps) b k t = unpGo ps (b.drop 8) (putN k p (ordVal (b.take 8))) (putT t p (ordVal (b.take 8))) := by
  rw [unpGo, if_neg (by rw [hp]; simp), if_neg (by omega)]
theorem unpGo_short {p : Int} {ps b : List Int} {k : Ky} {t : Nat} (hp : isTxt p = false) (h : b.length < 8) : unpGo (p :: ps) b k t = .inr 12 := by
  rw [unpGo, if_neg (by rw [hp]; simp), if_pos h]
theorem unpGo_txt {p : Int} {ps b o : List Int} {i : Nat} {k : Ky} {t : Nat} (hp : isTxt p = true) (h : txtOf b = .inl (o, i)) : unpGo (p :: ps) b k t = unpGo ps (b.drop i) (putS k p (strOfNums o)) t := by
  rw [unpGo, if_pos hp, h]
theorem unpGo_txtBad {p : Int} {ps b : List Int} {e : Nat} {k : Ky} {t : Nat} (hp : isTxt p = true) (h : txtOf b = .inr e) : unpGo (p :: ps) b k t = .inr e := by
  rw [unpGo, if_pos hp, h]
theorem putN_kind (k : Ky) (p : Int) (x : Nat) : (putN k p x).kind = k.kind := by unfold putN; split <;> (try split) <;> (try split) <;> (try split) <;> rfl
theorem putS_kind (k : Ky) (p : Int) (s : ByteArray) : (putS k p s).kind = k.kind := by unfold putS; split <;> (try split) <;> rfl
end Go.Proofs.Ytlamebbolioljaa

/- The plain law of keys in order. -/
namespace Go.Proofs.Ytlamebbolioljaa

theorem txtTo_cons (c : Int) (zs : List Int) : txtTo (c :: zs) = (if c = 0 then [0, 255] else [c]) ++ txtTo zs := rfl
theorem getE_at (pre rest : List Int) (c : Int) : (pre ++ c :: rest)[pre.length]? = some c := by simp
theorem txtR_enc : ∀ (zs pre out rest : List Int), txtR (pre ++ (txtTo zs ++ ([0, 1] ++ rest))) pre.length out = .inl (out ++ zs, pre.length + (txtTo zs).length + 2) := by
  intro zs
  induction zs with
  | nil =>
    intro pre out rest
    have h0 : (pre ++ (txtTo [] ++ ([0, 1] ++ rest)))[pre.length]? = some 0 := by simp [txtTo]
    have h1 : (pre ++ (txtTo [] ++ ([0, 1] ++ rest)))[pre.length + 1]? = some 1 := by
      rw [List.getElem?_append_right (by omega)]
      simp [txtTo]
    rw [txtR_end h0 h1]
    simp [txtTo]
  | cons c zs ih =>
    intro pre out rest
    by_cases hc : c = 0
    · subst hc
      have h0 : (pre ++ (txtTo (0 :: zs) ++ ([0, 1] ++ rest)))[pre.length]? = some 0 := by simp [txtTo_cons]
      have h1 : (pre ++ (txtTo (0 :: zs) ++ ([0, 1] ++ rest)))[pre.length + 1]? = some 255 := by
        rw [List.getElem?_append_right (by omega)]
        simp [txtTo_cons]
      rw [txtR_zero h0 h1]
      have := ih (pre ++ [0, 255]) (out ++ [0]) rest
      simp [txtTo_cons] at this ⊢
      rw [this]
      simp
      omega
    · have h0 : (pre ++ (txtTo (c :: zs) ++ ([0, 1] ++ rest)))[pre.length]? = some c := by simp [txtTo_cons, hc]
      rw [txtR_x h0 hc]
      have := ih (pre ++ [c]) (out ++ [c]) rest
      simp [txtTo_cons, hc] at this ⊢
      rw [this]
      simp
      omega
theorem txtOf_enc (zs rest : List Int) : txtOf (txtEnc zs ++ rest) = .inl (zs, (txtEnc zs).length) := by
  have := txtR_enc zs [] [] rest
  simpa [txtOf, txtEnc] using this

theorem ltb_cons_same (c : Int) (a b : List Int) : ltb (c :: a) (c :: b) = ltb a b := by simp [ltb]
theorem ltb_app (p a b : List Int) : ltb (p ++ a) (p ++ b) = ltb a b := by
  induction p with
  | nil => rfl
  | cons c p ih => rw [List.cons_append, List.cons_append, ltb_cons_same, ih]
theorem ltb_enc : ∀ {a b : List Int} (r r' : List Int), Byt a → Byt b → ltb (txtEnc a ++ r) (txtEnc b ++ r') = if a = b then ltb r r' else ltb a b := by
  intro a
  induction a with
  | nil =>
    intro b r r' _ hb
    cases b with
    | nil => simp [txtEnc, txtTo, ltb]
    | cons c b =>
      have hc := hb c (by simp)
      by_cases h0 : c = 0
      · subst h0
        simp [txtEnc, txtTo_cons, txtTo, ltb]
      · have : (0 : Int) < c := by omega
        simp [txtEnc, txtTo_cons, txtTo, ltb, h0, this]
  | cons x a ih =>
    intro b r r' ha hb
    have hx := ha x (by simp)
    have ha' : Byt a := fun z hz => ha z (by simp [hz])
    cases b with
    | nil =>
      by_cases h0 : x = 0
      · subst h0
        simp [txtEnc, txtTo_cons, txtTo, ltb]
      · have h1 : ¬ x < 0 := by omega
        simp [txtEnc, txtTo_cons, txtTo, ltb, h0, h1]
    | cons y b =>
      have hy := hb y (by simp)
      have hb' : Byt b := fun z hz => hb z (by simp [hz])
      have e1 : txtEnc (x :: a) ++ r = (if x = 0 then [0, 255] else [x]) ++ (txtEnc a ++ r) := by simp [txtEnc, txtTo_cons]
      have e2 : txtEnc (y :: b) ++ r' = (if y = 0 then [0, 255] else [y]) ++ (txtEnc b ++ r') := by simp [txtEnc, txtTo_cons]
      rw [e1, e2]
      by_cases hxy : x = y
      · subst hxy
        rw [ltb_app, ih r r' ha' hb']
        by_cases hab : a = b
        · simp [hab]
        · simp [hab, ltb_cons_same]
      · have hne : ¬ (x :: a = y :: b) := by simp [hxy]
        rw [if_neg hne]
        by_cases hx0 : x = 0
        · subst hx0
          have hy0 : ¬ y = 0 := fun h => hxy h.symm
          have : (0 : Int) < y := by omega
          simp [ltb, hy0, this]
        · by_cases hy0 : y = 0
          · subst hy0
            have h1 : ¬ x < 0 := by omega
            simp [ltb, hx0, h1]
          · simp [ltb, hx0, hy0, hxy]
theorem ltb_ordTo (x y : Nat) : ∀ k, ltb (ordTo x k) (ordTo y k) = decide (x % 256 ^ k < y % 256 ^ k) := by
  intro k
  induction k with
  | zero => simp [ordTo, ltb, Nat.mod_one]
  | succ k ih =>
    have hp : 0 < 256 ^ k := Nat.pow_pos (by omega)
    have e : ∀ z : Nat, z % 256 ^ (k + 1) = (z / 256 ^ k % 256) * 256 ^ k + z % 256 ^ k := fun z => by
      rw [Nat.pow_succ, Nat.mod_mul, Nat.add_comm, Nat.mul_comm]
    have hx := Nat.mod_lt x hp
    have hy := Nat.mod_lt y hp
    rw [e x, e y]
    simp only [ordTo, ltb, ih]
    generalize x / 256 ^ k % 256 = a
    generalize y / 256 ^ k % 256 = b
    generalize x % 256 ^ k = c at *
    generalize y % 256 ^ k = d at *
    generalize 256 ^ k = m at *
    rw [Bool.eq_iff_iff]
    simp only [Bool.or_eq_true, Bool.and_eq_true, decide_eq_true_eq]
    constructor
    · rintro (h | ⟨h1, h2⟩)
      · have : (a + 1) * m ≤ b * m := Nat.mul_le_mul_right m (by omega)
        rw [Nat.add_mul] at this
        omega
      · have : a = b := by omega
        subst this
        omega
    · intro h
      rcases Nat.lt_trichotomy a b with h1 | h1 | h1
      · exact .inl (by omega)
      · subst h1
        exact .inr ⟨rfl, by omega⟩
      · have : (b + 1) * m ≤ a * m := Nat.mul_le_mul_right m (by omega)
        rw [Nat.add_mul] at this
        omega
theorem ltb_ord {x y : Nat} (hx : x < 18446744073709551616) (hy : y < 18446744073709551616) : ltb (ordEnc x) (ordEnc y) = decide (x < y) := by
  have h := ltb_ordTo x y 8
  have e : (256 : Nat) ^ 8 = 18446744073709551616 := by decide
  rw [e, Nat.mod_eq_of_lt hx, Nat.mod_eq_of_lt hy] at h
  exact h
theorem ordVal_enc {x : Nat} (hx : x < 18446744073709551616) : ordVal (ordEnc x) = x := by
  have h := ordTo_val x 8
  have e : (256 : Nat) ^ 8 = 18446744073709551616 := by decide
  rw [e, Nat.mod_eq_of_lt hx] at h
  exact h
/-- A key of a text and a number. -/
def key2 (s : List Int) (x : Nat) : List Int := txtEnc s ++ ordEnc x
theorem key2_lt {s t : List Int} {x y : Nat} (hs : Byt s) (ht : Byt t) (hx : x < 18446744073709551616) (hy : y < 18446744073709551616) : ltb (key2 s x) (key2 t y) = if s = t then decide (x < y) else ltb s t := by
  rw [key2, key2, ltb_enc _ _ hs ht, ltb_ord hx hy]
theorem key2_inj {s t : List Int} {x y : Nat} (hx : x < 18446744073709551616) (hy : y < 18446744073709551616) (h : key2 s x = key2 t y) : s = t ∧ x = y := by
  have h1 := txtOf_enc s (ordEnc x)
  have h2 := txtOf_enc t (ordEnc y)
  rw [key2, key2] at h
  rw [h, h2] at h1
  injection h1 with h1
  injection h1 with h1 _
  subst h1
  have h3 := List.append_cancel_left h
  have := congrArg ordVal h3
  rw [ordVal_enc hx, ordVal_enc hy] at this
  exact ⟨rfl, this⟩
theorem key2_eq {s t : List Int} {x y : Nat} (hx : x < 18446744073709551616) (hy : y < 18446744073709551616) : eqb (key2 s x) (key2 t y) = (decide (s = t) && decide (x = y)) := by
  rw [Bool.eq_iff_iff, eqb_true]
  simp only [Bool.and_eq_true, decide_eq_true_eq]
  constructor
  · exact key2_inj hx hy
  · rintro ⟨rfl, rfl⟩; rfl
theorem txt_prefix {s t : List Int} (h : s ≠ t) : eqb (txtEnc s) ((txtEnc t).take (txtEnc s).length) = false := by
  rw [eqb, decide_eq_false_iff_not]
  intro e
  have h1 : txtEnc t = txtEnc s ++ (txtEnc t).drop (txtEnc s).length := by
    conv => lhs; rw [← List.take_append_drop (txtEnc s).length (txtEnc t), ← e]
  have h2 := txtOf_enc t []
  rw [List.append_nil, h1, txtOf_enc] at h2
  injection h2 with h2
  injection h2 with h2 _
  exact h h2
theorem txtEnc_byt {s : List Int} (h : Byt s) : Byt (txtEnc s) := (txtTo_byt h).append (Byt.of rfl)
theorem txtEnc_len (s : List Int) : (txtEnc s).length ≤ 2 * s.length + 2 := by
  have := txtTo_len s
  simp [txtEnc]
  omega
theorem ltb_ways3 : ∀ (a b : List Int), a = b ∨ ltb a b = true ∨ ltb b a = true := by
  intro a
  induction a with
  | nil => intro b; cases b <;> simp [ltb]
  | cons x a ih =>
    intro b
    cases b with
    | nil => simp [ltb]
    | cons y b =>
      rcases Int.lt_trichotomy x y with h | h | h
      · right; left; simp [ltb, h]
      · subst h
        rcases ih b with h | h | h
        · left; rw [h]
        · right; left; rw [ltb_cons_same]; exact h
        · right; right; rw [ltb_cons_same]; exact h
      · right; right; simp [ltb, h]
theorem ltb_asymm : ∀ (a b : List Int), ltb a b = true → ltb b a = false := by
  intro a
  induction a with
  | nil => intro b _; cases b <;> rfl
  | cons x a ih =>
    intro b h
    cases b with
    | nil => simp [ltb] at h
    | cons y b =>
      simp only [ltb, Bool.or_eq_true, decide_eq_true_eq, Bool.and_eq_true] at h
      simp only [ltb, Bool.or_eq_false_iff, decide_eq_false_iff_not, Bool.and_eq_false_iff]
      rcases h with h | ⟨h1, h2⟩
      · exact ⟨by omega, .inl (by omega)⟩
      · exact ⟨by omega, .inr (ih b h2)⟩
theorem u64_wf {x : Int} (h : (Lit.int .u64 x).wf = true) : 0 ≤ x ∧ x < 18446744073709551616 := by
  simp [Lit.wf, IntKind.min, IntKind.max, IntKind.signed, IntKind.bits] at h
  omega
end Go.Proofs.Ytlamebbolioljaa

/- Keys, plain: what is packed is read again; keys are in the order of their parts. No program here. -/
namespace Go.Proofs.Ytlamebbolioljaa
open Go.RowKit

theorem partsOf_kinds {k : Int} (h : (partsOf k).isSome = true) : k = 115 ∨ k = 116 ∨ k = 105 ∨ k = 111 ∨ k = 103 ∨ k = 100 ∨ k = 110 ∨ k = 101 := by
  unfold partsOf at h
  cases hf : kinds.find? (fun p => p.1 == k) with
  | none => rw [hf] at h; cases h
  | some x =>
    have hk := List.find?_some hf
    have hm := List.mem_of_find?_eq_some hf
    have hx : x.1 = k := by simpa using hk
    subst hx
    have : ∀ x ∈ kinds, x.1 = 115 ∨ x.1 = 116 ∨ x.1 = 105 ∨ x.1 = 111 ∨ x.1 = 103 ∨ x.1 = 100 ∨ x.1 = 110 ∨ x.1 = 101 := by decide
    exact this x hm
theorem kyChk_fine {k : Ky} (h : kyChk k = 0) : ∃ l, partsOf k.kind = some l ∧ kyFine k l = true := by
  unfold kyChk at h
  by_cases h1 : kyLong k = true
  · rw [if_pos h1] at h; omega
  rw [if_neg h1] at h
  cases hp : partsOf k.kind with
  | none => rw [hp] at h; simp at h
  | some l =>
    rw [hp] at h
    simp only at h
    by_cases h2 : kyFine k l = true
    · exact ⟨l, rfl, h2⟩
    · rw [if_neg h2] at h; omega
theorem ba_nil {s : ByteArray} (h : s.size = 0) : s = ⟨#[]⟩ := by
  apply ByteArray.ext
  apply Array.ext'
  exact List.eq_nil_of_length_eq_zero h
/-- What a key without a part has there. -/
structure Absent (k : Ky) (l : List Int) : Prop where
  trace : hasI l 0 = false → k.hi = 0 ∧ k.lo = 0
  id : hasI l 2 = false → k.id = 0
  service : hasI l 3 = false → k.service = ⟨#[]⟩
  name : hasI l 4 = false → k.name = ⟨#[]⟩
  value : hasI l 5 = false → k.value = ⟨#[]⟩
  start : hasI l 6 = false → k.start = 0
  number : hasI l 7 = false → k.number = 0
theorem absent_of {k : Ky} {l : List Int} (h : kyFine k l = true) : Absent k l := by
  unfold kyFine at h
  simp only [Bool.and_eq_true] at h
  obtain ⟨⟨⟨⟨⟨⟨⟨⟨⟨⟨⟨⟨-, -⟩, -⟩, -⟩, -⟩, h1⟩, h2⟩, h3⟩, h4⟩, h5⟩, h6⟩, h7⟩, -⟩ := h
  refine ⟨fun e => ?_, fun e => ?_, fun e => ba_nil ?_, fun e => ba_nil ?_, fun e => ba_nil ?_, fun e => ?_, fun e => ?_⟩
  · rw [e] at h1; simpa [trc0, trcB] using h1
  · rw [e] at h2; simpa using h2
  · rw [e] at h3
    cases hd : decide (k.service.size = 0) with
    | true => exact of_decide_eq_true hd
    | false => rw [hd] at h3; cases h3
  · rw [e] at h4
    cases hd : decide (k.name.size = 0) with
    | true => exact of_decide_eq_true hd
    | false => rw [hd] at h4; cases h4
  · rw [e] at h5
    rw [Bool.false_or] at h5
    exact of_decide_eq_true h5
  · rw [e] at h6; simpa using h6
  · rw [e] at h7; simpa using h7
theorem unp_num {p : Int} {ps rest : List Int} {k : Ky} {t x : Nat} (hp : isTxt p = false) (hx : x < 18446744073709551616) : unpGo (p :: ps) (ordEnc x ++ rest) k t = unpGo ps rest (putN k p x) (putT t p x) := by
  rw [unpGo_num hp (by rw [List.length_append, ordEnc_len]; omega)]
  have h1 : (ordEnc x ++ rest).take 8 = ordEnc x := by rw [← ordEnc_len x]; exact List.take_left
  have h2 : (ordEnc x ++ rest).drop 8 = rest := by rw [← ordEnc_len x]; exact List.drop_left
  rw [h1, h2, ordVal_enc hx]
theorem unp_txt {p : Int} {ps rest : List Int} {k : Ky} {t : Nat} {s : ByteArray} (hp : isTxt p = true) : unpGo (p :: ps) (txtEnc (nums s) ++ rest) k t = unpGo ps rest (putS k p s) t := by
  rw [unpGo_txt hp (txtOf_enc (nums s) rest), List.drop_left, strOf_nums]
theorem unpEnd_good {k k' : Ky} {t : Nat} (hk : ({ k' with start := (t : Int) } : Ky) = k) (ht : t ≤ 4611686018427387903) (hn : k'.kind = 100 → k'.number ≤ 4611686018427387903) (hc : kyChk k = 0) : unpEnd (.inl (k', t, [])) = (k, 0) := by
  unfold unpEnd
  simp only
  rw [if_neg (by rintro (h | h | h); exact h rfl; omega; have := hn h.1; omega), hk, if_neg (by omega)]
set_option maxRecDepth 100000 in
theorem unp_pack {k : Ky} (hu : k.U64) (hc : kyChk k = 0) : unpOf (keyTo k (kyParts k)) = (k, 0) := by
  obtain ⟨l, hl, hf⟩ := kyChk_fine hc
  obtain ⟨a1, a2, a3, a4, a5, a6⟩ := kyChk_ok hc
  have ab := absent_of hf
  have hnum : k.kind = 100 → k.number ≤ 4611686018427387903 := by
    intro e
    unfold kyFine at hf
    simp only [Bool.and_eq_true] at hf
    have := hf.2
    simpa [e] using this
  obtain ⟨u1, u2, u3, u4⟩ := hu
  have ht : k.start.toNat < 18446744073709551616 := by omega
  have hp := kyParts
  obtain ⟨kd, hi, lo, id, sv, nm, vl, nb, st⟩ := k
  simp only at *
  have hst : ((st.toNat : Nat) : Int) = st := by omega
  rcases partsOf_kinds a6 with rfl | rfl | rfl | rfl | rfl | rfl | rfl | rfl
  · have e : l = [0, 1, 2] := by have h : partsOf 115 = some [0, 1, 2] := rfl; rw [h] at hl; exact (Option.some.inj hl).symm
    subst e
    obtain rfl := ab.service rfl
    obtain rfl := ab.name rfl
    obtain rfl := ab.value rfl
    obtain rfl := ab.start rfl
    obtain rfl := ab.number rfl
    show unpEnd (unpGo [0, 1, 2] (ordEnc hi ++ (ordEnc lo ++ (ordEnc id ++ []))) { zeroKy with kind := 115 } 0) = _
    rw [unp_num rfl u1, unp_num rfl u2, unp_num rfl u3, unpGo]
    exact unpEnd_good rfl (show 0 ≤ 4611686018427387903 from Nat.zero_le _) hnum hc
  · have e : l = [0, 1] := by have h : partsOf 116 = some [0, 1] := rfl; rw [h] at hl; exact (Option.some.inj hl).symm
    subst e
    obtain rfl := ab.id rfl
    obtain rfl := ab.service rfl
    obtain rfl := ab.name rfl
    obtain rfl := ab.value rfl
    obtain rfl := ab.start rfl
    obtain rfl := ab.number rfl
    show unpEnd (unpGo [0, 1] (ordEnc hi ++ (ordEnc lo ++ [])) { zeroKy with kind := 116 } 0) = _
    rw [unp_num rfl u1, unp_num rfl u2, unpGo]
    exact unpEnd_good rfl (show 0 ≤ 4611686018427387903 from Nat.zero_le _) hnum hc
  · have e : l = [3, 6, 0, 1, 2] := by have h : partsOf 105 = some [3, 6, 0, 1, 2] := rfl; rw [h] at hl; exact (Option.some.inj hl).symm
    subst e
    obtain rfl := ab.name rfl
    obtain rfl := ab.value rfl
    obtain rfl := ab.number rfl
    show unpEnd (unpGo [3, 6, 0, 1, 2] (txtEnc (nums sv) ++ (ordEnc st.toNat ++ (ordEnc hi ++ (ordEnc lo ++ (ordEnc id ++ []))))) { zeroKy with kind := 105 } 0) = _
    rw [unp_txt rfl, unp_num rfl ht, unp_num rfl u1, unp_num rfl u2, unp_num rfl u3, unpGo]
    exact unpEnd_good (congrArg (fun x => (⟨105, hi, lo, id, sv, ⟨#[]⟩, ⟨#[]⟩, 0, x⟩ : Ky)) hst) (show st.toNat ≤ _ by omega) hnum hc
  · have e : l = [3, 4, 6, 0, 1, 2] := by have h : partsOf 111 = some [3, 4, 6, 0, 1, 2] := rfl; rw [h] at hl; exact (Option.some.inj hl).symm
    subst e
    obtain rfl := ab.value rfl
    obtain rfl := ab.number rfl
    show unpEnd (unpGo [3, 4, 6, 0, 1, 2] (txtEnc (nums sv) ++ (txtEnc (nums nm) ++ (ordEnc st.toNat ++ (ordEnc hi ++ (ordEnc lo ++ (ordEnc id ++ [])))))) { zeroKy with kind := 111 } 0) = _
    rw [unp_txt rfl, unp_txt rfl, unp_num rfl ht, unp_num rfl u1, unp_num rfl u2, unp_num rfl u3, unpGo]
    exact unpEnd_good (congrArg (fun x => (⟨111, hi, lo, id, sv, nm, ⟨#[]⟩, 0, x⟩ : Ky)) hst) (show st.toNat ≤ _ by omega) hnum hc
  · have e : l = [3, 4, 5, 6, 0, 1, 2] := by have h : partsOf 103 = some [3, 4, 5, 6, 0, 1, 2] := rfl; rw [h] at hl; exact (Option.some.inj hl).symm
    subst e
    obtain rfl := ab.number rfl
    show unpEnd (unpGo [3, 4, 5, 6, 0, 1, 2] (txtEnc (nums sv) ++ (txtEnc (nums nm) ++ (txtEnc (nums vl) ++ (ordEnc st.toNat ++ (ordEnc hi ++ (ordEnc lo ++ (ordEnc id ++ []))))))) { zeroKy with kind := 103 } 0) = _
    rw [unp_txt rfl, unp_txt rfl, unp_txt rfl, unp_num rfl ht, unp_num rfl u1, unp_num rfl u2, unp_num rfl u3, unpGo]
    exact unpEnd_good (congrArg (fun x => (⟨103, hi, lo, id, sv, nm, vl, 0, x⟩ : Ky)) hst) (show st.toNat ≤ _ by omega) hnum hc
  · have e : l = [3, 7, 6, 0, 1, 2] := by have h : partsOf 100 = some [3, 7, 6, 0, 1, 2] := rfl; rw [h] at hl; exact (Option.some.inj hl).symm
    subst e
    obtain rfl := ab.name rfl
    obtain rfl := ab.value rfl
    show unpEnd (unpGo [3, 7, 6, 0, 1, 2] (txtEnc (nums sv) ++ (ordEnc nb ++ (ordEnc st.toNat ++ (ordEnc hi ++ (ordEnc lo ++ (ordEnc id ++ [])))))) { zeroKy with kind := 100 } 0) = _
    rw [unp_txt rfl, unp_num rfl u4, unp_num rfl ht, unp_num rfl u1, unp_num rfl u2, unp_num rfl u3, unpGo]
    exact unpEnd_good (congrArg (fun x => (⟨100, hi, lo, id, sv, ⟨#[]⟩, ⟨#[]⟩, nb, x⟩ : Ky)) hst) (show st.toNat ≤ _ by omega) hnum hc
  · have e : l = [3, 4] := by have h : partsOf 110 = some [3, 4] := rfl; rw [h] at hl; exact (Option.some.inj hl).symm
    subst e
    obtain ⟨rfl, rfl⟩ := ab.trace rfl
    obtain rfl := ab.id rfl
    obtain rfl := ab.value rfl
    obtain rfl := ab.start rfl
    obtain rfl := ab.number rfl
    show unpEnd (unpGo [3, 4] (txtEnc (nums sv) ++ (txtEnc (nums nm) ++ [])) { zeroKy with kind := 110 } 0) = _
    rw [unp_txt rfl, unp_txt rfl, unpGo]
    exact unpEnd_good rfl (show 0 ≤ 4611686018427387903 from Nat.zero_le _) hnum hc
  · have e : l = [7, 3, 4] := by have h : partsOf 101 = some [7, 3, 4] := rfl; rw [h] at hl; exact (Option.some.inj hl).symm
    subst e
    obtain ⟨rfl, rfl⟩ := ab.trace rfl
    obtain rfl := ab.id rfl
    obtain rfl := ab.value rfl
    obtain rfl := ab.start rfl
    show unpEnd (unpGo [7, 3, 4] (ordEnc nb ++ (txtEnc (nums sv) ++ (txtEnc (nums nm) ++ []))) { zeroKy with kind := 101 } 0) = _
    rw [unp_num rfl u4, unp_txt rfl, unp_txt rfl, unpGo]
    exact unpEnd_good rfl (show 0 ≤ 4611686018427387903 from Nat.zero_le _) hnum hc
end Go.Proofs.Ytlamebbolioljaa

/- Strings into bytes: '[]byte(s)' of a variable and of a constant. -/
namespace Go.Proofs.Ytlamebbolioljaa
open Go.RowKit

/-- '[]byte(s)': what it hands back and lays, behind letters. -/
theorem conv_str : ∃ (cp : World → ByteArray → Nat) (ce : World → ByteArray → Array Value) (fa : World → ByteArray → Nat × Nat),
    (∀ (s : ByteArray) (W : World), (convert 9 27 (.string s)).run Try.prog W = .ok (.slice (some ⟨W.heap.size, 0, none⟩) s.size (cp W s)) (W.drew.alloc (.cells (ce W s) 5 (fa W s)))) ∧
    (∀ (s : ByteArray) (W : World), s.size ≤ cp W s ∧ ∀ (j : Nat) (u : Value), (bv (nums s))[j]? = some u → (ce W s)[j]? = some u) := by
  refine ⟨fun W s => grownCap W s.size 0 5, fun W s => bytesRow s (grownCap W s.size 0 5), fun W s => ((bytesRow s (grownCap W s.size 0 5)).size, (bytesRow s (grownCap W s.size 0 5)).size + 1),
    fun s W => run_bytes_of_string W _ _ _ s Try.underlying9 Try.underlying27 Try.underlying5, fun s W => ⟨?_, fun j u hu => ?_⟩⟩
  · exact grownCap_ge W s.size 0 5
  · have hj : j < (nums s).length := by
      have := (List.getElem?_eq_some_iff.1 hu).1
      simpa [bv] using this
    rw [nums_len] at hj
    have h1 : (bytesRow s (grownCap W s.size 0 5))[j]? = (s.data.map (fun b => Value.int .u8 b.toNat))[j]? := by
      unfold bytesRow
      rw [Array.getElem?_append_left (by simpa using hj)]
    rw [h1, ← hu]
    simp [bv, nums]
    rfl
theorem Rd.of_alloc {w : World} {cs : Array Value} {t : TypeId} {fr : Nat × Nat} {xs : List Value} (h : ∀ (j : Nat) (u : Value), xs[j]? = some u → cs[j]? = some u) : Rd (w.alloc (.cells cs t fr)) (w.heap.size + 1) (some ⟨w.heap.size, 0, none⟩) xs := fun _ =>
  ⟨w.heap.size, 0, rfl, by omega, fun j u hu => by rw [Nat.zero_add, World.cell?_alloc_mark]; exact h j u hu⟩

theorem conv_const (w : World) (C : Array Value) (n c g : Nat) (hg : g = w.heap.size) :
    (convert 27 27 (.slice (some ⟨g, 0, none⟩) n c)).run Try.prog (w.alloc (.cells C 5)) = .ok (.slice (some ⟨g, 0, none⟩) n c) (w.alloc (.cells C 5 (C.size, C.size + 1))) := by
  subst hg
  exact Lib.run_convert_bytes_const w _ _ C n c Try.underlying27 Try.underlying5

theorem Rd.litm {w : World} {cs : Array Value} {t : TypeId} {fr : Nat × Nat} {g : Nat} (hg : w.heap.size = g) : Rd (w.alloc (.cells cs t fr)) (g + 1) (some ⟨g, 0, none⟩) cs.toList := fun _ => by
  subst hg
  exact ⟨w.heap.size, 0, rfl, by omega, fun j u hu => by
    rw [Nat.zero_add, World.cell?_alloc_mark]
    simpa using hu⟩
end Go.Proofs.Ytlamebbolioljaa

/- Spans: pieces; how a span is put into bytes. -/
namespace Go.Proofs.Ytlamebbolioljaa
open Go.RowKit

def pie (s : ByteArray) : List Int := numEnc s.size ++ nums s
theorem pie_len (s : ByteArray) (h : s.size ≤ 1048576) : (pie s).length ≤ s.size + 10 := by
  have := numEnc_u64 (x := s.size) (by omega)
  rw [pie, List.length_append, nums_len]
  omega
theorem pies_len : ∀ (ls : List ByteArray), (∀ s ∈ ls, s.size ≤ 1048576) → (ls.flatMap pie).length ≤ (ls.length) * 1048586
  | [], _ => by simp
  | s :: ls, h => by
    have h1 := pie_len s (h s (by simp))
    have h2 := h s (by simp)
    have h3 := pies_len ls (fun t ht => h t (by simp [ht]))
    rw [List.flatMap_cons, List.length_append, List.length_cons]
    omega
set_option maxRecDepth 100000 in
set_option maxHeartbeats 1000000 in
theorem spPieces {base A n c b k c1} {xs : List Int} {ls : List ByteArray} (w : World) (ho : w.ownsRow base 5 1 (.slice A n c) n (bv xs)) (hb : base ≤ w.heap.size)
    (hcells : ∀ (i : Nat) (s : ByteArray), ls[i]? = some s → w.cell? ⟨b, i, none⟩ = some (.string s)) (hk : ls.length = k) (hbl : b < w.heap.size) (hfar : (Value.slice A n c).ownBlock ≠ some b) (hs : ∀ s ∈ ls, s.size ≤ 1048576) (hn : n + k * 1048586 + 1048592 ≤ 140737488355328) :
    Calls Try.prog 75 #[.slice A n c, .slice (some ⟨b, 0, none⟩) k c1] w (RetApp base 5 1 w (.slice A n c) (n + (ls.flatMap pie).length) (bv (xs ++ ls.flatMap pie)) (fun _ => True)) := by
  obtain ⟨cp, ce, fa, hcv, hce⟩ := conv_str
  have HCE := Lib.hid hce
  have HK := Lib.hid hk
  have HS := Lib.hid hs
  have HC := Lib.hid hcells
  have hlenA : ∀ j, ((ls.take j).flatMap pie).length ≤ k * 1048586 := fun j => by
    have h1 := pies_len (ls.take j) (fun s h => hs s (List.mem_of_mem_take h))
    have h3 : (ls.take j).length ≤ k := by rw [List.length_take]; omega
    exact Nat.le_trans h1 (Nat.mul_le_mul_right _ h3)
  have HL := Lib.hid hlenA
  clear hce hk hs hcells hlenA
  go_enter Try.func75, Try.ntmps75
  go_wp2
  go_loopw [0, 9] (fun v iv_ wr => ∃ (A' : Option Addr) (c' m j : Nat), j ≤ k ∧ v = .slice A' m c' ∧ iv_ = .int .i64 j ∧ m = n + ((ls.take j).flatMap pie).length ∧ App base 5 1 w (.slice A n c) wr (.slice A' m c') m (bv (xs ++ (ls.take j).flatMap pie))) (fun _ i _ => k - (intOf i).toNat)
  case atStart => exact ⟨A, c, n, 0, by omega, rfl, rfl, by simp, App.refl (by simpa using ho)⟩
  case round =>
    obtain ⟨A', c', m, j, hj, rfl, rfl, hm, happ⟩ := hrel
    have hmb := HL.out j
    have HM := Lib.hid hm
    have hmb2 : m + 1048592 ≤ 140737488355328 := by omega
    clear hm hmb
    by_cases hlt : j < k
    · have hlt' : (j : Int) < (k : Int) := by omega
      obtain ⟨s, hsj⟩ : ∃ s, ls[j]? = some s := ⟨_, List.getElem?_eq_getElem (by rw [HK.out]; exact hlt)⟩
      have hcell : wr.cell? ⟨b, j, none⟩ = some (.string s) := (World.cell?_of_block (a := ⟨b, j, none⟩) (happ.grown.block b hbl (fun e => hfar e.symm))).trans (HC.out j s hsj)
      have hss := HS.out s (List.mem_of_getElem? hsj)
      have HSJ := Lib.hid hsj
      clear hsj
      go_wp2_with fail
      obtain ⟨ca, hca⟩ : ∃ ca, cp wr s = ca := ⟨_, rfl⟩
      have hca' := (HCE.out s wr).1
      obtain ⟨D1, hD1⟩ : ∃ D1, ce wr s = D1 := ⟨_, rfl⟩
      have hD1' := (HCE.out s wr).2
      obtain ⟨F1, hF1⟩ : ∃ F1, fa wr s = F1 := ⟨_, rfl⟩
      rw [hca] at hca' ⊢
      rw [hD1] at hD1' ⊢
      rw [hF1]
      clear hca hD1 hF1
      have h2 := (happ.alloc (.cells D1 5 F1)).drew
      have hr2 := Rd.drew (Rd.of_alloc (w := wr) (t := 5) (fr := F1) hD1')
      have hsep : Sep A' (some ⟨wr.heap.size, 0, none⟩) := fun a1 a2 q1 q2 e => by
        subst q1
        have h3 := (happ.own.lt a1.block rfl).2
        have e' : a1.block = wr.heap.size := by rw [e, ← Option.some.inj q2]
        omega
      refine (wirePiece (m := s.size) _ h2.own (by have := happ.heap; show _ ≤ (wr.alloc _).heap.size; simp; omega) hr2 (by show _ ≤ (wr.alloc _).heap.size; simp) (.inr hsep) hmb2 (by rw [nums_len]; exact hss) (nums_len s)).mono ?_
      rintro e w5 ⟨A5, c5, rfl, happ5⟩
      have h5 := h2.trans happ5
      have e1 : ls.take (j + 1) = ls.take j ++ [s] := take_snoc HSJ.out
      have e2 : m + (numEnc (nums s).length).length + (nums s).length = n + ((ls.take (j + 1)).flatMap pie).length := by
        have := HM.out
        rw [e1, List.flatMap_append, List.length_append, List.flatMap_cons, List.flatMap_nil, List.append_nil, pie, List.length_append, nums_len]
        omega
      have e3 : xs ++ (ls.take j).flatMap pie ++ (numEnc (nums s).length ++ nums s) = xs ++ (ls.take (j + 1)).flatMap pie := by
        rw [e1, List.flatMap_append]
        simp [pie, nums_len]
      rw [e3] at h5
      obtain ⟨m5, hm5⟩ : ∃ m5, m + (numEnc (nums s).length).length + (nums s).length = m5 := ⟨_, rfl⟩
      rw [hm5] at h5 e2 ⊢
      have E2 := Lib.hid e2
      clear e2 hm5 e1 e3 hsep hr2 h2 happ5 hD1' hca'
      go_wp2
      go_roundw
      case rel => exact ⟨A5, c5, m5, j + 1, by omega, rfl, by go_num, E2.out, h5⟩
      case measure => simp [intOf]; omega
    · have hlt' : decide ((j : Int) < (k : Int)) = false := by simp; omega
      obtain rfl : j = k := by omega
      have e1 : ls.take j = ls := List.take_of_length_le (by rw [HK.out]; omega)
      have e2 : m = n + (ls.flatMap pie).length := by rw [HM.out, e1]
      rw [e1] at happ
      go_wp2
      go_ret
      exact ⟨A', c', by rw [← e2]; rfl, by rw [← e2]; exact happ, trivial⟩
end Go.Proofs.Ytlamebbolioljaa
