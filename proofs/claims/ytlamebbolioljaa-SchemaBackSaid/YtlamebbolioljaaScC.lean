/- Keys: Check. -/
import Derived.Deep.Cut
import Derived.Deep.CutRange
import Derived.Deep.RegionHeld3
import Derived.Deep.QuietTactic
import Derived.Test.YtlamebbolioljaaScB
namespace Go.Proofs.Ytlamebbolioljaa
open Go.RowKit

theorem quiet_add_same {P : Program} {f : FuncId} {args : Array Value} {w : World} {a n : Nat} {v : Value}
    (h : Calls P f args (w.drewN (a + n)) fun e w' => e = .returned v ∧ w' = w.drewN (a + n)) :
    Calls P f args (w.drewN (a + n)) fun e w'' => e = .returned v ∧ ∃ m, w'' = w.drewN (a + m) :=
  h.mono fun _ _ ⟨he, hm⟩ => ⟨he, n, hm⟩
theorem str_isEmpty {s : ByteArray} : s.toList.isEmpty = decide (s.size = 0) := by
  rw [← str_empty]
  cases s.toList <;> rfl
theorem not_not_b {b : Bool} (h : (!b) = false) : b = true := by cases b <;> simp_all
def trcB (hi lo : Nat) : Bool := decide (hi = 0) && decide (lo = 0)
theorem eqlTrc0 (W : World) (hi lo : Nat) : (binOp .eql 24 (.agg #[.int .u64 hi, .int .u64 lo]) (.agg #[.int .u64 0, .int .u64 0])).run Try.prog W = .ok (.bool (trcB hi lo)) W := by
  unfold trcB
  by_cases h1 : hi = 0
  · subst h1
    by_cases h2 : lo = 0
    · subst h2
      kernel_rfl
    · have e : ((lo : Int) == 0) = false := by simp [h2]
      go_simp
  · have e : ((hi : Int) == 0) = false := by simp [h1]
    go_simp
attribute [local go_sem ↓] eqlTrc0
def kyLong (k : Ky) : Bool := decide (128 < k.service.size) || decide (128 < k.name.size) || decide (128 < k.value.size)
def trc0 (k : Ky) : Bool := trcB k.hi k.lo
def kyFine (k : Ky) (l : List Int) : Bool :=
  txtB k.service && txtB k.name && txtB k.value && decide (0 ≤ k.start) && decide (k.start ≤ 4611686018427387903) &&
  !(hasI l 0 == trc0 k) && !(hasI l 2 == decide (k.id = 0)) && !(hasI l 3 == decide (k.service.size = 0)) && !(hasI l 4 == decide (k.name.size = 0)) &&
  (hasI l 5 || decide (k.value.size = 0)) && (hasI l 6 || decide (k.start = 0)) && (hasI l 7 || decide (k.number = 0)) && (decide (k.kind ≠ 100) || decide (k.number ≤ 4611686018427387903))
def kyChk (k : Ky) : Nat := if kyLong k = true then 3 else match partsOf k.kind with | none => 2 | some l => if kyFine k l = true then 0 else 2

theorem PartsAt.set {w : World} {pg : Nat} (h : PartsAt w pg) {p : Addr} (hp : p.block < pg) (u : Value) : PartsAt (w.setCell p u) pg :=
  ⟨(Below.heap_setCell w p u pg (by omega)).trans h.mp, fun x hx => ⟨(h.bl x hx).1, (h.bl x hx).2.far (by have := (h.bl x hx).1; omega) u⟩⟩
theorem partsOf_len (k : Int) : ((partsOf k).getD []).length ≤ 7 := by
  unfold partsOf
  cases hf : kinds.find? (fun p => p.1 == k) with
  | none => simp
  | some p =>
    have hm := List.mem_of_find?_eq_some hf
    have : ∀ p ∈ kinds, p.2.length ≤ 7 := by decide
    simpa using this p hm
/-- Behind the lookup of the parts: where they lie. -/
structure ScM (w0 W : World) (g : Nat) (k : Ky) (p t : Value) : Prop where
  cell : ∃ gl A, p = .pointer (some ⟨gl, 0, none⟩) ∧ W.cell? ⟨gl, 0, none⟩ = some (.slice A ((partsOf k.kind).getD []).length ((partsOf k.kind).getD []).length) ∧ Rd W W.heap.size A (iv ((partsOf k.kind).getD []))
  is : t = .bool (partsOf k.kind).isSome
  key : Bk W g 26 (kyC k)
  bel : Below w0.heap.size w0 W

set_option maxRecDepth 100000 in
set_option maxHeartbeats 8000000 in
theorem scCheckB (k : Ky) (w : World) (a1 : k.service.size ≤ 128) (a2 : k.name.size ≤ 128) (a3 : k.value.size ≤ 128) (a0 : kyLong k = false) :
    Calls Try.prog 16 #[kyV k] w fun e w' => e = .returned (.int .i64 (kyChk k)) ∧ Below w.heap.size w w' := by
  have hb0 : Below w.heap.size w (w.alloc (.cells (kyC k) 26)) := (Below.refl _ w).alloc (Nat.le_refl _) _
  have bk := Bk.new w 26 (kyC k)
  obtain ⟨w1, hw1⟩ : ∃ w1, w.alloc (.cells (kyC k) 26) = w1 := ⟨_, rfl⟩
  rw [hw1] at hb0 bk
  have HW := Lib.hid hw1
  obtain ⟨g, hg⟩ : ∃ g, w.heap.size = g := ⟨_, rfl⟩
  rw [hg] at bk
  have HG := Lib.hid hg
  obtain ⟨q, hq⟩ : ∃ q, kyChk k = q := ⟨_, rfl⟩
  rw [hq]
  have HQ := Lib.hid hq
  have HB0 := Lib.hid hb0
  have k4 : w1.cell? ⟨g, 4, none⟩ = some (.string k.service) := bk.cell 4
  have k5 : w1.cell? ⟨g, 5, none⟩ = some (.string k.name) := bk.cell 5
  have k6 : w1.cell? ⟨g, 6, none⟩ = some (.string k.value) := bk.cell 6
  have hb1 : decide ((128 : Int) < (k.service.size : Int)) = false := by simp; omega
  have hb2 : decide ((128 : Int) < (k.name.size : Int)) = false := by simp; omega
  have hb3 : decide ((128 : Int) < (k.value.size : Int)) = false := by simp; omega
  have HQ2 : Hid (q = match partsOf k.kind with | none => 2 | some l => if kyFine k l = true then 0 else 2) := by
    rw [← HQ.out, kyChk, if_neg (by rw [a0]; simp)]
    exact Lib.hid rfl
  clear hw1 hg hq hb0 a0
  have bkd := bk.drew
  have HNE : Hid (g ≠ w1.heap.size) := by
    have h := bk.lt
    exact Lib.hid (show g ≠ w1.heap.size by omega)
  have bkl := (Bk.new w1 64 #[.slice none 0 0]).drew
  have bke := (bk.alloc (.cells #[.slice none 0 0] 64)).drew
  have kd0 : w1.drew.cell? ⟨g, 0, none⟩ = some (.int .i64 k.kind) := bkd.cell 0
  have kd1 : (w1.alloc (.cells #[.slice none 0 0] 64)).drew.cell? ⟨g, 0, none⟩ = some (.int .i64 k.kind) := bke.cell 0
  go_enter Try.func16, Try.ntmps16
  go_upto_region 1 with fail
  rw [HW.out, HG.out]
  go_upto_region 3 with fail
  go_cut [3, 4] from 22 to 28 (fun p t W => ScM w W g k p t)
  case first =>
    go_region_held3 (fun w' => w'.cell? ⟨g, 0, none⟩ = some (.int .i64 k.kind)) (first | go_keep | exact (World.cell?_setCell_other _ ⟨w1.heap.size, 0, none⟩ ⟨g, 0, none⟩ _ (fun e => HNE.out (congrArg Addr.block e).symm)).trans (by assumption))
      (first
        | (go_at_call 28
           refine (scParts _).mono ?_
           rintro e w2 ⟨pg, rfl, hp2, hpg, hb2'⟩
           have hp3 := hp2.alloc (.cells #[.slice none 0 0] 64)
           obtain ⟨A, hlk⟩ := parts_look pg k.kind
           have hlkt := (hlk w2 hp2).2 true
           have hlku := (hlk _ hp3).2 true
           have HLK := Lib.hid hlk
           have kd0' : w2.cell? ⟨g, 0, none⟩ = some (.int .i64 k.kind) := by first | exact ((bkd.bS hb2').cell 0) | exact ((bke.bS hb2').cell 0)
           try have ks : w2.cell? ⟨w1.heap.size, 0, none⟩ = some (.slice none 0 0) := (bkl.bS hb2').cell 0
           try have kf : w2.frozen? ⟨w1.heap.size, 0, none⟩ = false := (bkl.bS hb2').frozen 0
           clear hlk)
        | fail)
    all_goals
      go_wp2
      go_meet
      first
        | exact ⟨⟨_, A, rfl, (Bk.new w2 _ _).cell 0, ((HLK.out w2 hp2).1).allocS _⟩, rfl, (bkd.bS hb2').alloc _, ((below_drewN HB0.out 1).trans (hb2'.mono HB0.out.size)).alloc (Nat.le_trans HB0.out.size hb2'.size) _⟩
        | exact ⟨⟨_, A, rfl, ((bkl.bS hb2').set 0 _).cell 0, by have h := (HLK.out _ (hp2.set (p := ⟨w1.heap.size, 0, none⟩) (by simp at hpg; show w1.heap.size < pg; omega) (.slice A ((partsOf k.kind).getD []).length ((partsOf k.kind).getD []).length))).1; exact h⟩, rfl, (bke.bS hb2').far HNE.out _, (((below_drewN HB0.out 1).alloc HB0.out.size _).trans (hb2'.mono (by simp; have := HB0.out.size; omega))).setCell HB0.out.size _⟩
  case rest =>
    obtain ⟨⟨gl, A, rfl, hc, hr⟩, rfl, hk, hbel⟩ := hcut
    have hle := partsOf_len k.kind
    obtain ⟨o, ho⟩ : ∃ o, partsOf k.kind = o := ⟨_, rfl⟩
    have hq2 := HQ2.out
    rw [ho] at hq2 hc hr hle ⊢
    have HO := Lib.hid ho
    clear ho HQ2 HQ
    cases o with
    | none =>
      have HQ3 := Lib.hid hq2
      clear hq2
      go_wp2
      go_ret
      exact ⟨by rw [HQ3.out]; rfl, hbel⟩
    | some l =>
      simp only [Option.isSome_some, Option.getD_some] at hc hr hle hq2 ⊢
      have k1 : wc.cell? ⟨g, 1, none⟩ = some (.int .u64 k.hi) := hk.cell 1
      have k2 : wc.cell? ⟨g, 2, none⟩ = some (.int .u64 k.lo) := hk.cell 2
      have k3 : wc.cell? ⟨g, 3, none⟩ = some (.int .u64 k.id) := hk.cell 3
      have k4 : wc.cell? ⟨g, 4, none⟩ = some (.string k.service) := hk.cell 4
      have k5 : wc.cell? ⟨g, 5, none⟩ = some (.string k.name) := hk.cell 5
      have k6 : wc.cell? ⟨g, 6, none⟩ = some (.string k.value) := hk.cell 6
      have k7 : wc.cell? ⟨g, 7, none⟩ = some (.int .u64 k.number) := hk.cell 7
      have k8 : wc.cell? ⟨g, 8, none⟩ = some (.int .i64 k.start) := hk.cell 8
      have hsp : (txtB k.service = false ∧ kyFine k l = false) ∨ (txtB k.service = true ∧ txtB k.name = false ∧ kyFine k l = false) ∨ (txtB k.service = true ∧ txtB k.name = true ∧ txtB k.value = false ∧ kyFine k l = false) ∨
          (txtB k.service = true ∧ txtB k.name = true ∧ txtB k.value = true ∧ k.start < 0 ∧ kyFine k l = false) ∨ (txtB k.service = true ∧ txtB k.name = true ∧ txtB k.value = true ∧ 0 ≤ k.start ∧ 4611686018427387903 < k.start ∧ kyFine k l = false) ∨
          (txtB k.service = true ∧ txtB k.name = true ∧ txtB k.value = true ∧ 0 ≤ k.start ∧ k.start ≤ 4611686018427387903) := by
        unfold kyFine
        cases txtB k.service
        · exact .inl ⟨rfl, by simp⟩
        cases txtB k.name
        · exact .inr (.inl ⟨rfl, rfl, by simp⟩)
        cases txtB k.value
        · exact .inr (.inr (.inl ⟨rfl, rfl, rfl, by simp⟩))
        by_cases e1 : k.start < 0
        · have e2 : decide (0 ≤ k.start) = false := by simp; omega
          exact .inr (.inr (.inr (.inl ⟨rfl, rfl, rfl, e1, by simp [e2]⟩)))
        by_cases e3 : 4611686018427387903 < k.start
        · have e2 : decide (k.start ≤ 4611686018427387903) = false := by simp; omega
          exact .inr (.inr (.inr (.inr (.inl ⟨rfl, rfl, rfl, by omega, e3, by simp [e2]⟩))))
        · exact .inr (.inr (.inr (.inr (.inr ⟨rfl, rfl, rfl, by omega, by omega⟩))))
      have stop : kyFine k l = false → q = 2 := fun h => by rw [hq2, h]; rfl
      rcases hsp with ⟨h1, hf⟩ | ⟨h1, h2, hf⟩ | ⟨h1, h2, h3, hf⟩ | ⟨h1, h2, h3, h4, hf⟩ | ⟨h1, h2, h3, h4, h5, hf⟩ | ⟨h1, h2, h3, h4, h5⟩
      case inr.inr.inr.inr.inr =>
        have H1 := Lib.hid h1
        have H2 := Lib.hid h2
        have H3 := Lib.hid h3
        have HS := Lib.hid stop
        have HQ2 := Lib.hid hq2
        have d4 : decide (k.start < 0) = false := by simp; omega
        have d5 : decide (4611686018427387903 < k.start) = false := by simp; omega
        clear h1 h2 h3 stop hq2
        go_wp2_with (go_at_call 37; refine (spText _ _).mono ?_; rintro e w' ⟨rfl, rfl⟩; first | rw [H1.out] | rw [H2.out] | rw [H3.out])
        have has : ∀ (x : Int) (n : Nat), Calls Try.prog 38 #[.int .i64 x, .pointer (some ⟨gl, 0, none⟩)] (w'.drewN n) fun e w'' => e = .returned (.bool (hasI l x)) ∧ w'' = w'.drewN n := fun x n => scHas x _ hc (hr.drewN n) rfl (by omega)
        have HAS := Lib.hid has
        clear has hc hr hle
        have hid0 : ∀ n : Nat, ((n : Int) == 0) = decide (n = 0) := fun n => by rw [Bool.eq_iff_iff, beq_iff_eq, decide_eq_true_iff]; omega
        have HI := Lib.hid hid0
        clear hid0
        by_cases b : (hasI l 0 == trc0 k) = true
        · have d : (hasI l 0 == trcB k.hi k.lo) = true := by exact b
          have HQ3 := Lib.hid (HS.out (by unfold kyFine; rw [b]; simp))
          clear b
          go_quiet ((go_at_call 38; first | exact Calls.quiet_of_same (HAS.out _ _) | exact quiet_add_same (HAS.out _ _)))
          go_wp2
          go_ret
          exact ⟨by rw [HQ3.out]; rfl, by repeat (first | exact hbel | refine below_drewN ?_ _)⟩
        have b : (hasI l 0 == trc0 k) = false := by simpa using b
        have d : (hasI l 0 == trcB k.hi k.lo) = false := by exact b
        have B0 := Lib.hid b
        clear b
        go_quiet ((go_at_call 38; first | exact Calls.quiet_of_same (HAS.out _ _) | exact quiet_add_same (HAS.out _ _)))
        go_wp2_with fail
        clear d
        by_cases b : (hasI l 2 == decide (k.id = 0)) = true
        · have d : (hasI l 2 == ((k.id : Int) == 0)) = true := by rw [HI.out]; exact b
          have HQ3 := Lib.hid (HS.out (by unfold kyFine; rw [b]; simp))
          clear b
          go_quiet ((go_at_call 38; first | exact Calls.quiet_of_same (HAS.out _ _) | exact quiet_add_same (HAS.out _ _)))
          go_wp2
          go_ret
          exact ⟨by rw [HQ3.out]; rfl, by repeat (first | exact hbel | refine below_drewN ?_ _)⟩
        have b : (hasI l 2 == decide (k.id = 0)) = false := by simpa using b
        have d : (hasI l 2 == ((k.id : Int) == 0)) = false := by rw [HI.out]; exact b
        have B2 := Lib.hid b
        clear b
        go_quiet ((go_at_call 38; first | exact Calls.quiet_of_same (HAS.out _ _) | exact quiet_add_same (HAS.out _ _)))
        go_wp2_with fail
        clear d
        by_cases b : (hasI l 3 == decide (k.service.size = 0)) = true
        · have d : (hasI l 3 == k.service.toList.isEmpty) = true := by rw [str_isEmpty]; exact b
          have HQ3 := Lib.hid (HS.out (by unfold kyFine; rw [b]; simp))
          clear b
          go_quiet ((go_at_call 38; first | exact Calls.quiet_of_same (HAS.out _ _) | exact quiet_add_same (HAS.out _ _)))
          go_wp2
          go_ret
          exact ⟨by rw [HQ3.out]; rfl, by repeat (first | exact hbel | refine below_drewN ?_ _)⟩
        have b : (hasI l 3 == decide (k.service.size = 0)) = false := by simpa using b
        have d : (hasI l 3 == k.service.toList.isEmpty) = false := by rw [str_isEmpty]; exact b
        have B3 := Lib.hid b
        clear b
        go_quiet ((go_at_call 38; first | exact Calls.quiet_of_same (HAS.out _ _) | exact quiet_add_same (HAS.out _ _)))
        go_wp2_with fail
        clear d
        by_cases b : (hasI l 4 == decide (k.name.size = 0)) = true
        · have d : (hasI l 4 == k.name.toList.isEmpty) = true := by rw [str_isEmpty]; exact b
          have HQ3 := Lib.hid (HS.out (by unfold kyFine; rw [b]; simp))
          clear b
          go_quiet ((go_at_call 38; first | exact Calls.quiet_of_same (HAS.out _ _) | exact quiet_add_same (HAS.out _ _)))
          go_wp2
          go_ret
          exact ⟨by rw [HQ3.out]; rfl, by repeat (first | exact hbel | refine below_drewN ?_ _)⟩
        have b : (hasI l 4 == decide (k.name.size = 0)) = false := by simpa using b
        have d : (hasI l 4 == k.name.toList.isEmpty) = false := by rw [str_isEmpty]; exact b
        have B4 := Lib.hid b
        clear b
        go_quiet ((go_at_call 38; first | exact Calls.quiet_of_same (HAS.out _ _) | exact quiet_add_same (HAS.out _ _)))
        go_upto_region 12 with fail
        clear d
        obtain ⟨c5, hc5⟩ : ∃ c, (!(hasI l 5 || decide (k.value.size = 0))) = c := ⟨_, rfl⟩
        have C5 := Lib.hid hc5
        clear hc5
        go_cut [86] from 87 to 94 (fun v W => v = .bool c5 ∧ ∃ m, W = w'.drewN m)
        case first =>
          have hcs : (hasI l 5 = true ∧ c5 = false) ∨ (hasI l 5 = false ∧ (k.value.size = 0) ∧ c5 = false) ∨ (hasI l 5 = false ∧ ¬ (k.value.size = 0) ∧ c5 = true) := by
            have h := C5.out
            cases e1 : hasI l 5
            · by_cases e2 : k.value.size = 0
              · exact .inr (.inl ⟨rfl, e2, by rw [← h, e1]; simp [e2]⟩)
              · exact .inr (.inr ⟨rfl, e2, by rw [← h, e1]; simp [e2]⟩)
            · exact .inl ⟨rfl, by rw [← h, e1]; rfl⟩
          rcases hcs with ⟨h, rfl⟩ | ⟨h, e, rfl⟩ | ⟨h, e, rfl⟩
          all_goals
            have H := Lib.hid h
            try have d : (k.value.toList.isEmpty) = true := by rw [str_isEmpty]; exact decide_eq_true e
            try have d : (k.value.toList.isEmpty) = false := by rw [str_isEmpty]; exact decide_eq_false e
            try have d2 : (k.start != 0) = true := by rw [bne_iff_ne]; exact e
            try have d2 : (k.start != 0) = false := by rw [e]; rfl
            try have d3 : ((k.number : Int) != 0) = false := by rw [e]; rfl
            try have d3 : ((k.number : Int) != 0) = true := by rw [bne_iff_ne]; omega
            try clear e
            clear h
            go_wp2_with (go_at_call 38; refine (HAS.out _ _).mono ?_; rintro e w2 ⟨rfl, rfl⟩; rw [H.out])
            go_meet
            exact ⟨rfl, _, rfl⟩
        case rest =>
        obtain ⟨rfl, m5, rfl⟩ := hcut
        cases c5 with
        | true =>
          have HQ3 := Lib.hid (HS.out (by have h := C5.out; unfold kyFine; rw [show (hasI l 5 || decide (k.value.size = 0)) = false from by simpa using h]; simp))
          go_wp2
          go_ret
          exact ⟨by rw [HQ3.out]; rfl, by repeat (first | exact hbel | refine below_drewN ?_ _)⟩
        | false =>
        go_upto_region 13 with fail
        obtain ⟨c6, hc6⟩ : ∃ c, (!(hasI l 6 || decide (k.start = 0))) = c := ⟨_, rfl⟩
        have C6 := Lib.hid hc6
        clear hc6
        go_cut [86] from 95 to 102 (fun v W => v = .bool c6 ∧ ∃ m, W = w'.drewN m)
        case first =>
          have hcs : (hasI l 6 = true ∧ c6 = false) ∨ (hasI l 6 = false ∧ (k.start = 0) ∧ c6 = false) ∨ (hasI l 6 = false ∧ ¬ (k.start = 0) ∧ c6 = true) := by
            have h := C6.out
            cases e1 : hasI l 6
            · by_cases e2 : k.start = 0
              · exact .inr (.inl ⟨rfl, e2, by rw [← h, e1]; simp [e2]⟩)
              · exact .inr (.inr ⟨rfl, e2, by rw [← h, e1]; simp [e2]⟩)
            · exact .inl ⟨rfl, by rw [← h, e1]; rfl⟩
          rcases hcs with ⟨h, rfl⟩ | ⟨h, e, rfl⟩ | ⟨h, e, rfl⟩
          all_goals
            have H := Lib.hid h
            try have d : (k.start == 0) = true := by rw [beq_iff_eq]; exact e
            try have d : (k.start == 0) = false := by rw [beq_eq_false_iff_ne]; exact e
            try have d2 : (k.start != 0) = true := by rw [bne_iff_ne]; exact e
            try have d2 : (k.start != 0) = false := by rw [e]; rfl
            try have d3 : ((k.number : Int) != 0) = false := by rw [e]; rfl
            try have d3 : ((k.number : Int) != 0) = true := by rw [bne_iff_ne]; omega
            try clear e
            clear h
            go_wp2_with (go_at_call 38; refine (HAS.out _ _).mono ?_; rintro e w2 ⟨rfl, rfl⟩; rw [H.out])
            go_meet
            exact ⟨rfl, _, rfl⟩
        case rest =>
        obtain ⟨rfl, m6, rfl⟩ := hcut
        cases c6 with
        | true =>
          have HQ3 := Lib.hid (HS.out (by have h := C6.out; unfold kyFine; rw [show (hasI l 6 || decide (k.start = 0)) = false from by simpa using h]; simp))
          go_wp2
          go_ret
          exact ⟨by rw [HQ3.out]; rfl, by repeat (first | exact hbel | refine below_drewN ?_ _)⟩
        | false =>
        go_upto_region 14 with fail
        obtain ⟨c7, hc7⟩ : ∃ c, (!(hasI l 7 || decide (k.number = 0))) = c := ⟨_, rfl⟩
        have C7 := Lib.hid hc7
        clear hc7
        go_cut [86] from 103 to 110 (fun v W => v = .bool c7 ∧ ∃ m, W = w'.drewN m)
        case first =>
          have hcs : (hasI l 7 = true ∧ c7 = false) ∨ (hasI l 7 = false ∧ (k.number = 0) ∧ c7 = false) ∨ (hasI l 7 = false ∧ ¬ (k.number = 0) ∧ c7 = true) := by
            have h := C7.out
            cases e1 : hasI l 7
            · by_cases e2 : k.number = 0
              · exact .inr (.inl ⟨rfl, e2, by rw [← h, e1]; simp [e2]⟩)
              · exact .inr (.inr ⟨rfl, e2, by rw [← h, e1]; simp [e2]⟩)
            · exact .inl ⟨rfl, by rw [← h, e1]; rfl⟩
          rcases hcs with ⟨h, rfl⟩ | ⟨h, e, rfl⟩ | ⟨h, e, rfl⟩
          all_goals
            have H := Lib.hid h
            try have d : ((k.number : Int) == 0) = true := by rw [HI.out]; exact decide_eq_true e
            try have d : ((k.number : Int) == 0) = false := by rw [HI.out]; exact decide_eq_false e
            try have d2 : (k.start != 0) = true := by rw [bne_iff_ne]; exact e
            try have d2 : (k.start != 0) = false := by rw [e]; rfl
            try have d3 : ((k.number : Int) != 0) = false := by rw [e]; rfl
            try have d3 : ((k.number : Int) != 0) = true := by rw [bne_iff_ne]; omega
            try clear e
            clear h
            go_wp2_with (go_at_call 38; refine (HAS.out _ _).mono ?_; rintro e w2 ⟨rfl, rfl⟩; rw [H.out])
            go_meet
            exact ⟨rfl, _, rfl⟩
        case rest =>
        obtain ⟨rfl, m7, rfl⟩ := hcut
        cases c7 with
        | true =>
          have HQ3 := Lib.hid (HS.out (by have h := C7.out; unfold kyFine; rw [show (hasI l 7 || decide (k.number = 0)) = false from by simpa using h]; simp))
          go_wp2
          go_ret
          exact ⟨by rw [HQ3.out]; rfl, by repeat (first | exact hbel | refine below_drewN ?_ _)⟩
        | false =>
        go_upto_region 15 with fail
        obtain ⟨c8, hc8⟩ : ∃ c, (decide (k.kind ≠ 100) || decide (k.number ≤ 4611686018427387903)) = c := ⟨_, rfl⟩
        have hcs : ((k.kind ≠ 100) ∧ c8 = true) ∨ (k.kind = 100 ∧ k.number ≤ 4611686018427387903 ∧ c8 = true) ∨ (k.kind = 100 ∧ 4611686018427387903 < k.number ∧ c8 = false) := by
          by_cases e1 : k.kind = 100
          · by_cases e2 : k.number ≤ 4611686018427387903
            · exact .inr (.inl ⟨e1, e2, by rw [← hc8]; simp [e2]⟩)
            · exact .inr (.inr ⟨e1, by omega, by rw [← hc8]; simp [e1, e2]⟩)
          · exact .inl ⟨e1, by rw [← hc8]; simp [e1]⟩
        have hqf : q = if c8 = true then 0 else 2 := by
          have e5 : (hasI l 5 || decide (k.value.size = 0)) = true := not_not_b C5.out
          have e6 : (hasI l 6 || decide (k.start = 0)) = true := not_not_b C6.out
          have e7 : (hasI l 7 || decide (k.number = 0)) = true := not_not_b C7.out
          have es : decide (0 ≤ k.start) = true := by simp; omega
          have et : decide (k.start ≤ 4611686018427387903) = true := by simp; omega
          rw [HQ2.out]
          unfold kyFine
          rw [H1.out, H2.out, H3.out, B0.out, B2.out, B3.out, B4.out, e5, e6, e7, es, et, hc8]
          simp
        have HQF := Lib.hid hqf
        have hk0 : w'.cell? ⟨g, 0, none⟩ = some (.int .i64 k.kind) := hk.cell 0
        clear hc8 hqf
        rcases hcs with ⟨e1, rfl⟩ | ⟨e1, e2, rfl⟩ | ⟨e1, e2, rfl⟩
        · have d : (k.kind == 100) = false := by rw [beq_eq_false_iff_ne]; exact e1
          clear e1
          go_wp2
          go_ret
          exact ⟨by rw [HQF.out]; rfl, by repeat (first | exact hbel | refine below_drewN ?_ _)⟩
        · have d : (k.kind == 100) = true := by rw [beq_iff_eq]; exact e1
          have d2 : decide (4611686018427387903 < (k.number : Int)) = false := by simp; omega
          clear e1
          go_wp2
          go_ret
          exact ⟨by rw [HQF.out]; rfl, by repeat (first | exact hbel | refine below_drewN ?_ _)⟩
        · have d : (k.kind == 100) = true := by rw [beq_iff_eq]; exact e1
          have d2 : decide (4611686018427387903 < (k.number : Int)) = true := by simp; omega
          clear e1
          go_wp2
          go_ret
          exact ⟨by rw [HQF.out]; rfl, by repeat (first | exact hbel | refine below_drewN ?_ _)⟩
      all_goals
        have HQ3 := Lib.hid (stop hf)
        have H1 := Lib.hid h1
        try have H2 := Lib.hid h2
        try have H3 := Lib.hid h3
        try have d4 : decide (k.start < 0) = false := by simp; omega
        clear h1 stop hq2 hf
        try clear h2
        try clear h3
        go_wp2_with (go_at_call 37; refine (spText _ _).mono ?_; rintro e w' ⟨rfl, rfl⟩; first | rw [H1.out] | rw [H2.out] | rw [H3.out])
        go_ret
        exact ⟨by rw [HQ3.out]; rfl, hbel⟩
set_option maxRecDepth 100000 in
set_option maxHeartbeats 2000000 in
theorem scCheck (k : Ky) (w : World) :
    Calls Try.prog 16 #[kyV k] w fun e w' => e = .returned (.int .i64 (kyChk k)) ∧ Below w.heap.size w w' := by
  have hsplit : (128 < k.service.size ∧ kyLong k = true) ∨ (k.service.size ≤ 128 ∧ 128 < k.name.size ∧ kyLong k = true) ∨ (k.service.size ≤ 128 ∧ k.name.size ≤ 128 ∧ 128 < k.value.size ∧ kyLong k = true) ∨ (k.service.size ≤ 128 ∧ k.name.size ≤ 128 ∧ k.value.size ≤ 128 ∧ kyLong k = false) := by
    unfold kyLong
    by_cases a1 : 128 < k.service.size
    · exact .inl ⟨a1, by simp [a1]⟩
    by_cases a2 : 128 < k.name.size
    · exact .inr (.inl ⟨by omega, a2, by simp [a2]⟩)
    by_cases a3 : 128 < k.value.size
    · exact .inr (.inr (.inl ⟨by omega, by omega, a3, by simp [a3]⟩))
    · exact .inr (.inr (.inr ⟨by omega, by omega, by omega, by simp; omega⟩))
  rcases hsplit with ⟨a1, a0⟩ | ⟨a1, a2, a0⟩ | ⟨a1, a2, a3, a0⟩ | ⟨a1, a2, a3, a0⟩
  case inr.inr.inr => exact scCheckB k w a1 a2 a3 a0
  all_goals
    have hb0 : Below w.heap.size w (w.alloc (.cells (kyC k) 26)) := (Below.refl _ w).alloc (Nat.le_refl _) _
    have bk := Bk.new w 26 (kyC k)
    obtain ⟨w1, hw1⟩ : ∃ w1, w.alloc (.cells (kyC k) 26) = w1 := ⟨_, rfl⟩
    rw [hw1] at hb0 bk
    have HW := Lib.hid hw1
    obtain ⟨g, hg⟩ : ∃ g, w.heap.size = g := ⟨_, rfl⟩
    rw [hg] at bk
    have HG := Lib.hid hg
    have HB0 := Lib.hid hb0
    have k4 : w1.cell? ⟨g, 4, none⟩ = some (.string k.service) := bk.cell 4
    have k5 : w1.cell? ⟨g, 5, none⟩ = some (.string k.name) := bk.cell 5
    have k6 : w1.cell? ⟨g, 6, none⟩ = some (.string k.value) := bk.cell 6
    have hq3 : kyChk k = 3 := by rw [kyChk, if_pos a0]
    first
      | (have e1 : (128 : Int) < (k.service.size : Int) := by omega)
      | (have e1 : decide ((128 : Int) < (k.service.size : Int)) = false := by simp; omega)
    first
      | (have e2 : (128 : Int) < (k.name.size : Int) := by omega)
      | (have e2 : decide ((128 : Int) < (k.name.size : Int)) = false := by simp; omega)
      | skip
    first
      | (have e3 : (128 : Int) < (k.value.size : Int) := by omega)
      | skip
    rw [hq3]
    clear hw1 hg hb0 bk hq3 a0
    go_enter Try.func16, Try.ntmps16
    go_upto_region 1 with fail
    rw [HW.out, HG.out]
    go_wp2
    go_ret
    exact ⟨rfl, HB0.out⟩
end Go.Proofs.Ytlamebbolioljaa
