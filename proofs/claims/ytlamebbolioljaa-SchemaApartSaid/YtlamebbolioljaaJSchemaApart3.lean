/- Texts of the proof of SchemaApartSaid, joined: ScC WireOrd WireRO ScW LoadK ScE ScF ScD. -/
import Derived.Deep.Cut
import Derived.Deep.CutRange
import Derived.Deep.RegionHeld3
import Derived.Deep.QuietTactic
import Derived.Test.YtlamebbolioljaaJSchemaApart2
import Derived.Laws.Rows
import Derived.Laws.Tables
import Derived.Test.YtlamebbolioljaaProg
import Derived.Test.YtlamebbolioljaaJSchemaApart1
/- Keys: Check. -/
namespace Go.Proofs.Ytlamebbolioljaa
open Go.RowKit

theorem quiet_add_same {P : Program} {f : FuncId} {args : Array Value} {w : World} {a n : Nat} {v : Value}
    (h : Calls P f args (w.drewN (a + n)) fun e w' => e = .returned v ∧ w' = w.drewN (a + n)) :
    Calls P f args (w.drewN (a + n)) fun e w'' => e = .returned v ∧ ∃ m, w'' = w.drewN (a + m) :=
  h.mono fun _ _ ⟨he, hm⟩ => ⟨he, n, hm⟩
theorem str_isEmpty {s : ByteArray} : s.toList.isEmpty = decide (s.size = 0) := by
  rw [← str_empty]
  cases s.toList <;> rfl
theorem not_not_b {b : Bool} (h : (!b) = false) : b = true := by cases b <;> simp_all
def trcB (hi lo : Nat) : Bool := decide (hi = 0) && decide (lo = 0)
theorem eqlTrc0 (W : World) (hi lo : Nat) : (binOp .eql 24 (.agg #[.int .u64 hi, .int .u64 lo]) (.agg #[.int .u64 0, .int .u64 0])).run Try.prog W = .ok (.bool (trcB hi lo)) W := by
  unfold trcB
  by_cases h1 : hi = 0
  · subst h1
    by_cases h2 : lo = 0
    · subst h2
      kernel_rfl
    · have e : ((lo : Int) == 0) = false := by simp [h2]
      go_simp
  · have e : ((hi : Int) == 0) = false := by simp [h1]
    go_simp
attribute [local go_sem ↓] eqlTrc0
def kyLong (k : Ky) : Bool := decide (128 < k.service.size) || decide (128 < k.name.size) || decide (128 < k.value.size)
def trc0 (k : Ky) : Bool := trcB k.hi k.lo
def kyFine (k : Ky) (l : List Int) : Bool :=
  txtB k.service && txtB k.name && txtB k.value && decide (0 ≤ k.start) && decide (k.start ≤ 4611686018427387903) &&
  !(hasI l 0 == trc0 k) && !(hasI l 2 == decide (k.id = 0)) && !(hasI l 3 == decide (k.service.size = 0)) && !(hasI l 4 == decide (k.name.size = 0)) &&
  (hasI l 5 || decide (k.value.size = 0)) && (hasI l 6 || decide (k.start = 0)) && (hasI l 7 || decide (k.number = 0)) && (decide (k.kind ≠ 100) || decide (k.number ≤ 4611686018427387903))
def kyChk (k : Ky) : Nat := if kyLong k = true then 3 else match partsOf k.kind with | none => 2 | some l => if kyFine k l = true then 0 else 2

theorem PartsAt.set {w : World} {pg : Nat} (h : PartsAt w pg) {p : Addr} (hp : p.block < pg) (u : Value) : PartsAt (w.setCell p u) pg :=
  ⟨(Below.heap_setCell w p u pg (by omega)).trans h.mp, fun x hx => ⟨(h.bl x hx).1, (h.bl x hx).2.far (by have := (h.bl x hx).1; omega) u⟩⟩
theorem partsOf_len (k : Int) : ((partsOf k).getD []).length ≤ 7 := by
  unfold partsOf
  cases hf : kinds.find? (fun p => p.1 == k) with
  | none => simp
  | some p =>
    have hm := List.mem_of_find?_eq_some hf
    have : ∀ p ∈ kinds, p.2.length ≤ 7 := by decide
    simpa using this p hm
/-- Behind the lookup of the parts: where they lie. -/
structure ScM (w0 W : World) (g : Nat) (k : Ky) (p t : Value) : Prop where
  cell : ∃ gl A, p = .pointer (some ⟨gl, 0, none⟩) ∧ W.cell? ⟨gl, 0, none⟩ = some (.slice A ((partsOf k.kind).getD []).length ((partsOf k.kind).getD []).length) ∧ Rd W W.heap.size A (iv ((partsOf k.kind).getD []))
  is : t = .bool (partsOf k.kind).isSome
  key : Bk W g 26 (kyC k)
  bel : Below w0.heap.size w0 W

set_option maxRecDepth 100000 in
set_option maxHeartbeats 8000000 in
theorem scCheckB (k : Ky) (w : World) (a1 : k.service.size ≤ 128) (a2 : k.name.size ≤ 128) (a3 : k.value.size ≤ 128) (a0 : kyLong k = false) :
    Calls Try.prog 16 #[kyV k] w fun e w' => e = .returned (.int .i64 (kyChk k)) ∧ Below w.heap.size w w' := by
  have hb0 : Below w.heap.size w (w.alloc (.cells (kyC k) 26)) := (Below.refl _ w).alloc (Nat.le_refl _) _
  have bk := Bk.new w 26 (kyC k)
  obtain ⟨w1, hw1⟩ : ∃ w1, w.alloc (.cells (kyC k) 26) = w1 := ⟨_, rfl⟩
  rw [hw1] at hb0 bk
  have HW := Lib.hid hw1
  obtain ⟨g, hg⟩ : ∃ g, w.heap.size = g := ⟨_, rfl⟩
  rw [hg] at bk
  have HG := Lib.hid hg
  obtain ⟨q, hq⟩ : ∃ q, kyChk k = q := ⟨_, rfl⟩
  rw [hq]
  have HQ := Lib.hid hq
  have HB0 := Lib.hid hb0
  have k4 : w1.cell? ⟨g, 4, none⟩ = some (.string k.service) := bk.cell 4
  have k5 : w1.cell? ⟨g, 5, none⟩ = some (.string k.name) := bk.cell 5
  have k6 : w1.cell? ⟨g, 6, none⟩ = some (.string k.value) := bk.cell 6
  have hb1 : decide ((128 : Int) < (k.service.size : Int)) = false := by simp; omega
  have hb2 : decide ((128 : Int) < (k.name.size : Int)) = false := by simp; omega
  have hb3 : decide ((128 : Int) < (k.value.size : Int)) = false := by simp; omega
  have HQ2 : Hid (q = match partsOf k.kind with | none => 2 | some l => if kyFine k l = true then 0 else 2) := by
    rw [← HQ.out, kyChk, if_neg (by rw [a0]; simp)]
    exact Lib.hid rfl
  clear hw1 hg hq hb0 a0
  have bkd := bk.drew
  have HNE : Hid (g ≠ w1.heap.size) := by
    have h := bk.lt
    exact Lib.hid (show g ≠ w1.heap.size by omega)
  have bkl := (Bk.new w1 64 #[.slice none 0 0]).drew
  have bke := (bk.alloc (.cells #[.slice none 0 0] 64)).drew
  have kd0 : w1.drew.cell? ⟨g, 0, none⟩ = some (.int .i64 k.kind) := bkd.cell 0
  have kd1 : (w1.alloc (.cells #[.slice none 0 0] 64)).drew.cell? ⟨g, 0, none⟩ = some (.int .i64 k.kind) := bke.cell 0
  go_enter Try.func16, Try.ntmps16
  go_upto_region 1 with fail
  rw [HW.out, HG.out]
  go_upto_region 3 with fail
  go_cut [3, 4] from 22 to 28 (fun p t W => ScM w W g k p t)
  case first =>
    go_region_held3 (fun w' => w'.cell? ⟨g, 0, none⟩ = some (.int .i64 k.kind)) (first | go_keep | exact (World.cell?_setCell_other _ ⟨w1.heap.size, 0, none⟩ ⟨g, 0, none⟩ _ (fun e => HNE.out (congrArg Addr.block e).symm)).trans (by assumption))
      (first
        | (go_at_call 28
           refine (scParts _).mono ?_
           rintro e w2 ⟨pg, rfl, hp2, hpg, hb2'⟩
           have hp3 := hp2.alloc (.cells #[.slice none 0 0] 64)
           obtain ⟨A, hlk⟩ := parts_look pg k.kind
           have hlkt := (hlk w2 hp2).2 true
           have hlku := (hlk _ hp3).2 true
           have HLK := Lib.hid hlk
           have kd0' : w2.cell? ⟨g, 0, none⟩ = some (.int .i64 k.kind) := by first | exact ((bkd.bS hb2').cell 0) | exact ((bke.bS hb2').cell 0)
           try have ks : w2.cell? ⟨w1.heap.size, 0, none⟩ = some (.slice none 0 0) := (bkl.bS hb2').cell 0
           try have kf : w2.frozen? ⟨w1.heap.size, 0, none⟩ = false := (bkl.bS hb2').frozen 0
           clear hlk)
        | fail)
    all_goals
      go_wp2
      go_meet
      first
        | exact ⟨⟨_, A, rfl, (Bk.new w2 _ _).cell 0, ((HLK.out w2 hp2).1).allocS _⟩, rfl, (bkd.bS hb2').alloc _, ((below_drewN HB0.out 1).trans (hb2'.mono HB0.out.size)).alloc (Nat.le_trans HB0.out.size hb2'.size) _⟩
        | exact ⟨⟨_, A, rfl, ((bkl.bS hb2').set 0 _).cell 0, by have h := (HLK.out _ (hp2.set (p := ⟨w1.heap.size, 0, none⟩) (by simp at hpg; show w1.heap.size < pg; omega) (.slice A ((partsOf k.kind).getD []).length ((partsOf k.kind).getD []).length))).1; exact h⟩, rfl, (bke.bS hb2').far HNE.out _, (((below_drewN HB0.out 1).alloc HB0.out.size _).trans (hb2'.mono (by simp; have := HB0.out.size; omega))).setCell HB0.out.size _⟩
  case rest =>
    obtain ⟨⟨gl, A, rfl, hc, hr⟩, rfl, hk, hbel⟩ := hcut
    have hle := partsOf_len k.kind
    obtain ⟨o, ho⟩ : ∃ o, partsOf k.kind = o := ⟨_, rfl⟩
    have hq2 := HQ2.out
    rw [ho] at hq2 hc hr hle ⊢
    have HO := Lib.hid ho
    clear ho HQ2 HQ
    cases o with
    | none =>
      have HQ3 := Lib.hid hq2
      clear hq2
      go_wp2
      go_ret
      exact ⟨by rw [HQ3.out]; rfl, hbel⟩
    | some l =>
      simp only [Option.isSome_some, Option.getD_some] at hc hr hle hq2 ⊢
      have k1 : wc.cell? ⟨g, 1, none⟩ = some (.int .u64 k.hi) := hk.cell 1
      have k2 : wc.cell? ⟨g, 2, none⟩ = some (.int .u64 k.lo) := hk.cell 2
      have k3 : wc.cell? ⟨g, 3, none⟩ = some (.int .u64 k.id) := hk.cell 3
      have k4 : wc.cell? ⟨g, 4, none⟩ = some (.string k.service) := hk.cell 4
      have k5 : wc.cell? ⟨g, 5, none⟩ = some (.string k.name) := hk.cell 5
      have k6 : wc.cell? ⟨g, 6, none⟩ = some (.string k.value) := hk.cell 6
      have k7 : wc.cell? ⟨g, 7, none⟩ = some (.int .u64 k.number) := hk.cell 7
      have k8 : wc.cell? ⟨g, 8, none⟩ = some (.int .i64 k.start) := hk.cell 8
      have hsp : (txtB k.service = false ∧ kyFine k l = false) ∨ (txtB k.service = true ∧ txtB k.name = false ∧ kyFine k l = false) ∨ (txtB k.service = true ∧ txtB k.name = true ∧ txtB k.value = false ∧ kyFine k l = false) ∨
          (txtB k.service = true ∧ txtB k.name = true ∧ txtB k.value = true ∧ k.start < 0 ∧ kyFine k l = false) ∨ (txtB k.service = true ∧ txtB k.name = true ∧ txtB k.value = true ∧ 0 ≤ k.start ∧ 4611686018427387903 < k.start ∧ kyFine k l = false) ∨
          (txtB k.service = true ∧ txtB k.name = true ∧ txtB k.value = true ∧ 0 ≤ k.start ∧ k.start ≤ 4611686018427387903) := by
        unfold kyFine
        cases txtB k.service
        · exact .inl ⟨rfl, by simp⟩
        cases txtB k.name
        · exact .inr (.inl ⟨rfl, rfl, by simp⟩)
        cases txtB k.value
        · exact .inr (.inr (.inl ⟨rfl, rfl, rfl, by simp⟩))
        by_cases e1 : k.start < 0
        · have e2 : decide (0 ≤ k.start) = false := by simp; omega
          exact .inr (.inr (.inr (.inl ⟨rfl, rfl, rfl, e1, by simp [e2]⟩)))
        by_cases e3 : 4611686018427387903 < k.start
        · have e2 : decide (k.start ≤ 4611686018427387903) = false := by simp; omega
          exact .inr (.inr (.inr (.inr (.inl ⟨rfl, rfl, rfl, by omega, e3, by simp [e2]⟩))))
        · exact .inr (.inr (.inr (.inr (.inr ⟨rfl, rfl, rfl, by omega, by omega⟩))))
      have stop : kyFine k l = false → q = 2 := fun h => by rw [hq2, h]; rfl
      rcases hsp with ⟨h1, hf⟩ | ⟨h1, h2, hf⟩ | ⟨h1, h2, h3, hf⟩ | ⟨h1, h2, h3, h4, hf⟩ | ⟨h1, h2, h3, h4, h5, hf⟩ | ⟨h1, h2, h3, h4, h5⟩
      case inr.inr.inr.inr.inr =>
        have H1 := Lib.hid h1
        have H2 := Lib.hid h2
        have H3 := Lib.hid h3
        have HS := Lib.hid stop
        have HQ2 := Lib.hid hq2
        have d4 : decide (k.start < 0) = false := by simp; omega
        have d5 : decide (4611686018427387903 < k.start) = false := by simp; omega
        clear h1 h2 h3 stop hq2
        go_wp2_with (go_at_call 37; refine (spText _ _).mono ?_; rintro e w' ⟨rfl, rfl⟩; first | rw [H1.out] | rw [H2.out] | rw [H3.out])
        have has : ∀ (x : Int) (n : Nat), Calls Try.prog 38 #[.int .i64 x, .pointer (some ⟨gl, 0, none⟩)] (w'.drewN n) fun e w'' => e = .returned (.bool (hasI l x)) ∧ w'' = w'.drewN n := fun x n => scHas x _ hc (hr.drewN n) rfl (by omega)
        have HAS := Lib.hid has
        clear has hc hr hle
        have hid0 : ∀ n : Nat, ((n : Int) == 0) = decide (n = 0) := fun n => by rw [Bool.eq_iff_iff, beq_iff_eq, decide_eq_true_iff]; omega
        have HI := Lib.hid hid0
        clear hid0
        by_cases b : (hasI l 0 == trc0 k) = true
        · have d : (hasI l 0 == trcB k.hi k.lo) = true := by exact b
          have HQ3 := Lib.hid (HS.out (by unfold kyFine; rw [b]; simp))
          clear b
          go_quiet ((go_at_call 38; first | exact Calls.quiet_of_same (HAS.out _ _) | exact quiet_add_same (HAS.out _ _)))
          go_wp2
          go_ret
          exact ⟨by rw [HQ3.out]; rfl, by repeat (first | exact hbel | refine below_drewN ?_ _)⟩
        have b : (hasI l 0 == trc0 k) = false := by simpa using b
        have d : (hasI l 0 == trcB k.hi k.lo) = false := by exact b
        have B0 := Lib.hid b
        clear b
        go_quiet ((go_at_call 38; first | exact Calls.quiet_of_same (HAS.out _ _) | exact quiet_add_same (HAS.out _ _)))
        go_wp2_with fail
        clear d
        by_cases b : (hasI l 2 == decide (k.id = 0)) = true
        · have d : (hasI l 2 == ((k.id : Int) == 0)) = true := by rw [HI.out]; exact b
          have HQ3 := Lib.hid (HS.out (by unfold kyFine; rw [b]; simp))
          clear b
          go_quiet ((go_at_call 38; first | exact Calls.quiet_of_same (HAS.out _ _) | exact quiet_add_same (HAS.out _ _)))
          go_wp2
          go_ret
          exact ⟨by rw [HQ3.out]; rfl, by repeat (first | exact hbel | refine below_drewN ?_ _)⟩
        have b : (hasI l 2 == decide (k.id = 0)) = false := by simpa using b
        have d : (hasI l 2 == ((k.id : Int) == 0)) = false := by rw [HI.out]; exact b
        have B2 := Lib.hid b
        clear b
        go_quiet ((go_at_call 38; first | exact Calls.quiet_of_same (HAS.out _ _) | exact quiet_add_same (HAS.out _ _)))
        go_wp2_with fail
        clear d
        by_cases b : (hasI l 3 == decide (k.service.size = 0)) = true
        · have d : (hasI l 3 == k.service.toList.isEmpty) = true := by rw [str_isEmpty]; exact b
          have HQ3 := Lib.hid (HS.out (by unfold kyFine; rw [b]; simp))
          clear b
          go_quiet ((go_at_call 38; first | exact Calls.quiet_of_same (HAS.out _ _) | exact quiet_add_same (HAS.out _ _)))
          go_wp2
          go_ret
          exact ⟨by rw [HQ3.out]; rfl, by repeat (first | exact hbel | refine below_drewN ?_ _)⟩
        have b : (hasI l 3 == decide (k.service.size = 0)) = false := by simpa using b
        have d : (hasI l 3 == k.service.toList.isEmpty) = false := by rw [str_isEmpty]; exact b
        have B3 := Lib.hid b
        clear b
        go_quiet ((go_at_call 38; first | exact Calls.quiet_of_same (HAS.out _ _) | exact quiet_add_same (HAS.out _ _)))
        go_wp2_with fail
        clear d
        by_cases b : (hasI l 4 == decide (k.name.size = 0)) = true
        · have d : (hasI l 4 == k.name.toList.isEmpty) = true := by rw [str_isEmpty]; exact b
          have HQ3 := Lib.hid (HS.out (by unfold kyFine; rw [b]; simp))
          clear b
          go_quiet ((go_at_call 38; first | exact Calls.quiet_of_same (HAS.out _ _) | exact quiet_add_same (HAS.out _ _)))
          go_wp2
          go_ret
          exact ⟨by rw [HQ3.out]; rfl, by repeat (first | exact hbel | refine below_drewN ?_ _)⟩
        have b : (hasI l 4 == decide (k.name.size = 0)) = false := by simpa using b
        have d : (hasI l 4 == k.name.toList.isEmpty) = false := by rw [str_isEmpty]; exact b
        have B4 := Lib.hid b
        clear b
        go_quiet ((go_at_call 38; first | exact Calls.quiet_of_same (HAS.out _ _) | exact quiet_add_same (HAS.out _ _)))
        go_upto_region 12 with fail
        clear d
        obtain ⟨c5, hc5⟩ : ∃ c, (!(hasI l 5 || decide (k.value.size = 0))) = c := ⟨_, rfl⟩
        have C5 := Lib.hid hc5
        clear hc5
        go_cut [86] from 87 to 94 (fun v W => v = .bool c5 ∧ ∃ m, W = w'.drewN m)
        case first =>
          have hcs : (hasI l 5 = true ∧ c5 = false) ∨ (hasI l 5 = false ∧ (k.value.size = 0) ∧ c5 = false) ∨ (hasI l 5 = false ∧ ¬ (k.value.size = 0) ∧ c5 = true) := by
            have h := C5.out
            cases e1 : hasI l 5
            · by_cases e2 : k.value.size = 0
              · exact .inr (.inl ⟨rfl, e2, by rw [← h, e1]; simp [e2]⟩)
              · exact .inr (.inr ⟨rfl, e2, by rw [← h, e1]; simp [e2]⟩)
            · exact .inl ⟨rfl, by rw [← h, e1]; rfl⟩
          rcases hcs with ⟨h, rfl⟩ | ⟨h, e, rfl⟩ | ⟨h, e, rfl⟩
          all_goals
            have H := Lib.hid h
            try have d : (k.value.toList.isEmpty) = true := by rw [str_isEmpty]; exact decide_eq_true e
            try have d : (k.value.toList.isEmpty) = false := by rw [str_isEmpty]; exact decide_eq_false e
            try have d2 : (k.start != 0) = true := by rw [bne_iff_ne]; exact e
            try have d2 : (k.start != 0) = false := by rw [e]; rfl
            try have d3 : ((k.number : Int) != 0) = false := by rw [e]; rfl
            try have d3 : ((k.number : Int) != 0) = true := by rw [bne_iff_ne]; omega
            try clear e
            clear h
            go_wp2_with (go_at_call 38; refine (HAS.out _ _).mono ?_; rintro e w2 ⟨rfl, rfl⟩; rw [H.out])
            go_meet
            exact ⟨rfl, _, rfl⟩
        case rest =>
        obtain ⟨rfl, m5, rfl⟩ := hcut
        cases c5 with
        | true =>
          have HQ3 := Lib.hid (HS.out (by have h := C5.out; unfold kyFine; rw [show (hasI l 5 || decide (k.value.size = 0)) = false from by simpa using h]; simp))
          go_wp2
          go_ret
          exact ⟨by rw [HQ3.out]; rfl, by repeat (first | exact hbel | refine below_drewN ?_ _)⟩
        | false =>
        go_upto_region 13 with fail
        obtain ⟨c6, hc6⟩ : ∃ c, (!(hasI l 6 || decide (k.start = 0))) = c := ⟨_, rfl⟩
        have C6 := Lib.hid hc6
        clear hc6
        go_cut [86] from 95 to 102 (fun v W => v = .bool c6 ∧ ∃ m, W = w'.drewN m)
        case first =>
          have hcs : (hasI l 6 = true ∧ c6 = false) ∨ (hasI l 6 = false ∧ (k.start = 0) ∧ c6 = false) ∨ (hasI l 6 = false ∧ ¬ (k.start = 0) ∧ c6 = true) := by
            have h := C6.out
            cases e1 : hasI l 6
            · by_cases e2 : k.start = 0
              · exact .inr (.inl ⟨rfl, e2, by rw [← h, e1]; simp [e2]⟩)
              · exact .inr (.inr ⟨rfl, e2, by rw [← h, e1]; simp [e2]⟩)
            · exact .inl ⟨rfl, by rw [← h, e1]; rfl⟩
          rcases hcs with ⟨h, rfl⟩ | ⟨h, e, rfl⟩ | ⟨h, e, rfl⟩
          all_goals
            have H := Lib.hid h
            try have d : (k.start == 0) = true := by rw [beq_iff_eq]; exact e
            try have d : (k.start == 0) = false := by rw [beq_eq_false_iff_ne]; exact e
            try have d2 : (k.start != 0) = true := by rw [bne_iff_ne]; exact e
            try have d2 : (k.start != 0) = false := by rw [e]; rfl
            try have d3 : ((k.number : Int) != 0) = false := by rw [e]; rfl
            try have d3 : ((k.number : Int) != 0) = true := by rw [bne_iff_ne]; omega
            try clear e
            clear h
            go_wp2_with (go_at_call 38; refine (HAS.out _ _).mono ?_; rintro e w2 ⟨rfl, rfl⟩; rw [H.out])
            go_meet
            exact ⟨rfl, _, rfl⟩
        case rest =>
        obtain ⟨rfl, m6, rfl⟩ := hcut
        cases c6 with
        | true =>
          have HQ3 := Lib.hid (HS.out (by have h := C6.out; unfold kyFine; rw [show (hasI l 6 || decide (k.start = 0)) = false from by simpa using h]; simp))
          go_wp2
          go_ret
          exact ⟨by rw [HQ3.out]; rfl, by repeat (first | exact hbel | refine below_drewN ?_ _)⟩
        | false =>
        go_upto_region 14 with fail
        obtain ⟨c7, hc7⟩ : ∃ c, (!(hasI l 7 || decide (k.number = 0))) = c := ⟨_, rfl⟩
        have C7 := Lib.hid hc7
        clear hc7
        go_cut [86] from 103 to 110 (fun v W => v = .bool c7 ∧ ∃ m, W = w'.drewN m)
        case first =>
          have hcs : (hasI l 7 = true ∧ c7 = false) ∨ (hasI l 7 = false ∧ (k.number = 0) ∧ c7 = false) ∨ (hasI l 7 = false ∧ ¬ (k.number = 0) ∧ c7 = true) := by
            have h := C7.out
            cases e1 : hasI l 7
            · by_cases e2 : k.number = 0
              · exact .inr (.inl ⟨rfl, e2, by rw [← h, e1]; simp [e2]⟩)
              · exact .inr (.inr ⟨rfl, e2, by rw [← h, e1]; simp [e2]⟩)
            · exact .inl ⟨rfl, by rw [← h, e1]; rfl⟩
          rcases hcs with ⟨h, rfl⟩ | ⟨h, e, rfl⟩ | ⟨h, e, rfl⟩
          all_goals
            have H := Lib.hid h
            try have d : ((k.number : Int) == 0) = true := by rw [HI.out]; exact decide_eq_true e
            try have d : ((k.number : Int) == 0) = false := by rw [HI.out]; exact decide_eq_false e
            try have d2 : (k.start != 0) = true := by rw [bne_iff_ne]; exact e
            try have d2 : (k.start != 0) = false := by rw [e]; rfl
            try have d3 : ((k.number : Int) != 0) = false := by rw [e]; rfl
            try have d3 : ((k.number : Int) != 0) = true := by rw [bne_iff_ne]; omega
            try clear e
            clear h
            go_wp2_with (go_at_call 38; refine (HAS.out _ _).mono ?_; rintro e w2 ⟨rfl, rfl⟩; rw [H.out])
            go_meet
            exact ⟨rfl, _, rfl⟩
        case rest =>
        obtain ⟨rfl, m7, rfl⟩ := hcut
        cases c7 with
        | true =>
          have HQ3 := Lib.hid (HS.out (by have h := C7.out; unfold kyFine; rw [show (hasI l 7 || decide (k.number = 0)) = false from by simpa using h]; simp))
          go_wp2
          go_ret
          exact ⟨by rw [HQ3.out]; rfl, by repeat (first | exact hbel | refine below_drewN ?_ _)⟩
        | false =>
        go_upto_region 15 with fail
        obtain ⟨c8, hc8⟩ : ∃ c, (decide (k.kind ≠ 100) || decide (k.number ≤ 4611686018427387903)) = c := ⟨_, rfl⟩
        have hcs : ((k.kind ≠ 100) ∧ c8 = true) ∨ (k.kind = 100 ∧ k.number ≤ 4611686018427387903 ∧ c8 = true) ∨ (k.kind = 100 ∧ 4611686018427387903 < k.number ∧ c8 = false) := by
          by_cases e1 : k.kind = 100
          · by_cases e2 : k.number ≤ 4611686018427387903
            · exact .inr (.inl ⟨e1, e2, by rw [← hc8]; simp [e2]⟩)
            · exact .inr (.inr ⟨e1, by omega, by rw [← hc8]; simp [e1, e2]⟩)
          · exact .inl ⟨e1, by rw [← hc8]; simp [e1]⟩
        have hqf : q = if c8 = true then 0 else 2 := by
          have e5 : (hasI l 5 || decide (k.value.size = 0)) = true := not_not_b C5.out
          have e6 : (hasI l 6 || decide (k.start = 0)) = true := not_not_b C6.out
          have e7 : (hasI l 7 || decide (k.number = 0)) = true := not_not_b C7.out
          have es : decide (0 ≤ k.start) = true := by simp; omega
          have et : decide (k.start ≤ 4611686018427387903) = true := by simp; omega
          rw [HQ2.out]
          unfold kyFine
          rw [H1.out, H2.out, H3.out, B0.out, B2.out, B3.out, B4.out, e5, e6, e7, es, et, hc8]
          simp
        have HQF := Lib.hid hqf
        have hk0 : w'.cell? ⟨g, 0, none⟩ = some (.int .i64 k.kind) := hk.cell 0
        clear hc8 hqf
        rcases hcs with ⟨e1, rfl⟩ | ⟨e1, e2, rfl⟩ | ⟨e1, e2, rfl⟩
        · have d : (k.kind == 100) = false := by rw [beq_eq_false_iff_ne]; exact e1
          clear e1
          go_wp2
          go_ret
          exact ⟨by rw [HQF.out]; rfl, by repeat (first | exact hbel | refine below_drewN ?_ _)⟩
        · have d : (k.kind == 100) = true := by rw [beq_iff_eq]; exact e1
          have d2 : decide (4611686018427387903 < (k.number : Int)) = false := by simp; omega
          clear e1
          go_wp2
          go_ret
          exact ⟨by rw [HQF.out]; rfl, by repeat (first | exact hbel | refine below_drewN ?_ _)⟩
        · have d : (k.kind == 100) = true := by rw [beq_iff_eq]; exact e1
          have d2 : decide (4611686018427387903 < (k.number : Int)) = true := by simp; omega
          clear e1
          go_wp2
          go_ret
          exact ⟨by rw [HQF.out]; rfl, by repeat (first | exact hbel | refine below_drewN ?_ _)⟩
      all_goals
        have HQ3 := Lib.hid (stop hf)
        have H1 := Lib.hid h1
        try have H2 := Lib.hid h2
        try have H3 := Lib.hid h3
        try have d4 : decide (k.start < 0) = false := by simp; omega
        clear h1 stop hq2 hf
        try clear h2
        try clear h3
        go_wp2_with (go_at_call 37; refine (spText _ _).mono ?_; rintro e w' ⟨rfl, rfl⟩; first | rw [H1.out] | rw [H2.out] | rw [H3.out])
        go_ret
        exact ⟨by rw [HQ3.out]; rfl, hbel⟩
set_option maxRecDepth 100000 in
set_option maxHeartbeats 2000000 in
theorem scCheck (k : Ky) (w : World) :
    Calls Try.prog 16 #[kyV k] w fun e w' => e = .returned (.int .i64 (kyChk k)) ∧ Below w.heap.size w w' := by
  have hsplit : (128 < k.service.size ∧ kyLong k = true) ∨ (k.service.size ≤ 128 ∧ 128 < k.name.size ∧ kyLong k = true) ∨ (k.service.size ≤ 128 ∧ k.name.size ≤ 128 ∧ 128 < k.value.size ∧ kyLong k = true) ∨ (k.service.size ≤ 128 ∧ k.name.size ≤ 128 ∧ k.value.size ≤ 128 ∧ kyLong k = false) := by
    unfold kyLong
    by_cases a1 : 128 < k.service.size
    · exact .inl ⟨a1, by simp [a1]⟩
    by_cases a2 : 128 < k.name.size
    · exact .inr (.inl ⟨by omega, a2, by simp [a2]⟩)
    by_cases a3 : 128 < k.value.size
    · exact .inr (.inr (.inl ⟨by omega, by omega, a3, by simp [a3]⟩))
    · exact .inr (.inr (.inr ⟨by omega, by omega, by omega, by simp; omega⟩))
  rcases hsplit with ⟨a1, a0⟩ | ⟨a1, a2, a0⟩ | ⟨a1, a2, a3, a0⟩ | ⟨a1, a2, a3, a0⟩
  case inr.inr.inr => exact scCheckB k w a1 a2 a3 a0
  all_goals
    have hb0 : Below w.heap.size w (w.alloc (.cells (kyC k) 26)) := (Below.refl _ w).alloc (Nat.le_refl _) _
    have bk := Bk.new w 26 (kyC k)
    obtain ⟨w1, hw1⟩ : ∃ w1, w.alloc (.cells (kyC k) 26) = w1 := ⟨_, rfl⟩
    rw [hw1] at hb0 bk
    have HW := Lib.hid hw1
    obtain ⟨g, hg⟩ : ∃ g, w.heap.size = g := ⟨_, rfl⟩
    rw [hg] at bk
    have HG := Lib.hid hg
    have HB0 := Lib.hid hb0
    have k4 : w1.cell? ⟨g, 4, none⟩ = some (.string k.service) := bk.cell 4
    have k5 : w1.cell? ⟨g, 5, none⟩ = some (.string k.name) := bk.cell 5
    have k6 : w1.cell? ⟨g, 6, none⟩ = some (.string k.value) := bk.cell 6
    have hq3 : kyChk k = 3 := by rw [kyChk, if_pos a0]
    first
      | (have e1 : (128 : Int) < (k.service.size : Int) := by omega)
      | (have e1 : decide ((128 : Int) < (k.service.size : Int)) = false := by simp; omega)
    first
      | (have e2 : (128 : Int) < (k.name.size : Int) := by omega)
      | (have e2 : decide ((128 : Int) < (k.name.size : Int)) = false := by simp; omega)
      | skip
    first
      | (have e3 : (128 : Int) < (k.value.size : Int) := by omega)
      | skip
    rw [hq3]
    clear hw1 hg hb0 bk hq3 a0
    go_enter Try.func16, Try.ntmps16
    go_upto_region 1 with fail
    rw [HW.out, HG.out]
    go_wp2
    go_ret
    exact ⟨rfl, HB0.out⟩
end Go.Proofs.Ytlamebbolioljaa

/- (wire.Ordered, wire.Piece alone) Contracts of wire's writers. -/
namespace Go.Proofs.Ytlamebbolioljaa
open Go.RowKit

theorem shr_byte {x : Nat} {e : Nat} (k : Nat) (h : e = 8 * k) : (x : Int) / 2 ^ e % 256 = ((x / 256 ^ k % 256 : Nat) : Int) := by
  subst h
  have e : (2 : Nat) ^ (8 * k) = 256 ^ k := by rw [Nat.pow_mul]
  rw [← e]
  simp

set_option maxHeartbeats 400000 in
theorem wireOrdered {base A c n x} {xs : List Int} (w : World) (ho : w.ownsRow base 5 1 (.slice A n c) n (bv xs)) (hb : base ≤ w.heap.size) (hx : x < 18446744073709551616) (hn : n + 10 ≤ 140737488355328) :
    Calls Try.prog 56 #[.slice A n c, .int .u64 (x : Nat)] w (RetApp base 5 1 w (.slice A n c) (n + 8) (bv (xs ++ ordEnc x)) (fun _ => True)) := by
  go_enter Try.func56, Try.ntmps56
  go_wp2
  go_loopw [0, 5] (fun v i wr => ∃ (A' : Option Addr) (c' m k : Nat) (j : Int) (ys : List Int), k ≤ 8 ∧ v = .slice A' m c' ∧ i = .int .i64 j ∧ 8 * (k : Int) - 8 ≤ j ∧ j ≤ 8 * (k : Int) - 8 ∧ App base 5 1 w (.slice A n c) wr (.slice A' m c') m (bv ys) ∧ m + k = n + 8 ∧ ys ++ ordTo x k = xs ++ ordEnc x) (fun _ i _ => (intOf i + 8).toNat)
  case atStart => exact ⟨A, c, n, 8, _, xs, by omega, rfl, rfl, by omega, by omega, App.refl ho, rfl, rfl⟩
  case round =>
    obtain ⟨A', c', m, k, j, ys, hk, rfl, rfl, hj1, hj2, happ, hm, hys⟩ := hrel
    have HM := Lib.hid hm
    have HY := Lib.hid hys
    have hmb : m + 1 ≤ 140737488355328 ∨ k = 0 := by omega
    clear hm hys
    cases k with
    | zero =>
      have hj : j < 0 := by omega
      go_wp2
      go_ret
      have e1 : m = n + 8 := HM.out
      have e2 : ys = xs ++ ordEnc x := by rw [← HY.out]; simp [ordTo]
      exact ⟨A', c', by rw [← e1]; rfl, by rw [← e1, ← e2]; exact happ, trivial⟩
    | succ k =>
      have hj : 0 ≤ j := by omega
      have hmb' : m + 1 ≤ 140737488355328 := by omega
      clear hmb
      obtain ⟨z, hz⟩ : ∃ z : Int, z = ((x / 256 ^ k % 256 : Nat) : Int) := ⟨_, rfl⟩
      have hval : (x : Int) / 2 ^ (j).toNat % 256 = z := by rw [hz]; exact shr_byte k (by omega)
      have HZ := Lib.hid hz
      clear hz
      go_wp2_with (at_builtin; go_loud (refine wpList_appb _ rfl (.tmp 10) (.tmp 15) rfl base _ m ys rfl (happ.own.alloc _) _ _ 1 1 [z] rfl rfl (Rd.lit _ _ _) hmb' (by have := happ.heap; simp; omega) ?_))
      intro A2 c2 w2 h2 hne
      go_wp2
      go_roundw
      case rel =>
        exact ⟨A2, c2, m + 1, k, j - 8, ys ++ [z], by omega, rfl, by go_num, by omega, by omega, (happ.alloc _).trans h2, by have := HM.out; omega, by rw [← HY.out, HZ.out]; simp [ordTo]⟩
      case measure => simp [intOf]; omega

set_option maxHeartbeats 400000 in
theorem wirePiece {base A c n A1 c1 B m} {xs zs : List Int} (w : World) (ho : w.ownsRow base 5 1 (.slice A n c) n (bv xs)) (hb : base ≤ w.heap.size) (hr : Rb w B A1 zs) (hB : B ≤ w.heap.size) (hs : zs = [] ∨ Sep A A1) (hn : n + 1048592 ≤ 140737488355328) (hz : zs.length ≤ 1048576) (hm : zs.length = m) :
    Calls Try.prog 91 #[.slice A n c, .slice A1 m c1] w fun e w' => ∃ A' c', e = .returned (.tuple #[.slice A' (n + (numEnc zs.length).length + zs.length) c', .int .i64 0]) ∧ App base 5 1 w (.slice A n c) w' (.slice A' (n + (numEnc zs.length).length + zs.length) c') (n + (numEnc zs.length).length + zs.length) (bv (xs ++ (numEnc zs.length ++ zs))) := by
  subst hm
  have hx : zs.length < 18446744073709551616 := by omega
  have hl := numEnc_u64 hx
  go_enter Try.func91, Try.ntmps91
  go_wp2_with fail
  refine (wireNumber w ho hb hx (by omega)).mono ?_
  rintro e w1 ⟨A', c', rfl, happ, hne⟩
  have hr1 : Rb w1 B A1 zs := by
    rcases hs with h0 | hs
    · rw [h0]; exact Rd.nil
    · exact hr.apart hB happ.grown hs
  go_wp2_with (at_builtin; go_loud (refine wpList_appb _ rfl (.tmp 13) (.tmp 14) rfl base _ _ _ rfl happ.own B A1 zs.length c1 zs rfl rfl hr1 (by omega) (by have := happ.heap; omega) ?_))
  intro A2 c2 w2 h2 hne2
  go_wp2
  go_ret2
  exact ⟨A2, c2, rfl, happ.trans h2⟩

set_option maxHeartbeats 400000 in
theorem wirePieceLong {A c n A1 c1 m} (w : World) (hm : m ≤ maxLen) (hz : 1048576 < m) :
    Calls Try.prog 91 #[.slice A n c, .slice A1 m c1] w fun e w' => e = .returned (.tuple #[.slice none 0 0, .int .i64 3]) ∧ w = w' := by
  unfold maxLen at hm
  go_enter Try.func91, Try.ntmps91
  go_wp2
  go_ret2
  exact ⟨rfl, rfl⟩

end Go.Proofs.Ytlamebbolioljaa

/- (wire.ReadOrdered alone) Contracts of wire's readers. -/
namespace Go.Proofs.Ytlamebbolioljaa
open Go.RowKit

/-- A byte behind a number that was moved left. -/
theorem or_byte (v : Nat) (x : Int) (hv : v < 72057594037927936) (h0 : 0 ≤ x) (h1 : x ≤ 255) : bits .or .u64 ((v : Int) * 256) x = ((v * 256 + x.toNat : Nat) : Int) := by
  rw [u64_or _ _ (by omega) (by omega) h0 (by omega)]
  have e : ((v : Int) * 256).toNat = 2 ^ 8 * v := by omega
  rw [e, ← Nat.two_pow_add_eq_or_of_lt (show x.toNat < 2 ^ 8 from by omega) v]
  omega

/-- A slice too short. -/
theorem wireReadOrdered0 {A : Option Addr} {c n : Nat} (w : World) (h : n < 8) :
    Calls Try.prog 30 #[.slice A n c] w fun e w' => e = .returned (.tuple #[.int .u64 0, .int .i64 0, .int .i64 12]) ∧ w = w' := by
  go_enter Try.func30, Try.ntmps30
  go_wp2
  go_ret3
  exact ⟨rfl, rfl⟩
set_option maxHeartbeats 400000 in
theorem wireReadOrdered1 {A : Option Addr} {c n B : Nat} {zs : List Int} (w : World) (ha : Rb w B A zs) (hz : Byt zs) (hl : zs.length ≤ maxLen) (h : 8 ≤ n) (hn : zs.length = n) (hc : n ≤ c) :
    Calls Try.prog 30 #[.slice A n c] w fun e w' => e = .returned (.tuple #[.int .u64 (ordVal (zs.take 8)), .int .i64 8, .int .i64 0]) ∧ w = w' := by
  subst hn
  unfold maxLen at hl
  obtain ⟨b, o, x0, hx0, rfl, hb0, hcell0⟩ := ha.get (k := 0) (by omega)
  clear hx0 hcell0
  go_enter Try.func30, Try.ntmps30
  go_wp2
  go_loop [2, 13] (fun x i => ∃ (k : Nat) (v : Nat), k ≤ 8 ∧ i = .int .i64 k ∧ x = .int .u64 (v : Nat) ∧ v = ordVal (zs.take k)) (fun _ i => 8 - (intOf i).toNat)
  case atStart => exact ⟨0, 0, by omega, rfl, rfl, by simp [ordVal]⟩
  case round =>
    obtain ⟨k, v, hk, rfl, rfl, hv⟩ := hrel
    have hvb : v < 256 ^ k := by rw [hv]; exact ordVal_lt k _ (hz.take k) (by simp; omega)
    have HV := Lib.hid hv
    clear hv
    by_cases hlt : k < 8
    · obtain ⟨b', o', x, hx, e1, hb, hcell⟩ := ha.get (k := k) (by omega)
      injection e1 with e1
      injection e1 with e1 e2
      subst e1 e2
      have hxb := hz.get hx
      have hvb' : v < 72057594037927936 := Nat.lt_of_lt_of_le hvb (show 256 ^ k ≤ 256 ^ 7 from Nat.pow_le_pow_right (by omega) (by omega))
      have HX := Lib.hid hx
      clear hx hvb
      go_wp2
      go_round
      case rel => exact ⟨k + 1, v * 256 + x.toNat, by omega, by go_num, congrArg (Value.int IntKind.u64) (or_byte v x hvb' hxb.1 hxb.2), by rw [take_snoc HX.out, ordVal_snoc, ← HV.out]⟩
      case measure => simp [intOf]; omega
    · obtain rfl : k = 8 := by omega
      go_wp2
      go_ret3
      exact ⟨by rw [HV.out]; rfl, rfl⟩

end Go.Proofs.Ytlamebbolioljaa

/- What keys want of wire and of bootprintref01: numbers and texts in order, put and read. (Lines of Wire2 and Wire4.) -/
namespace Go.Proofs.Ytlamebbolioljaa
open Go.RowKit

set_option maxHeartbeats 400000 in
theorem refOrdered {base A c n x} {xs : List Int} (w : World) (ho : w.ownsRow base 5 1 (.slice A n c) n (bv xs)) (hb : base ≤ w.heap.size) (hx : x < 18446744073709551616) (hn : n + 10 ≤ 140737488355328) :
    Calls Try.prog 58 #[.slice A n c, .int .u64 (x : Nat)] w (RetApp base 5 1 w (.slice A n c) (n + 8) (bv (xs ++ ordEnc x)) (fun _ => True)) := by
  go_enter Try.func58, Try.ntmps58
  go_wp2
  go_loopw [0, 5] (fun v i wr => ∃ (A' : Option Addr) (c' m k : Nat) (j : Int) (ys : List Int), k ≤ 8 ∧ v = .slice A' m c' ∧ i = .int .i64 j ∧ (k : Int) - 1 ≤ j ∧ j ≤ (k : Int) - 1 ∧ App base 5 1 w (.slice A n c) wr (.slice A' m c') m (bv ys) ∧ m + k = n + 8 ∧ ys ++ ordTo x k = xs ++ ordEnc x) (fun _ i _ => (intOf i + 8).toNat)
  case atStart => exact ⟨A, c, n, 8, _, xs, by omega, rfl, rfl, by omega, by omega, App.refl ho, rfl, rfl⟩
  case round =>
    obtain ⟨A', c', m, k, j, ys, hk, rfl, rfl, hj1, hj2, happ, hm, hys⟩ := hrel
    have HM := Lib.hid hm
    have HY := Lib.hid hys
    have hmb : m + 1 ≤ 140737488355328 ∨ k = 0 := by omega
    clear hm hys
    cases k with
    | zero =>
      have hj : j < 0 := by omega
      go_wp2
      go_ret
      have e1 : m = n + 8 := HM.out
      have e2 : ys = xs ++ ordEnc x := by rw [← HY.out]; simp [ordTo]
      exact ⟨A', c', by rw [← e1]; rfl, by rw [← e1, ← e2]; exact happ, trivial⟩
    | succ k =>
      have hj : 0 ≤ j := by omega
      have hmb' : m + 1 ≤ 140737488355328 := by omega
      clear hmb
      obtain ⟨z, hz⟩ : ∃ z : Int, z = ((x / 256 ^ k % 256 : Nat) : Int) := ⟨_, rfl⟩
      have hval : (x : Int) / 2 ^ (8 * j).toNat % 256 = z := by rw [hz]; exact shr_byte k (by omega)
      have HZ := Lib.hid hz
      clear hz
      go_wp2_with (at_builtin; go_loud (refine wpList_appb _ rfl (.tmp 10) (.tmp 17) rfl base _ m ys rfl (happ.own.alloc _) _ _ 1 1 [z] rfl rfl (Rd.lit _ _ _) hmb' (by have := happ.heap; simp; omega) ?_))
      intro A2 c2 w2 h2 hne
      go_wp2
      go_roundw
      case rel =>
        exact ⟨A2, c2, m + 1, k, j - 1, ys ++ [z], by omega, rfl, by go_num, by omega, by omega, (happ.alloc _).trans h2, by have := HM.out; omega, by rw [← HY.out, HZ.out]; simp [ordTo]⟩
      case measure => simp [intOf]; omega


theorem take_snoc' {α : Type} {l : List α} {k : Nat} {x : α} (h : l[k]? = some x) : l.take (k + 1) = l.take k ++ [x] := by
  rw [List.take_add_one, h]; rfl

set_option maxHeartbeats 400000 in
theorem wireOrderedText {base A c n} {s : ByteArray} {xs : List Int} (w : World) (ho : w.ownsRow base 5 1 (.slice A n c) n (bv xs)) (hb : base ≤ w.heap.size) (hs : s.size ≤ 1073741824) (hn : n ≤ 1099511627776) :
    Calls Try.prog 57 #[.slice A n c, .string s] w (RetApp base 5 1 w (.slice A n c) (xs ++ txtEnc (nums s)).length (bv (xs ++ txtEnc (nums s))) (· ≠ none)) := by
  have hnx := own_length ho
  rw [bv_length] at hnx
  have HN := Lib.hid hnx
  clear hnx
  go_enter Try.func57, Try.ntmps57
  go_wp2
  go_loopw [0, 8] (fun v i wr => ∃ (A' : Option Addr) (c' m k : Nat) (ys : List Int), k ≤ s.size ∧ v = .slice A' m c' ∧ i = .int .i64 (k : Nat) ∧ App base 5 1 w (.slice A n c) wr (.slice A' m c') m (bv ys) ∧ m ≤ n + 2 * k ∧ ys = xs ++ txtTo ((nums s).take k)) (fun _ i _ => s.size - (intOf i).toNat)
  case atStart => exact ⟨A, c, n, 0, xs, by omega, rfl, rfl, App.refl ho, by omega, by simp [txtTo]⟩
  case round =>
    obtain ⟨A', c', m, k, ys, hk, rfl, rfl, happ, hm, hys⟩ := hrel
    have HY := Lib.hid hys
    clear hys
    by_cases hlt : k < s.size
    · obtain ⟨z, hz⟩ : ∃ z : Int, z = ((s[k]'hlt).toNat : Int) := ⟨_, rfl⟩
      have hzz : ((s[k]'hlt).toNat : Int) = z := hz.symm
      have HZ : Hid ((nums s)[k]? = some z) := by rw [hz]; exact nums_get hlt
      clear hz
      by_cases h0 : z = 0
      · subst h0
        go_wp2_with (at_builtin; refine wpList_appb _ rfl (.tmp 11) (.tmp 15) rfl base _ m ys rfl (happ.own.alloc _) _ _ 1 1 [0] rfl rfl (Rd.lit _ _ _) (by omega) (by have := happ.heap; simp; omega) ?_)
        intro A2 c2 w2 h2 hne
        have h2' := (happ.alloc _).trans h2
        go_wp2_with (at_builtin; refine wpList_appb _ rfl (.tmp 21) (.tmp 22) rfl base _ (m + 1) (ys ++ [0]) rfl (h2.own.alloc _) _ _ 1 1 [255] rfl rfl (Rd.lit _ _ _) (by omega) (by have := h2'.heap; simp; omega) ?_)
        intro A3 c3 w3 h3 hne3
        go_wp2
        go_roundw
        case rel =>
          exact ⟨A3, c3, m + 1 + 1, k + 1, ys ++ [0] ++ [255], by omega, rfl, by go_num, (h2'.alloc _).trans (by simpa using h3), by omega, by rw [take_snoc' HZ.out, txtTo_snoc0, HY.out]; simp⟩
        case measure => simp [intOf]; omega
      · have hne0 : (z == 0) = false := by simp [h0]
        go_wp2_with (at_builtin; refine wpList_appb _ rfl (.tmp 11) (.tmp 15) rfl base _ m ys rfl (happ.own.alloc _) _ _ 1 1 [z] rfl rfl (Rd.lit _ _ _) (by omega) (by have := happ.heap; simp; omega) ?_)
        intro A2 c2 w2 h2 hne
        have h2' := (happ.alloc _).trans h2
        go_wp2
        go_roundw
        case rel =>
          exact ⟨A2, c2, m + 1, k + 1, ys ++ [z], by omega, rfl, by go_num, h2', by omega, by rw [take_snoc' HZ.out, txtTo_snoc _ h0, HY.out]; simp⟩
        case measure => simp [intOf]; omega
    · go_wp2_with (at_builtin; refine wpList_appb _ rfl (.tmp 25) (.tmp 26) rfl base _ m ys rfl (happ.own.alloc _) _ _ 2 2 [0, 1] rfl rfl (Rd.lit _ _ _) (by omega) (by have := happ.heap; simp; omega) ?_)
      intro A2 c2 w2 h2 hne
      have h2' := (happ.alloc _).trans h2
      go_wp2
      go_ret
      have e2 : ys ++ [0, 1] = xs ++ txtEnc (nums s) := by rw [HY.out, List.take_of_length_le (by rw [nums_len]; omega)]; simp [txtEnc]
      have e1 : m + 2 = (xs ++ txtEnc (nums s)).length := by
        have := own_length h2'.own
        rw [bv_length, e2] at this
        exact this.symm
      exact ⟨A2, c2, by rw [← e1]; rfl, by rw [← e1, ← e2]; exact h2', hne⟩

set_option maxHeartbeats 400000 in
theorem refOrderedText {base A c n} {s : ByteArray} {xs : List Int} (w : World) (ho : w.ownsRow base 5 1 (.slice A n c) n (bv xs)) (hb : base ≤ w.heap.size) (hs : s.size ≤ 1073741824) (hn : n ≤ 1099511627776) :
    Calls Try.prog 59 #[.slice A n c, .string s] w (RetApp base 5 1 w (.slice A n c) (xs ++ txtEnc (nums s)).length (bv (xs ++ txtEnc (nums s))) (· ≠ none)) := by
  have hnx := own_length ho
  rw [bv_length] at hnx
  have HN := Lib.hid hnx
  clear hnx
  go_enter Try.func59, Try.ntmps59
  go_wp2
  go_loopw [0, 5] (fun v i wr => ∃ (A' : Option Addr) (c' m k : Nat) (ys : List Int), k ≤ s.size ∧ v = .slice A' m c' ∧ i = .int .i64 (k : Nat) ∧ App base 5 1 w (.slice A n c) wr (.slice A' m c') m (bv ys) ∧ m ≤ n + 2 * k ∧ ys = xs ++ txtTo ((nums s).take k)) (fun _ i _ => s.size - (intOf i).toNat)
  case atStart => exact ⟨A, c, n, 0, xs, by omega, rfl, rfl, App.refl ho, by omega, by simp [txtTo]⟩
  case round =>
    obtain ⟨A', c', m, k, ys, hk, rfl, rfl, happ, hm, hys⟩ := hrel
    have HY := Lib.hid hys
    clear hys
    by_cases hlt : k < s.size
    · obtain ⟨z, hz⟩ : ∃ z : Int, z = ((s[k]'hlt).toNat : Int) := ⟨_, rfl⟩
      have hzz : ((s[k]'hlt).toNat : Int) = z := hz.symm
      have HZ : Hid ((nums s)[k]? = some z) := by rw [hz]; exact nums_get hlt
      clear hz
      by_cases h0 : z = 0
      · subst h0
        go_wp2_with (at_builtin; refine wpList_appb _ rfl (.tmp 12) (.tmp 16) rfl base _ m ys rfl (happ.own.alloc _) _ _ 1 1 [0] rfl rfl (Rd.lit _ _ _) (by omega) (by have := happ.heap; simp; omega) ?_)
        intro A2 c2 w2 h2 hne
        have h2' := (happ.alloc _).trans h2
        go_wp2_with (at_builtin; refine wpList_appb _ rfl (.tmp 22) (.tmp 23) rfl base _ (m + 1) (ys ++ [0]) rfl (h2.own.alloc _) _ _ 1 1 [255] rfl rfl (Rd.lit _ _ _) (by omega) (by have := h2'.heap; simp; omega) ?_)
        intro A3 c3 w3 h3 hne3
        go_wp2
        go_roundw
        case rel =>
          exact ⟨A3, c3, m + 1 + 1, k + 1, ys ++ [0] ++ [255], by omega, rfl, by go_num, (h2'.alloc _).trans (by simpa using h3), by omega, by rw [take_snoc' HZ.out, txtTo_snoc0, HY.out]; simp⟩
        case measure => simp [intOf]; omega
      · have hne0 : (z == 0) = false := by simp [h0]
        go_wp2_with (at_builtin; refine wpList_appb _ rfl (.tmp 12) (.tmp 16) rfl base _ m ys rfl (happ.own.alloc _) _ _ 1 1 [z] rfl rfl (Rd.lit _ _ _) (by omega) (by have := happ.heap; simp; omega) ?_)
        intro A2 c2 w2 h2 hne
        have h2' := (happ.alloc _).trans h2
        go_wp2
        go_roundw
        case rel =>
          exact ⟨A2, c2, m + 1, k + 1, ys ++ [z], by omega, rfl, by go_num, h2', by omega, by rw [take_snoc' HZ.out, txtTo_snoc _ h0, HY.out]; simp⟩
        case measure => simp [intOf]; omega
    · go_wp2_with (at_builtin; refine wpList_appb _ rfl (.tmp 25) (.tmp 26) rfl base _ m ys rfl (happ.own.alloc _) _ _ 2 2 [0, 1] rfl rfl (Rd.lit _ _ _) (by omega) (by have := happ.heap; simp; omega) ?_)
      intro A2 c2 w2 h2 hne
      have h2' := (happ.alloc _).trans h2
      go_wp2
      go_ret
      have e2 : ys ++ [0, 1] = xs ++ txtEnc (nums s) := by rw [HY.out, List.take_of_length_le (by rw [nums_len]; omega)]; simp [txtEnc]
      have e1 : m + 2 = (xs ++ txtEnc (nums s)).length := by
        have := own_length h2'.own
        rw [bv_length, e2] at this
        exact this.symm
      exact ⟨A2, c2, by rw [← e1]; rfl, by rw [← e1, ← e2]; exact h2', hne⟩
theorem refReadOrdered0 {A : Option Addr} {c n : Nat} (w : World) (h : n < 8) :
    Calls Try.prog 33 #[.slice A n c] w fun e w' => e = .returned (.tuple #[.int .u64 0, .int .i64 0, .int .i64 12]) ∧ w = w' := by
  go_enter Try.func33, Try.ntmps33
  go_wp2
  go_ret3
  exact ⟨rfl, rfl⟩

set_option maxHeartbeats 400000 in
theorem refReadOrdered1 {A : Option Addr} {c n B : Nat} {zs : List Int} (w : World) (ha : Rb w B A zs) (hz : Byt zs) (hl : zs.length ≤ maxLen) (h : 8 ≤ n) (hn : zs.length = n) :
    Calls Try.prog 33 #[.slice A n c] w fun e w' => e = .returned (.tuple #[.int .u64 (ordVal (zs.take 8)), .int .i64 8, .int .i64 0]) ∧ w = w' := by
  subst hn
  unfold maxLen at hl
  go_enter Try.func33, Try.ntmps33
  go_wp2
  go_loop [5, 6] (fun x i => ∃ (k : Nat) (v : Nat), k ≤ 8 ∧ i = .int .i64 k ∧ x = .int .u64 (v : Nat) ∧ v = ordVal (zs.take k)) (fun _ i => 8 - (intOf i).toNat)
  case atStart => exact ⟨0, 0, by omega, rfl, rfl, by simp [ordVal]⟩
  case round =>
    obtain ⟨k, v, hk, rfl, rfl, hv⟩ := hrel
    have hvb : v < 256 ^ k := by rw [hv]; exact ordVal_lt k _ (hz.take k) (by simp; omega)
    have HV := Lib.hid hv
    clear hv
    by_cases hlt : k < 8
    · obtain ⟨b, o, x, hx, rfl, hb, hcell⟩ := ha.get (k := k) (by omega)
      have hxb := hz.get hx
      have hvb' : v < 72057594037927936 := Nat.lt_of_lt_of_le hvb (show 256 ^ k ≤ 256 ^ 7 from Nat.pow_le_pow_right (by omega) (by omega))
      have HX := Lib.hid hx
      clear hx hvb
      go_wp2
      go_round
      case rel => exact ⟨k + 1, v * 256 + x.toNat, by omega, by go_num, congrArg (Value.int IntKind.u64) (by omega), by rw [take_snoc' HX.out, ordVal_snoc, ← HV.out]⟩
      case measure => simp [intOf]; omega
    · obtain rfl : k = 8 := by omega
      go_wp2
      go_ret3
      exact ⟨by rw [HV.out]; rfl, rfl⟩


/-- What a reader of texts in order returns. -/
def TxtRet (w : World) (r : (List Int × Nat) ⊕ Nat) (e : Ending) (w' : World) : Prop :=
  (match r with
   | .inl (out, i) => e = .returned (.tuple #[.string (strOfNums out), .int .i64 i, .int .i64 0])
   | .inr n => e = .returned (.tuple #[.string ByteArray.empty, .int .i64 0, .int .i64 n])) ∧ Below w.heap.size w w'
theorem TxtRet.ok {w w' : World} {r : (List Int × Nat) ⊕ Nat} {out : List Int} {i : Nat} {e : Ending} (h : r = .inl (out, i)) (he : e = .returned (.tuple #[.string (strOfNums out), .int .i64 i, .int .i64 0])) (hb : Below w.heap.size w w') : TxtRet w r e w' := by subst h; exact ⟨he, hb⟩
theorem TxtRet.no {w w' : World} {r : (List Int × Nat) ⊕ Nat} {n : Nat} {e : Ending} (h : r = .inr n) (he : e = .returned (.tuple #[.string ByteArray.empty, .int .i64 0, .int .i64 n])) (hb : Below w.heap.size w w') : TxtRet w r e w' := by subst h; exact ⟨he, hb⟩

set_option maxHeartbeats 1600000 in
theorem wireReadOrderedText {A : Option Addr} {c n B : Nat} {zs : List Int} (w : World) (ha : Rb w B A zs) (hB : B ≤ w.heap.size) (hz : Byt zs) (hl : zs.length ≤ 1099511627776) (hn : zs.length = n) :
    Calls Try.prog 31 #[.slice A n c] w (TxtRet w (txtOf zs)) := by
  subst hn
  go_enter Try.func31, Try.ntmps31
  go_wp2
  go_loopw [5, 6] (fun v i wr => ∃ (A' : Option Addr) (c' k : Nat) (ys : List Int), k ≤ zs.length ∧ v = .slice A' ys.length c' ∧ i = .int .i64 k ∧ App w.heap.size 5 1 w (.slice none 0 0) wr (.slice A' ys.length c') ys.length (bv ys) ∧ ys.length ≤ k ∧ txtR zs k ys = txtOf zs) (fun _ i _ => zs.length - (intOf i).toNat)
  case atStart => exact ⟨none, 0, 0, [], by omega, rfl, rfl, App.refl (World.ownsRow_nil _ _ _ _), by simp, rfl⟩
  case round =>
    obtain ⟨A', c', k, ys, hk, rfl, rfl, happ, hyk, hys⟩ := hrel
    have HY := Lib.hid hys
    clear hys
    have hbel := happ.below0
    by_cases hlt : k < zs.length
    · obtain ⟨b, o, x, hx, rfl, hb, hcell⟩ := ha.get hlt
      have hcell1 := (hbel.cell (p := ⟨b, o + k, none⟩) (by show b < _; omega)).trans hcell
      clear hcell
      have hxb := hz.get hx
      have HX := Lib.hid hx
      clear hx
      by_cases h0 : x = 0
      · subst h0
        by_cases hk1 : k + 1 = zs.length
        · have hk1b : (((k : Nat) : Int) + 1 == ((zs.length : Nat) : Int)) = true := by rw [beq_iff_eq]; omega
          have HK := Lib.hid hk1
          clear hk1
          go_wp2
          go_ret3
          exact .no (HY.out.symm.trans (txtR_more HX.out HK.out)) rfl hbel
        · have hk1b : (((k : Nat) : Int) + 1 == ((zs.length : Nat) : Int)) = false := by rw [beq_eq_false_iff_ne]; omega
          obtain ⟨b', o', y, hy, e1, _, hcell⟩ := ha.get (k := k + 1) (by omega)
          injection e1 with e1
          injection e1 with e1 e2
          subst e1 e2
          have hcell2 := (hbel.cell (p := ⟨b, o + (k + 1), none⟩) (by show b < _; omega)).trans hcell
          clear hcell
          have hyb := hz.get hy
          have hk1c : k + 1 < zs.length := by omega
          have HY1 := Lib.hid hy
          clear hy hk1
          have hconv := Rb.str (P := Try.prog) (Rd.of_own happ.own) Try.underlying27 Try.underlying5 Try.underlying9 c'
          by_cases hy1 : y = 1
          · subst hy1
            go_wp2
            go_ret3
            exact .ok (HY.out.symm.trans (txtR_end HX.out HY1.out)) rfl hbel
          · have hy1b : (y == 1) = false := by simp [hy1]
            by_cases hy2 : y = 255
            · subst hy2
              go_wp2_with (at_builtin; go_loud (refine wpList_appb _ rfl (.tmp 48) (.tmp 49) rfl w.heap.size _ _ ys rfl (happ.own.alloc _) _ _ 1 1 [0] rfl rfl (Rd.lit _ _ _) (by omega) (by have := happ.heap; simp; omega) ?_))
              intro A2 c2 w2 h2 hne2
              go_wp2
              go_roundw
              case rel =>
                have e : ys.length + 1 = (ys ++ [0]).length := by simp
                rw [e] at h2
                exact ⟨A2, c2, k + 2, ys ++ [0], by omega, by rw [← e], by go_num, (happ.alloc _).trans h2, by simp; omega, by rw [← HY.out]; exact (txtR_zero HX.out HY1.out).symm⟩
              case measure => simp [intOf]; omega
            · have hy2b : (y == 255) = false := by simp [hy2]
              have hy2c : (y != 255) = true := by simp [hy2]
              go_wp2
              go_ret3
              exact .no (HY.out.symm.trans (txtR_bad HX.out HY1.out hy1 hy2)) rfl hbel
      · have hne : (x != 0) = true := by simp [h0]
        go_wp2_with (at_builtin; go_loud (refine wpList_appb _ rfl (.tmp 18) (.tmp 23) rfl w.heap.size _ _ ys rfl (happ.own.alloc _) _ _ 1 1 [x] rfl rfl (Rd.lit _ _ _) (by omega) (by have := happ.heap; simp; omega) ?_))
        intro A2 c2 w2 h2 hne2
        go_wp2
        go_roundw
        case rel =>
          have e : ys.length + 1 = (ys ++ [x]).length := by simp
          rw [e] at h2
          exact ⟨A2, c2, k + 1, ys ++ [x], by omega, by rw [← e], by go_num, (happ.alloc _).trans h2, by simp; omega, by rw [← HY.out]; exact (txtR_x HX.out h0).symm⟩
        case measure => simp [intOf]; omega
    · go_wp2
      go_ret3
      exact .no (HY.out.symm.trans (txtR_over (by omega))) rfl hbel

set_option maxHeartbeats 1600000 in
theorem refReadOrderedText {A : Option Addr} {c n B : Nat} {zs : List Int} (w : World) (ha : Rb w B A zs) (hB : B ≤ w.heap.size) (hz : Byt zs) (hl : zs.length ≤ 1099511627776) (hn : zs.length = n) :
    Calls Try.prog 32 #[.slice A n c] w (TxtRet w (txtOf zs)) := by
  subst hn
  go_enter Try.func32, Try.ntmps32
  go_wp2
  go_loopw [5, 6] (fun v i wr => ∃ (A' : Option Addr) (c' k : Nat) (ys : List Int), k ≤ zs.length ∧ v = .slice A' ys.length c' ∧ i = .int .i64 k ∧ App w.heap.size 5 1 w (.slice none 0 0) wr (.slice A' ys.length c') ys.length (bv ys) ∧ ys.length ≤ k ∧ txtR zs k ys = txtOf zs) (fun _ i _ => zs.length - (intOf i).toNat)
  case atStart => exact ⟨none, 0, 0, [], by omega, rfl, rfl, App.refl (World.ownsRow_nil _ _ _ _), by simp, rfl⟩
  case round =>
    obtain ⟨A', c', k, ys, hk, rfl, rfl, happ, hyk, hys⟩ := hrel
    have HY := Lib.hid hys
    clear hys
    have hbel := happ.below0
    by_cases hlt : k < zs.length
    · obtain ⟨b, o, x, hx, rfl, hb, hcell⟩ := ha.get hlt
      have hcell1 := (hbel.cell (p := ⟨b, o + k, none⟩) (by show b < _; omega)).trans hcell
      clear hcell
      have hxb := hz.get hx
      have HX := Lib.hid hx
      clear hx
      by_cases h0 : x = 0
      · subst h0
        by_cases hk1 : k + 1 = zs.length
        · have hk1b : (((k : Nat) : Int) + 1 == ((zs.length : Nat) : Int)) = true := by rw [beq_iff_eq]; omega
          have HK := Lib.hid hk1
          clear hk1
          go_wp2
          go_ret3
          exact .no (HY.out.symm.trans (txtR_more HX.out HK.out)) rfl hbel
        · have hk1b : (((k : Nat) : Int) + 1 == ((zs.length : Nat) : Int)) = false := by rw [beq_eq_false_iff_ne]; omega
          obtain ⟨b', o', y, hy, e1, _, hcell⟩ := ha.get (k := k + 1) (by omega)
          injection e1 with e1
          injection e1 with e1 e2
          subst e1 e2
          have hcell2 := (hbel.cell (p := ⟨b, o + (k + 1), none⟩) (by show b < _; omega)).trans hcell
          clear hcell
          have hyb := hz.get hy
          have hk1c : k + 1 < zs.length := by omega
          have HY1 := Lib.hid hy
          clear hy hk1
          have hconv := Rb.str (P := Try.prog) (Rd.of_own happ.own) Try.underlying27 Try.underlying5 Try.underlying9 c'
          by_cases hy1 : y = 1
          · subst hy1
            go_wp2
            go_ret3
            exact .ok (HY.out.symm.trans (txtR_end HX.out HY1.out)) rfl hbel
          · have hy1b : (y == 1) = false := by simp [hy1]
            by_cases hy2 : y = 255
            · subst hy2
              go_wp2_with (at_builtin; go_loud (refine wpList_appb _ rfl (.tmp 43) (.tmp 44) rfl w.heap.size _ _ ys rfl (happ.own.alloc _) _ _ 1 1 [0] rfl rfl (Rd.lit _ _ _) (by omega) (by have := happ.heap; simp; omega) ?_))
              intro A2 c2 w2 h2 hne2
              go_wp2
              go_roundw
              case rel =>
                have e : ys.length + 1 = (ys ++ [0]).length := by simp
                rw [e] at h2
                exact ⟨A2, c2, k + 2, ys ++ [0], by omega, by rw [← e], by go_num, (happ.alloc _).trans h2, by simp; omega, by rw [← HY.out]; exact (txtR_zero HX.out HY1.out).symm⟩
              case measure => simp [intOf]; omega
            · have hy2b : (y == 255) = false := by simp [hy2]
              have hy2c : (y != 255) = true := by simp [hy2]
              go_wp2
              go_ret3
              exact .no (HY.out.symm.trans (txtR_bad HX.out HY1.out hy1 hy2)) rfl hbel
      · have hne : (x != 0) = true := by simp [h0]
        go_wp2_with (at_builtin; go_loud (refine wpList_appb _ rfl (.tmp 18) (.tmp 23) rfl w.heap.size _ _ ys rfl (happ.own.alloc _) _ _ 1 1 [x] rfl rfl (Rd.lit _ _ _) (by omega) (by have := happ.heap; simp; omega) ?_))
        intro A2 c2 w2 h2 hne2
        go_wp2
        go_roundw
        case rel =>
          have e : ys.length + 1 = (ys ++ [x]).length := by simp
          rw [e] at h2
          exact ⟨A2, c2, k + 1, ys ++ [x], by omega, by rw [← e], by go_num, (happ.alloc _).trans h2, by simp; omega, by rw [← HY.out]; exact (txtR_x HX.out h0).symm⟩
        case measure => simp [intOf]; omega
    · go_wp2
      go_ret3
      exact .no (HY.out.symm.trans (txtR_over (by omega))) rfl hbel
end Go.Proofs.Ytlamebbolioljaa

/- A whole struct loaded: kept shut to the walk's simp, and told by an equation. -/
namespace Go.Proofs.Ytlamebbolioljaa
open Go.RowKit

def loadK (t : TypeId) (a : Addr) : Sem Value := loadVar t a
theorem loadK_shut (t : TypeId) (a : Addr) : loadVar t a = loadK t a := rfl
end Go.Proofs.Ytlamebbolioljaa

/- Keys: a key's parts as interface values; pack. -/
namespace Go.Proofs.Ytlamebbolioljaa
open Go.RowKit

/-- A number or a text. -/
abbrev It := Nat ⊕ ByteArray
def ifV : It → Value
  | .inl n => .iface 22 (.int .u64 n)
  | .inr s => .iface 9 (.string s)
def ifs (l : List It) : List Value := l.map ifV
def itEnc : It → List Int
  | .inl n => ordEnc n
  | .inr s => txtEnc (nums s)
def itFine : It → Prop
  | .inl n => n < 18446744073709551616
  | .inr s => s.size ≤ 128
def itsEnc (l : List It) : List Int := l.flatMap itEnc
theorem itsEnc_snoc (l : List It) (x : It) : itsEnc (l ++ [x]) = itsEnc l ++ itEnc x := by simp [itsEnc]
theorem ifs_get {l : List It} {i : Nat} {x : It} (h : l[i]? = some x) : (ifs l)[i]? = some (ifV x) := by simp [ifs, h]
theorem itEnc_len {x : It} (h : itFine x) : (itEnc x).length ≤ 258 := by
  cases x with
  | inl n => simp [itEnc, ordEnc_len]
  | inr s =>
    have h1 := txtTo_len (nums s)
    have h2 := nums_len s
    have h3 : s.size ≤ 128 := h
    simp [itEnc, txtEnc]
    omega
theorem assertU (W : World) (v : Value) : (Instr.typeAssert (.iface 22 v) 20 22 true).run Try.prog W = .ok (.tuple #[v, .bool true]) W := by kernel_rfl
theorem assertUn (W : World) (v : Value) : (Instr.typeAssert (.iface 9 v) 20 22 true).run Try.prog W = .ok (.tuple #[.int .u64 0, .bool false]) W := by kernel_rfl
theorem assertS (W : World) (v : Value) : (Instr.typeAssert (.iface 9 v) 20 9 true).run Try.prog W = .ok (.tuple #[v, .bool true]) W := by kernel_rfl
set_option maxRecDepth 100000 in
set_option maxHeartbeats 2000000 in
theorem scPack {base A c n A1 c1 B k} {xs : List Int} {l : List It} (w : World) (ho : w.ownsRow base 5 1 (.slice A n c) n (bv xs)) (hb : base ≤ w.heap.size) (hr : Rd w B A1 (ifs l)) (hB : B ≤ w.heap.size) (hs : Sep A A1)
    (hf : ∀ x ∈ l, itFine x) (hl : l.length = k) (hk : k ≤ 8) (hn : n ≤ 1099511620000) :
    Calls Try.prog 34 #[.slice A n c, .slice A1 k c1] w (RetApp base 5 1 w (.slice A n c) (xs ++ itsEnc l).length (bv (xs ++ itsEnc l)) (fun _ => True)) := by
  have hlen : n = xs.length := by have := own_length ho; rw [bv_length] at this; exact this.symm
  have HN := Lib.hid hlen
  have HL := Lib.hid hl
  clear hlen hl
  go_enter Try.func34, Try.ntmps34
  go_wp2
  go_loopw [0, 11] (fun v i wr => ∃ (A' : Option Addr) (c' m j : Nat) (ys : List Int), v = .slice A' m c' ∧ i = .int .i64 j ∧ j ≤ k ∧ App base 5 1 w (.slice A n c) wr (.slice A' m c') m (bv ys) ∧ ys = xs ++ itsEnc (l.take j) ∧ m ≤ n + 258 * j) (fun _ i _ => k - (intOf i).toNat)
  case atStart => exact ⟨A, c, n, 0, xs, rfl, rfl, Nat.zero_le _, App.refl ho, by simp [itsEnc], by omega⟩
  case round =>
    obtain ⟨A', c', m, j, ys, rfl, rfl, hj, happ, hys, hm⟩ := hrel
    have HY := Lib.hid hys
    clear hys
    have hrd : Rd wr B A1 (ifs l) := hr.apart hB happ.grown hs
    have hbase : base ≤ wr.heap.size := Nat.le_trans hb happ.heap
    by_cases hlt : j < k
    · have hlt' : (j : Int) < (k : Int) := by omega
      obtain ⟨x, hx⟩ : ∃ x, l[j]? = some x := ⟨_, List.getElem?_eq_getElem (by rw [HL.out]; exact hlt)⟩
      obtain ⟨b, o, rfl, hbb, hc⟩ := hrd.get (ifs_get hx)
      have hfx := hf x (List.mem_of_getElem? hx)
      have hle := itEnc_len hfx
      have HX : Hid (l.take (j + 1) = l.take j ++ [x]) := take_snoc hx
      have HYN : Hid (ys ++ itEnc x = xs ++ itsEnc (l.take (j + 1))) := by
        rw [HX.out, itsEnc_snoc, ← List.append_assoc, ← HY.out]
        exact Lib.hid rfl
      clear hx hf hr
      cases x with
      | inl y =>
        have a1 := assertU wr (.int .u64 y)
        have hy : y < 18446744073709551616 := hfx
        change wr.cell? _ = some (.iface 22 (.int .u64 y)) at hc
        go_wp2_with (go_at_call 56; refine (wireOrdered wr happ.own hbase hy (by omega)).mono ?_; rintro e w' ⟨A2, c2, rfl, h2, -⟩)
        have hap := happ.trans h2
        go_roundw
        case rel => exact ⟨A2, c2, m + 8, j + 1, _, rfl, by go_num, by omega, hap, HYN.out, by omega⟩
        case measure => simp [intOf]; omega
      | inr s =>
        have a1 := assertUn wr (.string s)
        have a2 := assertS wr (.string s)
        have hs128 : s.size ≤ 128 := hfx
        change wr.cell? _ = some (.iface 9 (.string s)) at hc
        have hml : m = ys.length := by have := own_length happ.own; rw [bv_length] at this; exact this.symm
        have HM := Lib.hid hml
        clear hml
        have hlen2 : (ys ++ txtEnc (nums s)).length ≤ m + 258 := by rw [List.length_append, ← HM.out]; exact Nat.add_le_add_left hle m
        have ct := wireOrderedText wr happ.own hbase (show s.size ≤ 1073741824 by omega) (show m ≤ 1099511627776 by omega)
        obtain ⟨zs, hzs⟩ : ∃ zs, ys ++ txtEnc (nums s) = zs := ⟨_, rfl⟩
        rw [hzs] at ct hlen2
        have HYN2 : Hid (zs = xs ++ itsEnc (l.take (j + 1))) := by rw [← HYN.out, ← hzs]; exact Lib.hid rfl
        have CT := Lib.hid ct
        clear ct hzs
        go_wp2_with (go_at_call 57; refine CT.out.mono ?_; rintro e w' ⟨A2, c2, rfl, h2, -⟩)
        have hap := happ.trans h2
        go_roundw
        case rel => exact ⟨A2, c2, _, j + 1, zs, rfl, by go_num, by omega, hap, HYN2.out, by omega⟩
        case measure => simp [intOf]; omega
    · have hlt' : decide ((j : Int) < (k : Int)) = false := by simp; omega
      have hjk : j = k := by omega
      have HYE : Hid (ys = xs ++ itsEnc l) := by
        rw [HY.out, List.take_of_length_le (by rw [HL.out]; omega)]
        exact Lib.hid rfl
      have HM : Hid (m = (xs ++ itsEnc l).length) := by
        have := own_length happ.own
        rw [bv_length, HYE.out] at this
        exact Lib.hid this.symm
      clear hjk
      go_wp2
      go_ret
      exact ⟨A', c', by rw [← HM.out]; rfl, by rw [← HM.out, ← HYE.out]; exact happ, trivial⟩

/-- A key's parts. -/
def allOf (k : Ky) : List It := [.inl k.hi, .inl k.lo, .inl k.id, .inr k.service, .inr k.name, .inr k.value, .inl k.start.toNat, .inl k.number]
def AllPost (w : World) (k : Ky) (e : Ending) (w' : World) : Prop := ∃ g, e = .returned (.slice (some ⟨g, 0, none⟩) 8 8) ∧ (∀ i x, (allOf k)[i]? = some x → w'.cell? ⟨g, i, none⟩ = some (ifV x)) ∧ Below w.heap.size w w' ∧ g < w'.heap.size
set_option maxRecDepth 100000 in
set_option maxHeartbeats 2000000 in
theorem scAll (k : Ky) (w : World) (h0 : 0 ≤ k.start) (h1 : k.start ≤ 4611686018427387903) : Calls Try.prog 35 #[kyV k] w (AllPost w k) := by
  have hst : ((k.start.toNat : Nat) : Int) = k.start := by omega
  have HST := Lib.hid hst
  clear hst
  go_enter Try.func35, Try.ntmps35
  go_wp2
  go_ret
  refine ⟨w.heap.size + 1, rfl, ?_, ((Below.refl _ w).alloc (Nat.le_refl _) _).alloc (by simp) _, by simp⟩
  intro i x hx
  have hb := Bk.new (w.alloc (.cells (kyC k) 26)) 20 #[.iface 22 (.int .u64 k.hi), .iface 22 (.int .u64 k.lo), .iface 22 (.int .u64 k.id), .iface 9 (.string k.service), .iface 9 (.string k.name), .iface 9 (.string k.value), .iface 22 (.int .u64 k.start), .iface 22 (.int .u64 k.number)]
  have hc := hb.cell i
  simp only [World.size_alloc] at hc
  refine hc.trans ?_
  rw [← HST.out]
  have : #[Value.iface 22 (.int .u64 k.hi), .iface 22 (.int .u64 k.lo), .iface 22 (.int .u64 k.id), .iface 9 (.string k.service), .iface 9 (.string k.name), .iface 9 (.string k.value), .iface 22 (.int .u64 (k.start.toNat : Nat)), .iface 22 (.int .u64 k.number)] = (ifs (allOf k)).toArray := rfl
  rw [this]
  simp [ifs, hx]
end Go.Proofs.Ytlamebbolioljaa

/- Keys: First and Pack. -/
namespace Go.Proofs.Ytlamebbolioljaa
open Go.RowKit
theorem loadKy_shut (a : Addr) : loadVar 26 a = loadK 26 a := rfl
attribute [local go_sem ↓] loadKy_shut

def Ky.U64 (k : Ky) : Prop := k.hi < 18446744073709551616 ∧ k.lo < 18446744073709551616 ∧ k.id < 18446744073709551616 ∧ k.number < 18446744073709551616
def partEnc (k : Ky) (p : Int) : List Int := match (allOf k)[p.toNat]? with | some x => itEnc x | none => []
def keyTo (k : Ky) (l : List Int) : List Int := [k.kind % 256] ++ l.flatMap (partEnc k)
theorem keyTo_snoc (k : Ky) (l : List Int) (p : Int) : keyTo k (l ++ [p]) = keyTo k l ++ partEnc k p := by simp [keyTo]
def kyParts (k : Ky) : List Int := (partsOf k.kind).getD []
def firstOf (k : Ky) (n : Int) : List Int × Nat := if kyChk k ≠ 0 then ([], kyChk k) else if n < 0 ∨ ((kyParts k).length : Int) < n then ([], 2) else (keyTo k ((kyParts k).take n.toNat), 0)
def packOf (k : Ky) : List Int × Nat := firstOf k (kyParts k).length
def KeyMade (w : World) (r : List Int × Nat) (e : Ending) (w' : World) : Prop :=
  ∃ A c, e = .returned (.tuple #[.slice A r.1.length c, .int .i64 r.2]) ∧ Rb w' w'.heap.size A r.1 ∧ Below w.heap.size w w' ∧ r.1.length ≤ c ∧ (A = none → r.1 = [] ∧ c = 0) ∧ (∀ a, A = some a → w.heap.size ≤ a.block)
theorem KeyMade.no {w w' : World} {r : List Int × Nat} {e : Ending} {q : Nat} (h : r = ([], q)) (he : e = .returned (.tuple #[.slice none 0 0, .int .i64 q])) (hb : Below w.heap.size w w') : KeyMade w r e w' := by
  subst h
  exact ⟨none, 0, he, Rd.nil, hb, Nat.le_refl _, fun _ => ⟨rfl, rfl⟩, fun a h => by cases h⟩
set_option maxRecDepth 100000 in
theorem loadK_ky {w : World} {g : Nat} {k : Ky} (h : Bk w g 26 (kyC k)) : (loadK 26 ⟨g, 0, none⟩).run Try.prog w = .ok (kyV k) w :=
  run_loadVar_row w g _ _ (kyC k) (0, 0) _ h Try.underlying26 rfl (by rfl)
theorem partsOf_rng (k : Int) : ∀ p ∈ (partsOf k).getD [], 0 ≤ p ∧ p < 8 := by
  unfold partsOf
  cases hf : kinds.find? (fun p => p.1 == k) with
  | none => simp
  | some x =>
    have hm := List.mem_of_find?_eq_some hf
    have : ∀ x ∈ kinds, ∀ p ∈ x.2, 0 ≤ p ∧ p < 8 := by decide
    simpa using this x hm
theorem kyChk_ok {k : Ky} (h : kyChk k = 0) : k.service.size ≤ 128 ∧ k.name.size ≤ 128 ∧ k.value.size ≤ 128 ∧ 0 ≤ k.start ∧ k.start ≤ 4611686018427387903 ∧ (partsOf k.kind).isSome = true := by
  unfold kyChk at h
  by_cases h1 : kyLong k = true
  · rw [if_pos h1] at h; omega
  rw [if_neg h1] at h
  cases hp : partsOf k.kind with
  | none => rw [hp] at h; simp at h
  | some l =>
    rw [hp] at h
    simp only at h
    by_cases h2 : kyFine k l = true
    · simp [kyLong] at h1
      simp [kyFine] at h2
      obtain ⟨⟨a1, a2⟩, a3⟩ := h1
      exact ⟨by omega, by omega, by omega, by have := h2; simp only [and_assoc] at this; exact this.2.2.2.1, by have := h2; simp only [and_assoc] at this; exact this.2.2.2.2.1, rfl⟩
    · rw [if_neg h2] at h; omega
theorem all_fine {k : Ky} (hu : k.U64) (h : kyChk k = 0) : ∀ x ∈ allOf k, itFine x := by
  obtain ⟨a1, a2, a3, a4, a5, _⟩ := kyChk_ok h
  obtain ⟨u1, u2, u3, u4⟩ := hu
  intro x hx
  simp only [allOf, List.mem_cons, List.not_mem_nil, or_false] at hx
  rcases hx with rfl | rfl | rfl | rfl | rfl | rfl | rfl | rfl
  · exact u1
  · exact u2
  · exact u3
  · exact a1
  · exact a2
  · exact a3
  · show k.start.toNat < _
    omega
  · exact u4

/-- Behind the lookup of the parts. -/
structure FirM (w0 W : World) (g : Nat) (k : Ky) (v : Value) : Prop where
  cell : ∃ A, v = .slice A (kyParts k).length (kyParts k).length ∧ Rd W W.heap.size A (iv (kyParts k))
  key : Bk W g 26 (kyC k)
  bel : Below w0.heap.size w0 W
set_option maxRecDepth 100000 in
set_option maxHeartbeats 8000000 in
theorem scFirst (k : Ky) (n : Int) (w : World) (hu : k.U64) (hn0 : -9223372036854775808 ≤ n) (hn1 : n ≤ 9223372036854775807) :
    Calls Try.prog 14 #[kyV k, .int .i64 n] w (KeyMade w (firstOf k n)) := by
  have hb0 : Below w.heap.size w (w.alloc (.cells (kyC k) 26)) := (Below.refl _ w).alloc (Nat.le_refl _) _
  have bk := Bk.new w 26 (kyC k)
  obtain ⟨w1, hw1⟩ : ∃ w1, w.alloc (.cells (kyC k) 26) = w1 := ⟨_, rfl⟩
  rw [hw1] at hb0 bk
  have HW := Lib.hid hw1
  obtain ⟨g, hg⟩ : ∃ g, w.heap.size = g := ⟨_, rfl⟩
  rw [hg] at bk
  have HG := Lib.hid hg
  have HB0 := Lib.hid hb0
  have la := loadK_ky bk
  obtain ⟨q, hq⟩ : ∃ q, kyChk k = q := ⟨_, rfl⟩
  have cc := scCheck k w1
  rw [hq] at cc
  have CC := Lib.hid cc
  obtain ⟨r, hr⟩ : ∃ r, firstOf k n = r := ⟨_, rfl⟩
  rw [hr]
  by_cases hq0 : q = 0
  case neg =>
    have HR : Hid (r = ([], q)) := by rw [← hr, firstOf, if_pos (by omega), hq]; exact Lib.hid rfl
    have d : ((q : Int) != 0) = true := by rw [bne_iff_ne]; omega
    clear hw1 hg hb0 hq cc hr hq0
    go_enter Try.func14, Try.ntmps14
    go_upto_region 1 with fail
    rw [HW.out, HG.out]
    go_wp2_with (go_at_call 16; refine CC.out.mono ?_; rintro e w2 ⟨rfl, hb2⟩)
    go_ret2
    exact .no HR.out rfl (HB0.out.trans (hb2.mono HB0.out.size))
  case pos =>
    subst hq0
    have hch := all_fine hu hq
    have hok := kyChk_ok hq
    have HR : Hid (r = if n < 0 ∨ ((kyParts k).length : Int) < n then ([], 2) else (keyTo k ((kyParts k).take n.toNat), 0)) := by rw [← hr, firstOf, if_neg (by omega)]; exact Lib.hid rfl
    have HCH := Lib.hid hch
    have HOK := Lib.hid hok
    have hle : (kyParts k).length ≤ 7 := partsOf_len k.kind
    clear hw1 hg hb0 hq cc hr hch hok
    go_enter Try.func14, Try.ntmps14
    go_upto_region 1 with fail
    rw [HW.out, HG.out]
    go_upto_region 4 with (go_at_call 16; refine CC.out.mono ?_; rintro e w2 ⟨rfl, hb2⟩)
    have bk2 := bk.bS hb2
    have hbw : Below w.heap.size w w2 := HB0.out.trans (hb2.mono HB0.out.size)
    have kd0 : w2.drew.cell? ⟨g, 0, none⟩ = some (.int .i64 k.kind) := bk2.cell 0
    have HBW := Lib.hid hbw
    clear la bk hb2 hbw
    go_cut [7] from 16 to 19 (fun v W => FirM w W g k v)
    case first =>
      go_region_held3 (fun w' => w'.cell? ⟨g, 0, none⟩ = some (.int .i64 k.kind)) (go_keep)
        (first
          | (go_at_call 28
             refine (scParts _).mono ?_
             rintro e w3 ⟨pg, rfl, hp2, hpg, hb3⟩
             obtain ⟨A, hlk⟩ := parts_look pg k.kind
             have hlkt := (hlk w3 hp2).2 false
             have HLK := Lib.hid hlk
             have kd1 : w3.cell? ⟨g, 0, none⟩ = some (.int .i64 k.kind) := (bk2.drew.bS hb3).cell 0
             clear hlk)
          | fail)
      all_goals
        go_wp2
        go_meet
        exact ⟨⟨A, rfl, (HLK.out w3 hp2).1⟩, bk2.drew.bS hb3, (below_drewN HBW.out 1).trans (hb3.mono HBW.out.size)⟩
    case rest =>
      obtain ⟨⟨A, rfl, hrd⟩, hk, hbel⟩ := hcut
      obtain ⟨m, hm⟩ : ∃ m, (kyParts k).length = m := ⟨_, rfl⟩
      rw [hm] at hle ⊢
      have hr2 := HR.out
      rw [hm] at hr2
      have HM := Lib.hid hm
      have HR2 := Lib.hid hr2
      have kc0 : wc.cell? ⟨g, 0, none⟩ = some (.int .i64 k.kind) := hk.cell 0
      clear hm hr2 HR
      by_cases h1 : n < 0
      · go_wp2
        go_ret2
        exact .no (by rw [HR2.out, if_pos (.inl h1)]) rfl hbel
      by_cases h2 : (m : Int) < n
      · have d1 : decide (n < 0) = false := by simp; omega
        go_wp2
        go_ret2
        exact .no (by rw [HR2.out, if_pos (.inr h2)]) rfl hbel
      obtain ⟨j, rfl⟩ := Int.eq_ofNat_of_zero_le (show 0 ≤ n by omega)
      have d1 : decide ((j : Int) < 0) = false := by simp
      have d2 : decide ((m : Int) < (j : Int)) = false := by simp; omega
      have d3 : j ≤ m := by omega
      have d4 : decide (m < j) = false := by simp; omega
      have d5 : ¬ m < j := by omega
      have HR3 : Hid (r = (keyTo k ((kyParts k).take j), 0)) := by rw [HR2.out, if_neg (by omega)]; exact Lib.hid rfl
      clear h1 h2 hn0 hn1 HR2
      have hbw : w.heap.size ≤ wc.heap.size := hbel.size
      have ho : (wc.alloc (.cells #[.int .u8 (k.kind % 256)] 5)).ownsRow w.heap.size 5 1 (.slice (some ⟨wc.heap.size, 0, none⟩) 1 1) 1 (bv [k.kind % 256]) :=
        World.ownsRow_lit wc #[.int .u8 (k.kind % 256)] 1 hbw (by simp [maxLen]) rfl
      have hbl1 : Below w.heap.size w (wc.alloc (.cells #[.int .u8 (k.kind % 256)] 5)) := hbel.alloc hbw _
      have hk1 := hk.alloc (.cells #[.int .u8 (k.kind % 256)] 5)
      have hrd1 := hrd.alloc (Nat.le_refl _) (.cells #[.int .u8 (k.kind % 256)] 5)
      have hgl : g < wc.heap.size := hk.lt
      obtain ⟨W1, hW1⟩ : ∃ W1, wc.alloc (.cells #[.int .u8 (k.kind % 256)] 5) = W1 := ⟨_, rfl⟩
      have hs1 : W1.heap.size = wc.heap.size + 1 := by rw [← hW1]; simp
      rw [hW1] at ho hbl1 hk1 hrd1
      have HW1 := Lib.hid hW1
      have HS1 := Lib.hid hs1
      have HBEL := Lib.hid hbel
      have HK := Lib.hid hk
      have HRD := Lib.hid hrd
      clear hW1 hs1 hbel hk hrd
      go_wp2
      rw [HW1.out]
      obtain ⟨wh, hwh⟩ : ∃ wh, wc.heap.size = wh := ⟨_, rfl⟩
      rw [hwh] at ho hrd1 hgl hbw ⊢
      have HS2 : Hid (W1.heap.size = wh + 1) := by rw [HS1.out, hwh]; exact Lib.hid rfl
      clear hwh HS1 HW1 HBEL HK HRD kc0
      go_loopw [8, 36] (fun v i wr => ∃ (A' : Option Addr) (c' mm x : Nat) (ys : List Int), v = .slice A' mm c' ∧ i = .int .i64 x ∧ x ≤ j ∧ App w.heap.size 5 1 W1 (.slice (some ⟨wh, 0, none⟩) 1 1) wr (.slice A' mm c') mm (bv ys) ∧ ys = keyTo k ((kyParts k).take x) ∧ mm ≤ 1 + 258 * x ∧ Bk wr g 26 (kyC k) ∧ Rd wr wh A (iv (kyParts k)) ∧ Below w.heap.size w wr) (fun _ i _ => j - (intOf i).toNat)
      case atStart => exact ⟨_, 1, 1, 0, _, rfl, rfl, Nat.zero_le _, App.refl ho, by simp [keyTo], by omega, hk1, hrd1, hbl1⟩
      case round =>
        obtain ⟨A', c', mm, x, ys, rfl, rfl, hx, happ, hys, hmm, hkr, hrr, hbr⟩ := hrel
        have HY := Lib.hid hys
        clear hys hk1 hrd1 hbl1 ho
        have hrow : ∀ b, (Value.slice A' mm c').ownBlock = some b → wh ≤ b := fun b hb => by
          rcases happ.block with h | ⟨b', h, h2⟩
          · rw [hb] at h; simp [Value.ownBlock] at h; omega
          · rw [hb] at h; cases h; rw [HS2.out] at h2; omega
        by_cases hlt : x < j
        · have hlt' : (x : Int) < (j : Int) := by omega
          obtain ⟨p, hp⟩ : ∃ p, (kyParts k)[x]? = some p := ⟨_, List.getElem?_eq_getElem (by rw [HM.out]; omega)⟩
          obtain ⟨b, o, rfl, hbb, hc⟩ := hrr.get (iv_get hp)
          have hpr := partsOf_rng k.kind p (List.mem_of_getElem? hp)
          obtain ⟨pn, rfl⟩ := Int.eq_ofNat_of_zero_le hpr.1
          have hp8 : pn < 8 := by omega
          obtain ⟨it, hit⟩ : ∃ it, (allOf k)[pn]? = some it := ⟨_, List.getElem?_eq_getElem (by simpa [allOf] using hp8)⟩
          have hfit := HCH.out it (List.mem_of_getElem? hit)
          have hlen := itEnc_len hfit
          have HN : Hid (ys ++ itsEnc [it] = keyTo k ((kyParts k).take (x + 1))) := by
            rw [take_snoc hp, keyTo_snoc, ← HY.out]
            have : partEnc k (pn : Int) = itsEnc [it] := by simp [partEnc, hit, itsEnc]
            rw [this]
            exact Lib.hid rfl
          obtain ⟨tt, vv, hv⟩ : ∃ t v, ifV it = .iface t v := by cases it <;> exact ⟨_, _, rfl⟩
          have HV := Lib.hid hv
          have HIT := Lib.hid hit
          have HFI := Lib.hid hfit
          have la := loadK_ky hkr
          have ca := scAll k wr HOK.out.2.2.2.1 HOK.out.2.2.2.2.1
          have CA := Lib.hid ca
          have HKR := Lib.hid hkr
          have HRR := Lib.hid hrr
          clear hp hit hpr hfit ca hkr hrr hv
          go_wp2_with (go_at_call 35; refine CA.out.mono ?_; rintro e w3 ⟨g2, rfl, hcs, hb3, hg3⟩; have hc3 := hcs pn it HIT.out; rw [HV.out] at hc3; clear hcs)
          have hap3 := (happ.later hb3).alloc (.cells #[.iface tt vv] 20)
          have hsep : Sep A' (some ⟨w3.heap.size, 0, none⟩) := fun a b ha hb e => by
            subst ha
            cases hb
            have h1 := (happ.later hb3).own.lt a.block rfl
            have h2 : a.block = w3.heap.size := e
            omega
          have hl1 : (ys ++ itsEnc [it]).length ≤ mm + 258 := by
            have h1 := own_length happ.own
            rw [bv_length] at h1
            rw [List.length_append, h1]
            simp [itsEnc]
            exact hlen
          have cp := scPack (l := [it]) (k := 1) (w3.alloc (.cells #[.iface tt vv] 20)) hap3.own (by have h1 := hbr.size; have h2 := hb3.size; simp; omega) (by show Rd _ _ _ [ifV it]; rw [HV.out]; exact Rd.lit w3 #[.iface tt vv] _) (by simp) hsep (by intro y hy; simp at hy; subst hy; exact HFI.out) rfl (by omega) (by omega) (c1 := 1)
          obtain ⟨zs, hzs⟩ : ∃ zs, ys ++ itsEnc [it] = zs := ⟨_, rfl⟩
          rw [hzs] at cp hl1
          have HN2 : Hid (zs = keyTo k ((kyParts k).take (x + 1))) := by rw [← HN.out, ← hzs]; exact Lib.hid rfl
          have CP := Lib.hid cp
          clear cp hzs
          go_wp2_with (go_at_call 34; refine CP.out.mono ?_; rintro e w4 ⟨A4, c4, rfl, h4, -⟩)
          have hg4 : g < wh := hgl
          go_roundw
          case rel => exact ⟨A4, c4, _, x + 1, zs, rfl, by go_num, by omega, hap3.trans h4, HN2.out, by omega, ((HKR.out.bS hb3).alloc _).grown h4.grown (fun e => by have := hrow g e.symm; omega),
            (((HRR.out.below (hb3.mono (by have := happ.heap; rw [HS2.out] at this; omega))).more (Nat.le_refl _)).alloc (by have := happ.heap; rw [HS2.out] at this; have := hb3.size; omega) _).grown h4.grown (by have := happ.heap; rw [HS2.out] at this; have := hb3.size; simp; omega) hrow,
            ((hbr.trans (hb3.mono hbr.size)).alloc (Nat.le_trans hbr.size hb3.size) _).trans (grown_below h4.grown (by have h1 := hbr.size; have h2 := hb3.size; simp; omega) (fun b hb => by have := hrow b hb; omega))⟩
          case measure => simp [intOf]; omega
        · have hlt' : decide ((x : Int) < (j : Int)) = false := by simp; omega
          have HE : Hid (ys = keyTo k ((kyParts k).take j)) := by rw [HY.out, show x = j from by omega]; exact Lib.hid rfl
          have hml : ys.length = mm := by have := own_length happ.own; rwa [bv_length] at this
          have HML := Lib.hid hml
          clear hml
          go_wp2
          go_ret2
          have hle2 := happ.cap
          refine ⟨A', c', by rw [HR3.out, ← HE.out, HML.out]; rfl, by rw [HR3.out, ← HE.out]; exact happ.rd, hbr, by rw [HR3.out, ← HE.out, HML.out]; exact hle2, fun e => ?_, fun a e => ?_⟩
          · have h1 : (keyTo k ((kyParts k).take j)).length ≠ 0 := by simp [keyTo]
            rw [← HE.out, HML.out] at h1
            subst e
            rcases happ.own.2 with ⟨h2, h3⟩ | ⟨_, _, _, h2, _⟩
            · exact absurd h3 h1
            · injection h2 with h2; cases h2
          · subst e
            exact (happ.own.lt a.block rfl).1
set_option maxRecDepth 100000 in
set_option maxHeartbeats 4000000 in
theorem scPackK (k : Ky) (w : World) (hu : k.U64) : Calls Try.prog 10 #[kyV k] w (KeyMade w (packOf k)) := by
  have hb0 : Below w.heap.size w (w.alloc (.cells (kyC k) 26)) := (Below.refl _ w).alloc (Nat.le_refl _) _
  have bk := Bk.new w 26 (kyC k)
  obtain ⟨w1, hw1⟩ : ∃ w1, w.alloc (.cells (kyC k) 26) = w1 := ⟨_, rfl⟩
  rw [hw1] at hb0 bk
  have HW := Lib.hid hw1
  obtain ⟨g, hg⟩ : ∃ g, w.heap.size = g := ⟨_, rfl⟩
  rw [hg] at bk
  have HG := Lib.hid hg
  have HB0 := Lib.hid hb0
  obtain ⟨r, hr⟩ : ∃ r, packOf k = r := ⟨_, rfl⟩
  rw [hr]
  have hle : (kyParts k).length ≤ 7 := partsOf_len k.kind
  have cf : ∀ W, Calls Try.prog 14 #[kyV k, .int .i64 (kyParts k).length] W (KeyMade W r) := fun W => by
    rw [← hr]
    exact scFirst k _ W hu (by omega) (by omega)
  have CF := Lib.hid cf
  have la := loadK_ky bk.drew
  have kd0 : w1.drew.cell? ⟨g, 0, none⟩ = some (.int .i64 k.kind) := bk.drew.cell 0
  have hbd := below_drewN hb0 1
  have HBD : Hid (Below w.heap.size w w1.drew) := hbd
  clear hw1 hg hb0 hr cf hbd
  go_enter Try.func10, Try.ntmps10
  go_upto_region 1 with fail
  rw [HW.out, HG.out]
  go_region_held3 (fun w' => (loadK 26 ⟨g, 0, none⟩).run Try.prog w' = .ok (kyV k) w' ∧ w'.cell? ⟨g, 0, none⟩ = some (.int .i64 k.kind)) (go_keep)
    (first
      | (go_at_call 28
         refine (scParts _).mono ?_
         rintro e w3 ⟨pg, rfl, hp2, hpg, hb3⟩
         obtain ⟨A, hlk⟩ := parts_look pg k.kind
         have hlkt : (Instr.lookup 65 (.map (some pg)) (.int .i64 k.kind) false).run Try.prog w3 = .ok (.slice A (kyParts k).length (kyParts k).length) w3 := (hlk w3 hp2).2 false
         have bk3 := bk.drew.bS hb3
         have la3 := loadK_ky bk3
         have kd1 : w3.cell? ⟨g, 0, none⟩ = some (.int .i64 k.kind) := bk3.cell 0
         clear hlk)
      | (go_at_call 14
         refine (CF.out _).mono ?_
         rintro e w4 ⟨A4, c4, rfl, hR4⟩
         have HR4 := Lib.hid hR4
         clear hR4
         have bk4 := bk3.bS HR4.out.2.1
         have la4 := loadK_ky bk4
         have kd4 : w4.cell? ⟨g, 0, none⟩ = some (.int .i64 k.kind) := bk4.cell 0)
      | fail)
  all_goals
    go_wp2
    go_ret2
    obtain ⟨h1, h2, h3, h4, h5⟩ := HR4.out
    have hbb : Below w.heap.size w w3 := HBD.out.trans (hb3.mono HBD.out.size)
    exact ⟨A4, c4, rfl, h1, hbb.trans (h2.mono hbb.size), h3, h4, fun a e => Nat.le_trans hbb.size (h5 a e)⟩
end Go.Proofs.Ytlamebbolioljaa

/- Keys: the document's parts. -/
namespace Go.Proofs.Ytlamebbolioljaa
open Go.RowKit

theorem scintinfo : (Try.prog.info? 3).map (fun i => (i.zero, i.size, i.bytes)) = some (some (.int .i64 0), 1, 8) := by kernel_rfl
theorem iv_append (a b : List Int) : iv (a ++ b) = iv a ++ iv b := by simp [iv]
theorem iv_one (zs : List Int) : ∀ u ∈ iv zs, u.oneCell' = true := by
  intro u hu
  obtain ⟨x, _, rfl⟩ := List.mem_map.1 hu
  rfl
/-- append of ints onto a row of the call's own. -/
theorem wpList_appI (w : World) {ops : Array Oper} {rest : List Oper} {o : Oper} {a : Act} {Q : Exit → Act → World → Prop} (hgd : o.guard = none) (s x : Operand)
    (ho : o.op = .call { callee := .builtin .append, args := #[s, x], argTypes := #[64, 64] })
    (base : Nat) (v : Value) (n : Nat) (xs : List Int) (hs : a.eval s = v) (hown : w.ownsRow base 3 1 v n (iv xs))
    (B : Nat) (A : Option Addr) (m c : Nat) (news : List Int) (hx : a.eval x = .slice A m c) (hl : news.length = m) (hr : Rd w B A (iv news))
    (hbytes : (n + m) * 8 ≤ 140737488355328) (hbase : base ≤ w.heap.size)
    (h : ∀ A' c' w', App base 3 1 w v w' (.slice A' (n + m) c') (n + m) (iv (xs ++ news)) → wpList Try.prog ops Q rest (a.put o.dst (.slice A' (n + m) c')) w') : wpList Try.prog ops Q (o :: rest) a w := by
  obtain ⟨i0, hi0, hz0, hz1, hz2⟩ := info_parts scintinfo
  refine wpList_app w hgd s x _ ho base 3 i0 _ 1 8 Try.underlying64 hi0 hz0 hz1 hz2 rfl (by omega) v n (iv xs) hs hown B A m c (iv news) hx (by rw [iv_length]; omega) hr (iv_one news) (by simp only [maxLen]; omega) hbytes hbase ?_
  intro A' c' w' h1 h2 h3 h4
  rw [← iv_append] at h1
  exact h A' c' w' ((App.refl hown).step h1 h2 h3)
/-- The document's numbers of the parts. -/
def ren (p : Int) : Int := if p = 6 then 7 else if p = 7 then 6 else p
def rl (k : Int) : List Int := ((partsOf k).getD []).map ren
def RPartsPost (w : World) (k : Int) (e : Ending) (w' : World) : Prop :=
  ∃ A c, e = .returned (.tuple #[.slice A (rl k).length c, .bool (partsOf k).isSome]) ∧ Rd w' w'.heap.size A (iv (rl k)) ∧ Below w.heap.size w w'
theorem RPartsPost.mk {w w' : World} {k : Int} {e : Ending} {A : Option Addr} {c n : Nat} {b : Bool} {l : List Int} (h1 : rl k = l) (h2 : (partsOf k).isSome = b) (hn : l.length = n) (he : e = .returned (.tuple #[.slice A n c, .bool b])) (hr : Rd w' w'.heap.size A (iv l)) (hb : Below w.heap.size w w') : RPartsPost w k e w' := by
  subst h1 h2 hn
  exact ⟨A, c, he, hr, hb⟩
theorem lit2 (w : World) (xs : List Int) (c : Array Value) (hc : c = (iv xs).toArray) (o : Obj) : Rd ((w.alloc (.cells c 3)).alloc o) (w.heap.size + 1) (some ⟨w.heap.size, 0, none⟩) (iv xs) := by
  subst hc
  have h := Rd.lit w (iv xs).toArray 3
  have h2 := h.alloc (by simp) o
  simpa using h2
theorem own2 (w : World) (c1 : Array Value) (zs : List Int) (c : Array Value) (hc : c = (iv zs).toArray) (n : Nat) (hn : zs.length = n) (hm : n ≤ 100) : ((w.alloc (.cells c1 3)).alloc (.cells c 3)).ownsRow w.heap.size 3 1 (.slice (some ⟨w.heap.size + 1, 0, none⟩) n n) n (iv zs) := by
  subst hc hn
  have h := World.ownsRow_lit (base := w.heap.size) (e := 3) (size := 1) (w.alloc (.cells c1 3)) (iv zs).toArray zs.length (by simp) (by simp only [maxLen]; omega) (by simp [iv])
  simpa using h
theorem Rd.allocS' (w : World) (xs : List Int) (c : Array Value) (hc : c = (iv xs).toArray) : Rd (w.alloc (.cells c 3)) (w.alloc (.cells c 3)).heap.size (some ⟨w.heap.size, 0, none⟩) (iv xs) := by
  subst hc
  have h := Rd.lit w (iv xs).toArray 3
  simpa using h
set_option maxRecDepth 100000 in
set_option maxHeartbeats 4000000 in
theorem refParts (k : Int) (w : World) : Calls Try.prog 29 #[.int .i64 k] w (RPartsPost w k) := by
  have HB0 : Hid (∀ c1 c2 : Array Value, Below w.heap.size w ((w.alloc (.cells c1 3)).alloc (.cells c2 3))) := fun c1 c2 => ((Below.refl _ w).alloc (Nat.le_refl _) _).alloc (by simp) _
  by_cases h1 : k = 115
  · subst h1
    go_enter Try.func29, Try.ntmps29
    go_wp2
    go_ret2
    exact .mk (l := [0, 1, 2]) (by decide) (by decide) rfl rfl (by have h := Rd.allocS' (w.alloc (.cells (iv [7, 0, 1, 2]).toArray 3)) [0, 1, 2] _ rfl; simpa [iv] using h) (HB0.out _ _)
  by_cases h2 : k = 116
  · subst h2
    go_enter Try.func29, Try.ntmps29
    go_wp2
    go_ret2
    exact .mk (l := [0, 1]) (by decide) (by decide) rfl rfl (by have h := Rd.allocS' (w.alloc (.cells (iv [7, 0, 1, 2]).toArray 3)) [0, 1] _ rfl; simpa [iv] using h) (HB0.out _ _)
  by_cases h7 : k = 110
  · subst h7
    go_enter Try.func29, Try.ntmps29
    go_wp2
    go_ret2
    exact .mk (l := [3, 4]) (by decide) (by decide) rfl rfl (by have h := Rd.allocS' (w.alloc (.cells (iv [7, 0, 1, 2]).toArray 3)) [3, 4] _ rfl; simpa [iv] using h) (HB0.out _ _)
  by_cases h8 : k = 101
  · subst h8
    go_enter Try.func29, Try.ntmps29
    go_wp2
    go_ret2
    exact .mk (l := [6, 3, 4]) (by decide) (by decide) rfl rfl (by have h := Rd.allocS' (w.alloc (.cells (iv [7, 0, 1, 2]).toArray 3)) [6, 3, 4] _ rfl; simpa [iv] using h) (HB0.out _ _)
  by_cases h3 : k = 105
  · subst h3
    go_enter Try.func29, Try.ntmps29
    go_wp2_with (at_builtin; go_loud (refine wpList_appI _ rfl (.tmp 15) (.tmp 16) rfl w.heap.size (.slice (some ⟨w.heap.size + 1, 0, none⟩) 1 1) 1 [3] rfl (own2 w _ [3] _ rfl 1 rfl (by omega)) (w.heap.size + 1) _ 4 4 [7, 0, 1, 2] rfl rfl (lit2 w _ _ rfl _) (by omega) (by simp; omega) ?_))
    intro A' c' w' happ
    go_wp2
    go_ret2
    exact .mk (l := [3, 7, 0, 1, 2]) (by decide) (by decide) rfl rfl happ.rd ((HB0.out _ _).trans (happ.below (by simp; omega) (fun k hk => by simp [Value.ownBlock] at hk; omega)))
  by_cases h4 : k = 111
  · subst h4
    go_enter Try.func29, Try.ntmps29
    go_wp2_with (at_builtin; go_loud (refine wpList_appI _ rfl (.tmp 20) (.tmp 21) rfl w.heap.size (.slice (some ⟨w.heap.size + 1, 0, none⟩) 2 2) 2 [3, 4] rfl (own2 w _ [3, 4] _ rfl 2 rfl (by omega)) (w.heap.size + 1) _ 4 4 [7, 0, 1, 2] rfl rfl (lit2 w _ _ rfl _) (by omega) (by simp; omega) ?_))
    intro A' c' w' happ
    go_wp2
    go_ret2
    exact .mk (l := [3, 4, 7, 0, 1, 2]) (by decide) (by decide) rfl rfl happ.rd ((HB0.out _ _).trans (happ.below (by simp; omega) (fun k hk => by simp [Value.ownBlock] at hk; omega)))
  by_cases h5 : k = 103
  · subst h5
    go_enter Try.func29, Try.ntmps29
    go_wp2_with (at_builtin; go_loud (refine wpList_appI _ rfl (.tmp 25) (.tmp 26) rfl w.heap.size (.slice (some ⟨w.heap.size + 1, 0, none⟩) 3 3) 3 [3, 4, 5] rfl (own2 w _ [3, 4, 5] _ rfl 3 rfl (by omega)) (w.heap.size + 1) _ 4 4 [7, 0, 1, 2] rfl rfl (lit2 w _ _ rfl _) (by omega) (by simp; omega) ?_))
    intro A' c' w' happ
    go_wp2
    go_ret2
    exact .mk (l := [3, 4, 5, 7, 0, 1, 2]) (by decide) (by decide) rfl rfl happ.rd ((HB0.out _ _).trans (happ.below (by simp; omega) (fun k hk => by simp [Value.ownBlock] at hk; omega)))
  by_cases h6 : k = 100
  · subst h6
    go_enter Try.func29, Try.ntmps29
    go_wp2_with (at_builtin; go_loud (refine wpList_appI _ rfl (.tmp 30) (.tmp 31) rfl w.heap.size (.slice (some ⟨w.heap.size + 1, 0, none⟩) 2 2) 2 [3, 6] rfl (own2 w _ [3, 6] _ rfl 2 rfl (by omega)) (w.heap.size + 1) _ 4 4 [7, 0, 1, 2] rfl rfl (lit2 w _ _ rfl _) (by omega) (by simp; omega) ?_))
    intro A' c' w' happ
    go_wp2
    go_ret2
    exact .mk (l := [3, 6, 7, 0, 1, 2]) (by decide) (by decide) rfl rfl happ.rd ((HB0.out _ _).trans (happ.below (by simp; omega) (fun k hk => by simp [Value.ownBlock] at hk; omega)))
  have e : ∀ m : Int, k ≠ m → (m == k) = false := fun m hm => by rw [beq_eq_false_iff_ne]; exact fun e => hm e.symm
  have hp : partsOf k = none := by simp [partsOf, kinds, e _ h1, e _ h2, e _ h3, e _ h4, e _ h5, e _ h6, e _ h7, e _ h8]
  have hr : rl k = [] := by rw [rl, hp]; rfl
  have HP := Lib.hid hp
  have HR := Lib.hid hr
  have e' : ∀ m : Int, k ≠ m → (k == m) = false := fun m hm => by rw [beq_eq_false_iff_ne]; exact hm
  have d1 := e' _ h1
  have d2 := e' _ h2
  have d3 := e' _ h3
  have d4 := e' _ h4
  have d5 := e' _ h5
  have d6 := e' _ h6
  have d7 := e' _ h7
  have d8 := e' _ h8
  clear e e' hp hr h1 h2 h3 h4 h5 h6 h7 h8
  go_enter Try.func29, Try.ntmps29
  go_wp2
  go_ret2
  exact .mk HR.out (by rw [HP.out]; rfl) rfl rfl Rd.nil ((Below.refl _ w).alloc (Nat.le_refl _) _)
end Go.Proofs.Ytlamebbolioljaa
