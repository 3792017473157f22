/- Texts of the proof of VfsNilSaid, joined: VfsNil VfsNilP. -/
import Derived.Test.YtdjmmdhjjdnbdaaJVfsNil12
import Derived.Test.YtdjmmdhjjdnbdaaJVfsNil2
/- The statement VfsNil: a file system that is not there, or that nobody made, refuses every call. The walk. -/
namespace Go.Proofs.Ytdjmmdhjjdnbdaa
open Go.RowKit

/-- A zero file system's cells. -/
def fsZ : Array Value := #[.bool false, .int .i64 0, .map none, .map none, .slice none 0 0, .bool false, .int .i64 0, .int .i64 0, .int .i64 0, .int .i64 0]
set_option maxRecDepth 100000 in
set_option maxHeartbeats 4000000 in
theorem vfsNil_walk (z : VAc) (w : World) (_hz : AcOk w w.heap.size z) : Calls Try.prog 7 #[acV z] w fun e w' => e = .returned (.bool true) ∧ Below w.heap.size w w' := by
  have b1 := Bk.new w 53 (acC z).toArray
  have hw1 := (Below.refl w.heap.size w).alloc (Nat.le_refl _) (.cells (acC z).toArray 53)
  obtain ⟨w1, e1⟩ : ∃ w1, w.alloc (.cells (acC z).toArray 53) = w1 := ⟨_, rfl⟩
  rw [e1] at b1 hw1
  have s1 : w1.heap.size = w.heap.size + 1 := by rw [← e1]; simp
  have b2 := Bk.new w1 59 fsZ
  have b12 := b1.alloc (.cells fsZ 59)
  have hw2 := hw1.alloc (by omega) (.cells fsZ 59)
  obtain ⟨w2, e2⟩ : ∃ w2, w1.alloc (.cells fsZ 59) = w2 := ⟨_, rfl⟩
  rw [e2] at b2 b12 hw2
  have s2 : w2.heap.size = w1.heap.size + 1 := by rw [← e2]; simp
  have b3 := Bk.new w2 25 #[.pointer none, ptV w1.heap.size]
  have b13 := b12.alloc (.cells #[.pointer none, ptV w1.heap.size] 25)
  have b23 := b2.alloc (.cells #[.pointer none, ptV w1.heap.size] 25)
  have hw3 := hw2.alloc (by omega) (.cells #[.pointer none, ptV w1.heap.size] 25)
  obtain ⟨w3, e3⟩ : ∃ w3, w2.alloc (.cells #[.pointer none, ptV w1.heap.size] 25) = w3 := ⟨_, rfl⟩
  rw [e3] at b3 b13 b23 hw3
  have s3 : w3.heap.size = w2.heap.size + 1 := by rw [← e3]; simp
  obtain ⟨g1, hg1⟩ : ∃ g1, w.heap.size = g1 := ⟨_, rfl⟩
  have hz2 : w1.heap.size = g1 + 1 := by omega
  have hz3 : w2.heap.size = g1 + 1 + 1 := by omega
  rw [hg1] at b1 b12 b13 hw1 hw2 hw3
  rw [hz2] at b2 b23 b3 e3
  rw [hz3] at b3
  have cell : ∀ x : World, Below w3.heap.size w3 x → x.cell? ⟨g1, 1, none⟩ = some (.string z.x.a) ∧ x.cell? ⟨g1, 2, none⟩ = some (.string z.x.c) ∧ x.cell? ⟨g1, 3, none⟩ = some (.slice z.Ab z.x.b.length z.cb) ∧ x.cell? ⟨g1, 4, none⟩ = some (.int .i64 z.x.n) ∧ x.cell? ⟨g1, 5, none⟩ = some (.int .i64 z.x.m) ∧ x.cell? ⟨g1, 6, none⟩ = some (.int .i64 z.x.e) ∧ x.cell? ⟨g1, 7, none⟩ = some (.slice z.Ak z.x.keep.length z.ck) := fun x hb => by
    have h1 := b13.below hb b13.lt
    refine ⟨?_, ?_, ?_, ?_, ?_, ?_, ?_⟩ <;> (rw [h1.cell]; rfl)
  have nob : ∀ (x : World) (j : Nat), Below w3.heap.size w3 x → j < 2 → ∃ p, x.cell? ⟨g1 + 1 + 1, j, none⟩ = some (.pointer p) ∧ ∀ y, Below w3.heap.size w3 y → Nob y p := fun x j hb hj => by
    have h3 := b3.below hb b3.lt
    match j, hj with
    | 0, _ => exact ⟨none, by rw [h3.cell]; rfl, fun y _ => .inl rfl⟩
    | 1, _ =>
      refine ⟨some ⟨g1 + 1, 0, none⟩, by rw [h3.cell]; rfl, fun y hy => ?_⟩
      have h2 := b23.below hy b23.lt
      exact .inr ⟨g1 + 1, rfl, h2.lt, by rw [h2.cell]; rfl⟩
  have hlv := vfLives
  have CELL := Lib.hid cell
  have NOB := Lib.hid nob
  have E1 := Lib.hid e1
  have E2 := Lib.hid e2
  have E3 := Lib.hid e3
  have HW3 := Lib.hid hw3
  have HLV := Lib.hid hlv
  have HG := Lib.hid hg1
  have HZ2 := Lib.hid hz2
  have HZ3 := Lib.hid hz3
  have SZ := Lib.hid (And.intro s1 (And.intro s2 s3))
  clear b1 b12 b13 b2 b23 b3 e1 e2 e3 hw1 hw2 hw3 cell nob hlv hg1 s1 s2 s3 hz2 hz3
  unfold acV
  go_enter Try.func7, Try.ntmps7
  go_wp2_with fail
  rw [HG.out, E1.out, show w1.alloc (.cells #[.bool false, .int .i64 0, .map none, .map none, .slice none 0 0, .bool false, .int .i64 0, .int .i64 0, .int .i64 0, .int .i64 0] 59) = w2 from E2.out, E3.out]
  go_loopw [4] (fun i_ wr => ∃ j : Nat, j ≤ 2 ∧ i_ = .int .i64 j ∧ Hid (Below w3.heap.size w3 wr)) (fun i_ _ => 2 - (intOf i_).toNat)
  case atStart => exact ⟨0, by omega, rfl, Lib.hid (Below.refl _ _)⟩
  case round =>
    obtain ⟨j, hj, rfl, HB⟩ := hrel
    by_cases hlt : j < 2
    · have hlt' : decide ((j : Int) < 2) = true := by simp; omega
      obtain ⟨p, hp, hnob⟩ := NOB.out wr j HB.out hlt
      have HN := Lib.hid hnob
      have hb0 := HB.out
      obtain ⟨a1, a2, a3, a4, a5, a6, a7⟩ := CELL.out wr hb0
      have HB0 := Lib.hid hb0
      clear hnob hb0
      go_wp2_with fail
      refine (nobRead (HN.out _ HB0.out) z.x.a z.x.n z.x.m).mono ?_
      rintro e x1 ⟨rfl, hf⟩
      have HB1 := Lib.hid (HB0.out.trans ((hf.below (Nat.le_refl _) fun _ e => e.elim).mono HB0.out.size))
      clear hf a1 a2 a3 a4 a5 a6 a7
      obtain ⟨a1, a2, a3, a4, a5, a6, a7⟩ := CELL.out x1 HB1.out
      clear hp
      go_wp2_with fail
      refine (nobCreate (HN.out _ HB1.out) z.x.a).mono ?_
      rintro e x2 ⟨rfl, hf⟩
      have HB2 := Lib.hid (HB1.out.trans ((hf.below (Nat.le_refl _) fun _ e => e.elim).mono HB1.out.size))
      clear hf a1 a2 a3 a4 a5 a6 a7
      obtain ⟨a1, a2, a3, a4, a5, a6, a7⟩ := CELL.out x2 HB2.out
      go_wp2_with fail
      refine (nobAppend (HN.out _ HB2.out) z.x.a z.Ab z.x.b.length z.cb).mono ?_
      rintro e x3 ⟨rfl, hf⟩
      have HB3 := Lib.hid (HB2.out.trans ((hf.below (Nat.le_refl _) fun _ e => e.elim).mono HB2.out.size))
      clear hf a1 a2 a3 a4 a5 a6 a7
      obtain ⟨a1, a2, a3, a4, a5, a6, a7⟩ := CELL.out x3 HB3.out
      go_wp2_with fail
      refine (nobSync (HN.out _ HB3.out) z.x.a).mono ?_
      rintro e x4 ⟨rfl, hf⟩
      have HB4 := Lib.hid (HB3.out.trans ((hf.below (Nat.le_refl _) fun _ e => e.elim).mono HB3.out.size))
      clear hf a1 a2 a3 a4 a5 a6 a7
      obtain ⟨a1, a2, a3, a4, a5, a6, a7⟩ := CELL.out x4 HB4.out
      go_wp2_with fail
      refine (nobSyncDir (HN.out _ HB4.out) ).mono ?_
      rintro e x5 ⟨rfl, hf⟩
      have HB5 := Lib.hid (HB4.out.trans ((hf.below (Nat.le_refl _) fun _ e => e.elim).mono HB4.out.size))
      clear hf a1 a2 a3 a4 a5 a6 a7
      obtain ⟨a1, a2, a3, a4, a5, a6, a7⟩ := CELL.out x5 HB5.out
      go_wp2_with fail
      refine (nobRename (HN.out _ HB5.out) z.x.a z.x.c).mono ?_
      rintro e x6 ⟨rfl, hf⟩
      have HB6 := Lib.hid (HB5.out.trans ((hf.below (Nat.le_refl _) fun _ e => e.elim).mono HB5.out.size))
      clear hf a1 a2 a3 a4 a5 a6 a7
      obtain ⟨a1, a2, a3, a4, a5, a6, a7⟩ := CELL.out x6 HB6.out
      go_wp2_with fail
      refine (nobRemove (HN.out _ HB6.out) z.x.a).mono ?_
      rintro e x7 ⟨rfl, hf⟩
      have HB7 := Lib.hid (HB6.out.trans ((hf.below (Nat.le_refl _) fun _ e => e.elim).mono HB6.out.size))
      clear hf a1 a2 a3 a4 a5 a6 a7
      obtain ⟨a1, a2, a3, a4, a5, a6, a7⟩ := CELL.out x7 HB7.out
      go_wp2_with fail
      refine (nobFuse (HN.out _ HB7.out) z.x.n).mono ?_
      rintro e x8 ⟨rfl, hw⟩
      subst hw
      have HB8 := HB7
      go_wp2_with fail
      refine (nobFault (HN.out _ HB8.out) z.x.n z.x.e).mono ?_
      rintro e x9 ⟨rfl, hw⟩
      subst hw
      have HB9 := HB8
      go_wp2_with fail
      refine (nobCrash (HN.out _ HB9.out) z.x.n z.Ak z.x.keep.length z.ck).mono ?_
      rintro e x10 ⟨rfl, hf⟩
      have HB10 := Lib.hid (HB9.out.trans ((hf.below (Nat.le_refl _) fun _ e => e.elim).mono HB9.out.size))
      clear hf a1 a2 a3 a4 a5 a6 a7
      obtain ⟨a1, a2, a3, a4, a5, a6, a7⟩ := CELL.out x10 HB10.out
      go_wp2_with fail
      refine (nobTurn (HN.out _ HB10.out) z.x.a z.x.n 1).mono ?_
      rintro e x11 ⟨rfl, hw⟩
      subst hw
      have HB11 := HB10
      go_wp2_with fail
      refine (nobSize (HN.out _ HB11.out) z.x.a).mono ?_
      rintro e x12 ⟨rfl, hw⟩
      subst hw
      have HB12 := HB11
      go_wp2_with fail
      refine (nobNames (HN.out _ HB12.out) ).mono ?_
      rintro e x13 ⟨rfl, hw⟩
      subst hw
      have HB13 := HB12
      go_wp2_with fail
      refine (nobUsed (HN.out _ HB13.out) ).mono ?_
      rintro e x14 ⟨rfl, hw⟩
      subst hw
      have HB14 := HB13
      go_wp2_with fail
      refine (nobOn (HN.out _ HB14.out) ).mono ?_
      rintro e x15 ⟨rfl, hw⟩
      subst hw
      have HB15 := HB14
      go_wp2_with fail
      refine (nobOps (HN.out _ HB15.out) ).mono ?_
      rintro e x16 ⟨rfl, hw⟩
      subst hw
      have HB16 := HB15
      go_wp2_with fail
      exact ⟨⟨j + 1, by omega, by go_num, HB16⟩, by simp only [intOf]; omega⟩
    · have hlt' : decide ((j : Int) < 2) = false := by simp; omega
      go_wp2_with fail
      refine (HLV.out _).mono ?_
      rintro e x1 ⟨rfl, hb⟩
      have hfin : Below w.heap.size w x1 := by
        have h1 := HW3.out
        have h2 := HB.out
        rw [← HG.out] at h1
        exact h1.trans ((h2.mono h1.size).trans (hb.mono (Nat.le_trans h1.size h2.size)))
      go_wp2_with fail
      go_ret
      exact ⟨rfl, hfin⟩
end Go.Proofs.Ytdjmmdhjjdnbdaa

/- The statement VfsNil, out of its walk. -/
namespace Go.Proofs.Ytdjmmdhjjdnbdaa
open Go.ChangeShapes Go.WideShapes Go.ChangeAt Go.RowKit
open Go.ChangeMaps (open_string shut_string)

set_option maxRecDepth 100000 in
theorem vfsNil_lifted (os : Os) (started : os.Started) (H : Type) (enc : TypeId × Value → H) :
    ReturnsInHanded {} Try.checked os 7 .any (Rows.vfsNilSpec.pre6 enc Try.prog Try.f7 Rows.vfsNilRow.domain false) (Rows.vfsNilSpec.post enc Try.prog Try.f7 false true false false) := by
  refine returnsInHanded_of_change (C := Try.checked) ownKnob_none started (by kernel_rfl) Try.func7
    (ChangeSpec.witness6 (enc := enc) (C := Try.checked) false ⟨#[], #[.agg #[.int .i64 0, .string ByteArray.empty, .string ByteArray.empty, .slice none 0 0, .int .i64 0, .int .i64 0, .int .i64 0, .slice none 0 0]], []⟩ 8 (by kernel_rfl) (by kernel_rfl) (by kernel_rfl) (by kernel_rfl)) ?_
  intro W base args ds gs before hval0 hW _ _
  have hval : ∀ (j : Nat) t v, Try.f7.params[j]? = some t → args[j]? = some v → Value.okWide Try.prog W .any base t v := hval0
  have hW' := hW
  obtain ⟨p, q, hA0, hV, rfl, hfz, hnd⟩ := hW
  have hA : DataW.TrodAll enc Try.prog W 0 (fun _ => true) true Try.f7.params.toList args.toList ds p := hA0
  rw [Try.params7] at hA hval
  obtain ⟨v0, vs0, d0, ds0, p0, q0, hargs, rfl, rfl, h0, r0⟩ := trodAll_cons hA
  obtain ⟨rfl, rfl, rfl⟩ := trodAll_nil r0
  obtain rfl : args = #[v0] := by cases args; simp_all
  obtain ⟨rfl, rfl⟩ := trodVars_none hV
  obtain ⟨u0_0, he0, w0⟩ := open_inAct (hval 0 53 v0 rfl rfl) h0
  subst he0
  have k0 := h0
  have lt0 : ∀ x ∈ p0, x.block < W.heap.size := by obtain ⟨m, hm⟩ := k0; exact DataW.trod_lt m _ _ _ hm
  clear hA0 hval0
  refine (vfsNil_walk u0_0 W w0).mono fun e W' ⟨he, bel⟩ => ?_
  subst he
  exact ⟨_, rfl, _, _, _, [], _, [], hW', trodAll_mk1 (shut_bool Try.underlying4 _), (trodAll_cons_mk (Below.trod laidOut (by kernel_rfl) (of_decide_eq_true (by kernel_rfl)) k0 bel lt0) trodAll_mk0), rfl, bel.frame _, fun h => by cases h⟩

/-- VfsNil: for every input the law returns true, and what came in reads as it did. -/
theorem vfsNil_holds : Rows.VfsNilSaid :=
  OpenClaim.holds_of_wide 7 Try.f7 rfl rfl rfl rfl rfl rfl rfl ⟨rfl, rfl, rfl, rfl, rfl⟩ rfl rfl rfl rfl rfl (by kernel_rfl) Try.func7 (by kernel_rfl)
    (of_decide_eq_true (by kernel_rfl)) (by unfold Func.isWrapper; first | (rw [if_pos (by decide +kernel)]; kernel_rfl) | (rw [if_neg (by decide +kernel)]; exact ⟨rfl, rfl⟩))
    (fun os started H enc _ => vfsNil_lifted os started H enc)
#print axioms vfsNil_holds
end Go.Proofs.Ytdjmmdhjjdnbdaa
