/- Texts of the proof of VfsScriptSaid, joined: VfsScript VfsScriptP. -/
import Derived.Test.YtdjmmdhjjdnbdaaJVfsScript17
import Derived.Test.YtdjmmdhjjdnbdaaJVfsScript3
/- The statement VfsScript: whatever is done to a file system, and wherever it fails or crashes, it tells what the document says. The walk. -/
namespace Go.Proofs.Ytdjmmdhjjdnbdaa
open Go.RowKit
theorem loadAc_shut (a : Addr) : loadVar 53 a = loadK 53 a := rfl
attribute [local go_sem ↓] loadAc_shut
set_option maxRecDepth 100000 in
theorem loadK_ac {w : World} {b o i : Nat} {z : VAc} (h : ∀ j, j < 8 → w.cell? ⟨b, o + (i * 8 + j), none⟩ = (acC z)[j]?) : (loadK 53 ⟨b, o + i * 8, none⟩).run Try.prog w = .ok (acV z) w := by
  have hl := run_loadCells_list (P := Try.prog) w ⟨b, o + i * 8, none⟩ (acC z) (fun j v hv => by
    have hj : j < 8 := by have := (List.getElem?_eq_some_iff.1 hv).1; rwa [acC_length] at this
    rw [Addr.add_lit, Nat.add_assoc, h j hj, hv])
  have hi : (Try.prog.info? 53).map (·.size) = some (acC z).length := by rfl
  cases hq : Try.prog.info? 53 with
  | none => simp [hq] at hi
  | some i0 =>
    have hs : i0.size = (acC z).length := by simpa [hq] using hi
    have hagg : (isAgg 53).run Try.prog w = .ok true w := by
      unfold isAgg
      rw [Sem.run_bind, run_underlying Try.underlying53 w]
      rfl
    show (loadVar _ _).run _ _ = _
    simp [loadVar, Sem.run_bind, hagg, sizeOf, typeInfo, hq, hs, hl]
    rfl
theorem AcOk.more {w : World} {B B' : Nat} {z : VAc} (h : AcOk w B z) (hB : B ≤ B') : AcOk w B' z := { h with b := h.b.more hB, k := h.k.more hB }
set_option maxRecDepth 100000 in
set_option maxHeartbeats 4000000 in
theorem vfsScript_walk (limit : Int) (A : Option Addr) (n c : Nat) (l : List VAc) (w : World) (hl : (Lit.int .i64 limit).wf = true) (h : InActs w A n c l) :
    Calls Try.prog 6 #[.int .i64 limit, .slice A n c] w fun e w' => e = .returned (.bool true) ∧ Below w.heap.size w w' := by
  have hlim := i64_wf hl
  have CL := Lib.hid (vfLives w)
  have H := Lib.hid h
  have HLIM := Lib.hid hlim
  have HCM := Lib.hid (And.intro h.cap h.max)
  clear h hlim hl
  go_enter Try.func6, Try.ntmps6
  go_wp2_with fail
  refine CL.out.mono ?_
  rintro e w1 ⟨rfl, b1⟩
  have CS := Lib.hid (vsSmall (c := c) w1 (H.out.rd.below b1) H.out.len (by have := HCM.out.1; have := HCM.out.2; omega) fun z hz => ⟨(H.out.ok z hz).bl, (H.out.ok z hz).kl, (H.out.ok z hz).a, (H.out.ok z hz).c⟩)
  have B1 := Lib.hid b1
  clear b1 CL
  go_wp2_with fail
  refine CS.out.mono ?_
  rintro e w2 ⟨q, rfl, hq, rfl⟩
  cases q with
  | false =>
    go_wp2_with fail
    go_ret
    exact ⟨rfl, B1.out⟩
  | true =>
    obtain ⟨hn80, hsm⟩ := hq rfl
    have HSM := Lib.hid hsm
    clear hq hsm CS
    by_cases hbad : limit < 0 ∨ 1073741824 < limit
    · have c1 := (vfNewBad w1 limit hbad).mono fun e w' he => And.intro he.1 he.2.symm
      have c2 := rvNewBad w1 limit hbad
      have C1 := Lib.hid c1
      have C2 := Lib.hid c2
      clear c1 c2 hbad
      go_wp2_with fail
      refine C1.out.mono ?_
      rintro e w2 ⟨rfl, rfl⟩
      go_wp2_with fail
      refine C2.out.mono ?_
      rintro e w2 ⟨rfl, rfl⟩
      go_wp2_with fail
      go_ret
      exact ⟨rfl, B1.out⟩
    · have hgood : 0 ≤ limit ∧ limit ≤ 1073741824 := by omega
      have C1 := Lib.hid (seNew w1 limit hgood)
      have HG := Lib.hid hgood
      clear hbad hgood
      go_wp2_with fail
      refine C1.out.mono ?_
      rintro e w2 ⟨F1, rfl, s2⟩
      have C2 := Lib.hid (srNew w1 w2 limit HG.out s2.bel.size)
      have S2 := Lib.hid s2
      clear s2 C1
      go_wp2_with fail
      refine C2.out.mono ?_
      rintro e w3 ⟨F2, rfl, s3, f3⟩
      have t3 : Tw w1 w3 (Kn Kno w1.heap.size w2.heap.size) (Kn Kno w2.heap.size w3.heap.size) F1 F2 (VSt.new limit) 0 := by
        refine ⟨S2.out.keep f3 (fun _ _ e => e) (fun _ e => e.elim), s3, fun b e1 e2 => ?_⟩
        rcases e1 with e1 | ⟨-, e1⟩
        · exact e1
        · rcases e2 with e2 | ⟨e2, -⟩
          · exact e2
          · omega
      have T3 : Hid (∃ K1 K2 S, Tw w1 w3 K1 K2 F1 F2 S 0) := Lib.hid ⟨_, _, _, t3⟩
      clear t3 s3 f3 S2 C2
      go_wp2_with fail
      go_loopw [9] (fun i_ wx => ∃ i : Nat, i ≤ n ∧ i_ = .int .i64 i ∧ Hid (∃ K1 K2 S, Tw w1 wx K1 K2 F1 F2 S i)) (fun i_ _ => n - (intOf i_).toNat)
      case atStart => exact ⟨0, Nat.zero_le _, rfl, T3⟩
      case round =>
        obtain ⟨i, hi, rfl, HT⟩ := hrel
        obtain ⟨K1, K2, S, tw⟩ := HT.out
        by_cases hlt : i < n
        · have hlt' : (i : Int) < (n : Int) := by omega
          obtain ⟨z, hz⟩ : ∃ z, l[i]? = some z := ⟨_, List.getElem?_eq_getElem (by rw [H.out.len]; exact hlt)⟩
          have hbw := B1.out.trans (tw.se.bel.mono B1.out.size)
          obtain ⟨b, o, e0, -, hc⟩ := flatR_at acC_length (by omega) (H.out.rd.below hbw) hz
          have la := loadK_ac hc
          have hzm := List.mem_of_getElem? hz
          have CA := Lib.hid (vsAct tw (by omega) z (((H.out.ok z hzm).below hbw).more B1.out.size) (HSM.out z hzm))
          subst e0
          clear hc hz hbw hzm tw HT
          go_wp2_with fail
          refine CA.out.mono ?_
          rintro e w4 ⟨rfl, K1', K2', S', t4⟩
          have CB := Lib.hid (vsAlike t4 (by omega))
          have T4 := Lib.hid t4
          clear t4 CA la
          go_wp2_with fail
          refine CB.out.mono ?_
          rintro e w5 ⟨rfl, b5⟩
          have T5 : Hid (∃ K1 K2 S, Tw w1 w5 K1 K2 F1 F2 S (i + 1)) := Lib.hid ⟨_, _, _, T4.out.below b5⟩
          clear b5 T4 CB
          go_wp2_with fail
          exact ⟨⟨i + 1, by omega, by go_num, T5⟩, by simp only [intOf]; omega⟩
        · have hlt' : decide ((i : Int) < (n : Int)) = false := by simp; omega
          have hlt2 : ¬ (i : Int) < (n : Int) := by omega
          have CR := Lib.hid (vsReads tw (by omega))
          clear tw HT
          go_wp2_with fail
          refine CR.out.mono ?_
          rintro e w4 ⟨rfl, b4⟩
          go_wp2_with fail
          go_ret
          exact ⟨rfl, B1.out.trans (b4.mono B1.out.size)⟩
end Go.Proofs.Ytdjmmdhjjdnbdaa

/- The statement VfsScript, out of its walk. -/
namespace Go.Proofs.Ytdjmmdhjjdnbdaa
open Go.ChangeShapes Go.WideShapes Go.ChangeAt Go.RowKit
open Go.ChangeMaps (open_string shut_string)

set_option maxRecDepth 100000 in
theorem vfsScript_lifted (os : Os) (started : os.Started) (H : Type) (enc : TypeId × Value → H) :
    ReturnsInHanded {} Try.checked os 6 .any (Rows.vfsScriptSpec.pre6 enc Try.prog Try.f6 Rows.vfsScriptRow.domain false) (Rows.vfsScriptSpec.post enc Try.prog Try.f6 false true false false) := by
  refine returnsInHanded_of_change (C := Try.checked) ownKnob_none started (by kernel_rfl) Try.func6
    (ChangeSpec.witness6 (enc := enc) (C := Try.checked) false ⟨#[], #[.int .i64 0, .slice none 0 0], []⟩ 8 (by kernel_rfl) (by kernel_rfl) (by kernel_rfl) (by kernel_rfl)) ?_
  intro W base args ds gs before hval0 hW _ _
  have hval : ∀ (j : Nat) t v, Try.f6.params[j]? = some t → args[j]? = some v → Value.okWide Try.prog W .any base t v := hval0
  have hW' := hW
  obtain ⟨p, q, hA0, hV, rfl, hfz, hnd⟩ := hW
  have hA : DataW.TrodAll enc Try.prog W 0 (fun _ => true) true Try.f6.params.toList args.toList ds p := hA0
  rw [Try.params6] at hA hval
  obtain ⟨v0, vs0, d0, ds0, p0, q0, hargs, rfl, rfl, h0, r0⟩ := trodAll_cons hA
  obtain ⟨v1, vs1, d1, ds1, p1, q1, rfl, rfl, rfl, h1, r1⟩ := trodAll_cons r0
  obtain ⟨rfl, rfl, rfl⟩ := trodAll_nil r1
  obtain rfl : args = #[v0, v1] := by cases args; simp_all
  obtain ⟨rfl, rfl⟩ := trodVars_none hV
  obtain ⟨x0, rfl, rfl, rfl, w0⟩ := open_int Try.underlying3 (hval 0 3 v0 rfl rfl) h0
  obtain ⟨u1_0, u1_1, u1_2, u1_3, he1, w1⟩ := open_inActs (hval 1 46 v1 rfl rfl) h1
  subst he1
  have k1 := h1
  have lt1 : ∀ x ∈ p1, x.block < W.heap.size := by obtain ⟨m, hm⟩ := k1; exact DataW.trod_lt m _ _ _ hm
  clear hA0 hval0
  refine (vfsScript_walk x0 u1_0 u1_1 u1_2 u1_3 W w0 w1).mono fun e W' ⟨he, bel⟩ => ?_
  subst he
  exact ⟨_, rfl, _, _, _, [], _, [], hW', trodAll_mk1 (shut_bool Try.underlying4 _), (trodAll_cons_mk (shut_int Try.underlying3 w0) (trodAll_cons_mk (Below.trod laidOut (by kernel_rfl) (of_decide_eq_true (by kernel_rfl)) k1 bel lt1) trodAll_mk0)), rfl, bel.frame _, fun h => by cases h⟩

/-- VfsScript: for every input the law returns true, and what came in reads as it did. -/
theorem vfsScript_holds : Rows.VfsScriptSaid :=
  OpenClaim.holds_of_wide 6 Try.f6 rfl rfl rfl rfl rfl rfl rfl ⟨rfl, rfl, rfl, rfl, rfl⟩ rfl rfl rfl rfl rfl (by kernel_rfl) Try.func6 (by kernel_rfl)
    (of_decide_eq_true (by kernel_rfl)) (by unfold Func.isWrapper; first | (rw [if_pos (by decide +kernel)]; kernel_rfl) | (rw [if_neg (by decide +kernel)]; exact ⟨rfl, rfl⟩))
    (fun os started H enc _ => vfsScript_lifted os started H enc)
#print axioms vfsScript_holds
end Go.Proofs.Ytdjmmdhjjdnbdaa
