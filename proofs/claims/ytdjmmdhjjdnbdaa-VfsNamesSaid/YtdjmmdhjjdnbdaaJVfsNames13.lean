/- Texts of the proof of VfsNamesSaid, joined: VfsNames VfsNamesP. -/
import Derived.Test.YtdjmmdhjjdnbdaaJVfsNames12
import Derived.Test.YtdjmmdhjjdnbdaaJVfsNames2
import Derived.Test.YtdjmmdhjjdnbdaaJVfsNames3
/- The statement VfsNames: the chapter's examples come out as it tells. The walk. -/
namespace Go.Proofs.Ytdjmmdhjjdnbdaa
open Go.RowKit

theorem vfNewBad2 (w : World) : Calls Try.prog 11 #[.int .i64 (-1)] w fun e w' => e = .returned (.tuple #[.pointer none, .int .i64 2]) ∧ w = w' := (vfNewBad w (-1) (.inl (by omega))).mono fun e w' he => And.intro he.1 he.2.symm
def nm0 : VSt := VSt.new 100
def nm1 : VSt := (nm0.create tA).1
def nm2 : VSt := (nm1.append tA [120, 121]).1
def nm3 : VSt := nm2.crash 0 [] []
def nm4 : VSt := (nm3.create tA).1
def nm5 : VSt := nm4.syncDir.1
def nm6 : VSt := (nm5.append tA [120, 121]).1
def nm7 : VSt := (nm6.sync tA).1
def nm8 : VSt := (nm7.rename tA tB).1
def nm9 : VSt := nm8.crash 1 [] [(tB, 1)]
def nm10 : VSt := nm9.setFuse 1
def nm11 : VSt := (nm10.sync tB).1
def nm12 : VSt := (nm11.sync tB).1
def nm13 : VSt := nm12.crash 0 [] [(tB, 1)]
def nm14 : VSt := (nm13.setFault 0 8).1
def nm15 : VSt := (nm14.read tB 0 9).1
def nm16 : VSt := (nm15.read tB 0 9).1
theorem nm_e1 : (nm0.create tA).2 = 0 := by decide +kernel
theorem nm_e2 : (nm1.append tA [120, 121]).2 = 0 := by decide +kernel
theorem nm_e3 : nm2.dirN (VSt.modulo 0 nm2.chg.length) = [] := by decide +kernel
theorem nm_n3 : nm3.now = [] := by decide +kernel
theorem nm_e4 : (nm3.create tA).2 = 0 := by decide +kernel
theorem nm_e5 : nm4.syncDir.2 = 0 := by decide +kernel
theorem nm_e6 : (nm5.append tA [120, 121]).2 = 0 := by decide +kernel
theorem nm_e7 : (nm6.sync tA).2 = 0 := by decide +kernel
theorem nm_e8 : (nm7.rename tA tB).2 = 0 := by decide +kernel
theorem nm_e9 : nm8.dirN (VSt.modulo 1 nm8.chg.length) = [(tB, 1)] := by decide +kernel
theorem nm_n9 : nm9.now = [(tB, 1)] := by decide +kernel
theorem nm_e11 : (nm10.sync tB).2 = 0 := by decide +kernel
theorem nm_e12 : (nm11.sync tB).2 = 9 := by decide +kernel
theorem nm_o12 : (!nm12.off) = false := by decide +kernel
theorem nm_e13 : nm12.dirN (VSt.modulo 0 nm12.chg.length) = [(tB, 1)] := by decide +kernel
theorem nm_o13 : (!nm13.off) = true := by decide +kernel
theorem nm_e14 : (nm13.setFault 0 8).2 = 0 := by decide +kernel
theorem nm_e15 : (nm14.read tB 0 9).2 = ([], 8) := by decide +kernel
theorem nm_e16 : (nm15.read tB 0 9).2 = ([120, 121], 0) := by decide +kernel
theorem nm_str : strOfNums [120, 121] = ⟨#[120, 121]⟩ := by decide +kernel
theorem nm_a : vName ⟨#[97, 45, 49, 46, 98]⟩ = true := by decide +kernel
theorem nm_b : vName ⟨#[65]⟩ = false := by decide +kernel
theorem nm_c : vName ⟨#[]⟩ = false := by decide +kernel
set_option maxRecDepth 100000 in
set_option maxHeartbeats 8000000 in
theorem vfsNames_walk (w : World) : Calls Try.prog 5 #[] w fun e w' => e = .returned (.bool true) ∧ Below w.heap.size w w' := by
  go_enter Try.func5, Try.ntmps5
  go_wp2_with fail
  refine (seNew w 100 (by omega)).mono ?_
  rintro e w0 ⟨F, rfl, s⟩
  have c0 := (seCreate s (by omega) tA (by decide)).mono fun e w' h => h.is (pair_eq (a := nm1) rfl nm_e1) (x := 0) rfl
  have C0 := Lib.hid c0
  clear c0 s
  go_wp2_with fail
  refine C0.out.mono ?_
  rintro e w1 ⟨rfl, s, -⟩
  have cv := conv_const w1 #[.int .u8 120, .int .u8 121] 2 2 w1.heap.size rfl
  simp only [List.size_toArray, List.length_cons, List.length_nil, Nat.reduceAdd] at cv
  have r : Rb (w1.alloc (.cells #[.int .u8 120, .int .u8 121] 5 (2, 3))) (w1.heap.size + 1) (some ⟨w1.heap.size, 0, none⟩) [120, 121] := Rd.litm (w := w1) (cs := #[.int .u8 120, .int .u8 121]) (t := 5) rfl
  have c1 := (seAppend (c := 2) (n := 2) (s.alloc (.cells #[.int .u8 120, .int .u8 121] 5 (2, 3))) (by omega) tA (by decide) r (Byt.of rfl) (s.new rfl) rfl (by simp) (by omega)).mono fun e w' h => h.is (pair_eq (a := nm2) rfl nm_e2) (x := 0) rfl
  have C1 := Lib.hid c1
  clear c1 s r
  go_wp2_with fail
  refine C1.out.mono ?_
  rintro e w2 ⟨rfl, s, -⟩
  clear cv
  have c2 := (seCrash (Ak := none) (B := 0) (ck := 0) (nk := 0) (keep := []) s (by omega) 0 (by omega) (by omega) Rd.nil (Nat.zero_le _) rfl (fun a e => by cases e) (fun x hx => by cases hx) (by omega)).mono fun e w' h => h.is (T := nm3) nm_e3 (by decide) rfl
  have C2 := Lib.hid c2
  clear c2 s
  go_wp2_with fail
  refine C2.out.mono ?_
  rintro e w3 ⟨rfl, s, -⟩
  have cn := (seNames s (by omega)).mono fun e w' h => h.nil nm_n3
  have CN := Lib.hid cn
  clear cn
  go_wp2_with fail
  refine CN.out.mono ?_
  rintro e w4 ⟨A, c, rfl, hb⟩
  replace s := s.below hb
  clear hb CN
  have c4 := (seCreate s (by omega) tA (by decide)).mono fun e w' h => h.is (pair_eq (a := nm4) rfl nm_e4) (x := 0) rfl
  have C4 := Lib.hid c4
  clear c4 s
  go_wp2_with fail
  refine C4.out.mono ?_
  rintro e w5 ⟨rfl, s, -⟩
  have c5 := (seSyncDir s (by omega)).mono fun e w' h => h.is (pair_eq (a := nm5) rfl nm_e5) (x := 0) rfl
  have C5 := Lib.hid c5
  clear c5 s
  go_wp2_with fail
  refine C5.out.mono ?_
  rintro e w6 ⟨rfl, s, -⟩
  have cv := conv_const w6 #[.int .u8 120, .int .u8 121] 2 2 w6.heap.size rfl
  simp only [List.size_toArray, List.length_cons, List.length_nil, Nat.reduceAdd] at cv
  have r : Rb (w6.alloc (.cells #[.int .u8 120, .int .u8 121] 5 (2, 3))) (w6.heap.size + 1) (some ⟨w6.heap.size, 0, none⟩) [120, 121] := Rd.litm (w := w6) (cs := #[.int .u8 120, .int .u8 121]) (t := 5) rfl
  have c6 := (seAppend (c := 2) (n := 2) (s.alloc (.cells #[.int .u8 120, .int .u8 121] 5 (2, 3))) (by omega) tA (by decide) r (Byt.of rfl) (s.new rfl) rfl (by simp) (by omega)).mono fun e w' h => h.is (pair_eq (a := nm6) rfl nm_e6) (x := 0) rfl
  have C6 := Lib.hid c6
  clear c6 s r
  go_wp2_with fail
  refine C6.out.mono ?_
  rintro e w7 ⟨rfl, s, -⟩
  clear cv
  have c7 := (seSync s (by omega) tA (by decide)).mono fun e w' h => h.is (pair_eq (a := nm7) rfl nm_e7) (x := 0) rfl
  have C7 := Lib.hid c7
  clear c7 s
  go_wp2_with fail
  refine C7.out.mono ?_
  rintro e w8 ⟨rfl, s, -⟩
  have c8 := (seRename s (by omega) tA tB (by decide) (by decide)).mono fun e w' h => h.is (pair_eq (a := nm8) rfl nm_e8) (x := 0) rfl
  have C8 := Lib.hid c8
  clear c8 s
  go_wp2_with fail
  refine C8.out.mono ?_
  rintro e w9 ⟨rfl, s, -⟩
  have c9 := (seCrash (Ak := none) (B := 0) (ck := 0) (nk := 0) (keep := []) s (by omega) 1 (by omega) (by omega) Rd.nil (Nat.zero_le _) rfl (fun a e => by cases e) (fun x hx => by cases hx) (by omega)).mono fun e w' h => h.is (T := nm9) nm_e9 (by decide) rfl
  have C9 := Lib.hid c9
  clear c9 s
  go_wp2_with fail
  refine C9.out.mono ?_
  rintro e w10 ⟨rfl, s, -⟩
  have cn := (seNames s (by omega)).mono fun e w' h => h.one nm_n9
  have CN := Lib.hid cn
  clear cn
  go_wp2_with fail
  refine CN.out.mono ?_
  rintro e w11 ⟨A2, c2, rfl, hr, hb⟩
  replace s := s.below hb
  have hr2 := hr.allocS (.cells #[.string tB] 9)
  have hr3 : Rd (w11.alloc (.cells #[.string tB] 9)) (w11.heap.size + 1) (some ⟨w11.heap.size, 0, none⟩) [strV tB] := Rd.lit w11 #[.string tB] 9
  have ck := kitStrings (A := A2) (c := c2) (c' := 1) (n := 1) [tB] _ hr2 hr3 rfl (by omega)
  replace s := s.alloc (.cells #[.string tB] 9)
  have CK := Lib.hid ck
  clear hb CN hr hr2 hr3 ck
  go_wp2_with fail
  refine CK.out.mono ?_
  rintro e w12 ⟨rfl, d, rfl⟩
  replace s := s.drewN d
  clear CK
  obtain ⟨w12, hw⟩ : ∃ x, (w11.alloc (.cells #[.string tB] 9)).drewN d = x := ⟨_, rfl⟩
  rw [hw] at s ⊢
  clear hw
  have c12 := (seFuse s 1 (by omega)).mono fun e w' h => h.is (T := nm10) (r := 0) (x := 0) rfl rfl
  have C12 := Lib.hid c12
  clear c12 s
  go_wp2_with fail
  refine C12.out.mono ?_
  rintro e w13 ⟨rfl, s, -⟩
  have c13 := (seSync s (by omega) tB (by decide)).mono fun e w' h => h.is (pair_eq (a := nm11) rfl nm_e11) (x := 0) rfl
  have C13 := Lib.hid c13
  clear c13 s
  go_wp2_with fail
  refine C13.out.mono ?_
  rintro e w14 ⟨rfl, s, -⟩
  have c14 := (seSync s (by omega) tB (by decide)).mono fun e w' h => h.is (pair_eq (a := nm12) rfl nm_e12) (x := 9) rfl
  have C14 := Lib.hid c14
  clear c14 s
  go_wp2_with fail
  refine C14.out.mono ?_
  rintro e w15 ⟨rfl, s, -⟩
  have co := seOn s
  rw [nm_o12] at co
  have CO := Lib.hid co
  clear co
  go_wp2_with fail
  refine CO.out.mono ?_
  rintro e w16 ⟨rfl, rfl⟩
  clear CO
  have c16 := (seCrash (Ak := none) (B := 0) (ck := 0) (nk := 0) (keep := []) s (by omega) 0 (by omega) (by omega) Rd.nil (Nat.zero_le _) rfl (fun a e => by cases e) (fun x hx => by cases hx) (by omega)).mono fun e w' h => h.is (T := nm13) nm_e13 (by decide) rfl
  have C16 := Lib.hid c16
  clear c16 s
  go_wp2_with fail
  refine C16.out.mono ?_
  rintro e w17 ⟨rfl, s, -⟩
  have co := seOn s
  rw [nm_o13] at co
  have CO := Lib.hid co
  clear co
  go_wp2_with fail
  refine CO.out.mono ?_
  rintro e w18 ⟨rfl, rfl⟩
  clear CO
  have c18 := (seFault s 0 8 (by omega)).mono fun e w' h => h.is (pair_eq (a := nm14) rfl nm_e14) (x := 0) rfl
  have C18 := Lib.hid c18
  clear c18 s
  go_wp2_with fail
  refine C18.out.mono ?_
  rintro e w19 ⟨rfl, s, -⟩
  have c19 := seRead s (by omega) tB (by decide) 0 9
  have C19 := Lib.hid c19
  clear c19 s
  go_wp2_with fail
  refine C19.out.mono ?_
  rintro e w20 ⟨A3, c3, rfl, hr3, -, s, -⟩
  rw [nm_e15] at hr3 ⊢
  clear hr3
  have c20 := seRead (S := nm15) s (by omega) tB (by decide) 0 9
  have C20 := Lib.hid c20
  clear c20 s
  go_wp2_with fail
  refine C20.out.mono ?_
  rintro e w21 ⟨A4, c4, rfl, hr4, -, s, -⟩
  rw [nm_e16] at hr4 ⊢
  go_wp2_with fail
  refine (vfNewBad2 _).mono ?_
  rintro e w22 ⟨rfl, rfl⟩
  go_wp2_with fail
  refine (vfLives _).mono ?_
  rintro e w23 ⟨rfl, hb⟩
  have hr5 := hr4.belowS hb
  have hst : (convert 24 9 (.slice A4 2 c4)).run Try.prog w23 = .ok (.string ⟨#[120, 121]⟩) w23 := by
    have := Rb.str (P := Try.prog) hr5 Try.underlying24 Try.underlying5 Try.underlying9 c4
    rw [nm_str] at this
    exact this
  have hfin := s.bel.trans (hb.mono s.bel.size)
  have q1 := fun W => (vfName W ⟨#[97, 45, 49, 46, 98]⟩ (by decide)).mono fun e w' he => And.intro he.1 he.2.symm
  have q2 := fun W => (vfName W ⟨#[65]⟩ (by decide)).mono fun e w' he => And.intro he.1 he.2.symm
  have q3 := fun W => (vfName W ⟨#[]⟩ (by decide)).mono fun e w' he => And.intro he.1 he.2.symm
  rw [nm_a] at q1
  rw [nm_b] at q2
  rw [nm_c] at q3
  have Q1 := Lib.hid q1
  have Q2 := Lib.hid q2
  have Q3 := Lib.hid q3
  have HF := Lib.hid hfin
  clear q1 q2 q3 hfin s hb hr4 hr5
  go_wp2_with fail
  refine (Q1.out _).mono ?_
  rintro e x1 ⟨rfl, rfl⟩
  go_wp2_with fail
  refine (Q2.out _).mono ?_
  rintro e x1 ⟨rfl, rfl⟩
  go_wp2_with fail
  refine (Q3.out _).mono ?_
  rintro e x1 ⟨rfl, rfl⟩
  go_wp2_with fail
  go_ret
  exact ⟨rfl, HF.out⟩
end Go.Proofs.Ytdjmmdhjjdnbdaa

/- The statement VfsNames, out of its walk. -/
namespace Go.Proofs.Ytdjmmdhjjdnbdaa
open Go.ChangeShapes Go.WideShapes Go.ChangeAt Go.RowKit
open Go.ChangeMaps (open_string shut_string)

set_option maxRecDepth 100000 in
theorem vfsNames_lifted (os : Os) (started : os.Started) (H : Type) (enc : TypeId × Value → H) :
    ReturnsInHanded {} Try.checked os 5 .any (Rows.vfsNamesSpec.pre6 enc Try.prog Try.f5 Rows.vfsNamesRow.domain false) (Rows.vfsNamesSpec.post enc Try.prog Try.f5 false true false false) := by
  refine returnsInHanded_of_change (C := Try.checked) ownKnob_none started (by kernel_rfl) Try.func5
    (ChangeSpec.witness6 (enc := enc) (C := Try.checked) false ⟨#[], #[], []⟩ 8 (by kernel_rfl) (by kernel_rfl) (by kernel_rfl) (by kernel_rfl)) ?_
  intro W base args ds gs before hval0 hW _ _
  have hval : ∀ (j : Nat) t v, Try.f5.params[j]? = some t → args[j]? = some v → Value.okWide Try.prog W .any base t v := hval0
  have hW' := hW
  obtain ⟨p, q, hA0, hV, rfl, hfz, hnd⟩ := hW
  have hA : DataW.TrodAll enc Try.prog W 0 (fun _ => true) true Try.f5.params.toList args.toList ds p := hA0
  rw [Try.params5] at hA hval
  obtain ⟨hargs, rfl, rfl⟩ := trodAll_nil hA
  obtain rfl : args = #[] := by cases args; simp_all
  obtain ⟨rfl, rfl⟩ := trodVars_none hV
  clear hA0 hval0
  refine (vfsNames_walk  W ).mono fun e W' ⟨he, bel⟩ => ?_
  subst he
  exact ⟨_, rfl, _, _, _, [], _, [], hW', trodAll_mk1 (shut_bool Try.underlying4 _), trodAll_mk0, rfl, bel.frame _, fun h => by cases h⟩

/-- VfsNames: for every input the law returns true, and what came in reads as it did. -/
theorem vfsNames_holds : Rows.VfsNamesSaid :=
  OpenClaim.holds_of_wide 5 Try.f5 rfl rfl rfl rfl rfl rfl rfl ⟨rfl, rfl, rfl, rfl, rfl⟩ rfl rfl rfl rfl rfl (by kernel_rfl) Try.func5 (by kernel_rfl)
    (of_decide_eq_true (by kernel_rfl)) (by unfold Func.isWrapper; first | (rw [if_pos (by decide +kernel)]; kernel_rfl) | (rw [if_neg (by decide +kernel)]; exact ⟨rfl, rfl⟩))
    (fun os started H enc _ => vfsNames_lifted os started H enc)
#print axioms vfsNames_holds
end Go.Proofs.Ytdjmmdhjjdnbdaa
