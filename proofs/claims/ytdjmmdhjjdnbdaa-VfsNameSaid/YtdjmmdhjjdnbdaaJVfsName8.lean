/- Texts of the proof of VfsNameSaid, joined: VgR VfsName VfsNameP. -/
import Derived.Test.YtdjmmdhjjdnbdaaJVfsName7
import Derived.Lib.SlBytesConst
import Derived.Test.YtdjmmdhjjdnbdaaJVfsName6
/- Layer 4: the examples that each statement asks first: 'lives' answers true. -/
namespace Go.Proofs.Ytdjmmdhjjdnbdaa
open Go.RowKit

theorem conv_const (w : World) (C : Array Value) (n c g : Nat) (hg : g = w.heap.size) :
    (convert 24 24 (.slice (some ⟨g, 0, none⟩) n c)).run Try.prog (w.alloc (.cells C 5)) = .ok (.slice (some ⟨g, 0, none⟩) n c) (w.alloc (.cells C 5 (C.size, C.size + 1))) := by
  subst hg
  exact Lib.run_convert_bytes_const w _ _ C n c Try.underlying24 Try.underlying5
theorem Rd.litm {w : World} {cs : Array Value} {t : TypeId} {fr : Nat × Nat} {g : Nat} (hg : w.heap.size = g) : Rd (w.alloc (.cells cs t fr)) (g + 1) (some ⟨g, 0, none⟩) cs.toList := fun _ => by
  subst hg
  exact ⟨w.heap.size, 0, rfl, by omega, fun j u hu => by
    rw [Nat.zero_add, World.cell?_alloc_mark]
    simpa using hu⟩
theorem SeP.is {w0 W w' : World} {K : Nat → Prop} {F k : Nat} {R : VSt × Nat} {T : VSt} {r : Nat} {x : Int} {e : Ending} (h : SeP w0 W K F k R e w') (hR : R = (T, r)) (hx : (r : Int) = x) : e = .returned (.int .i64 x) ∧ Se w0 w' (Kn K W.heap.size w'.heap.size) F T (k + 1) ∧ FrK W w' K := by
  subst hR
  subst hx
  exact h
theorem Se.new {w0 W : World} {K : Nat → Prop} {F k : Nat} {S : VSt} (h : Se w0 W K F S k) {g : Nat} (hg : W.heap.size = g) : ∀ a, some (⟨g, 0, none⟩ : Addr) = some a → ¬K a.block := fun a ha e => by
  have h1 := (h.kLo e).2
  cases ha
  simp only at h1
  omega
def tA : ByteArray := ⟨#[97]⟩
def tB : ByteArray := ⟨#[98]⟩
def lv0 : VSt := VSt.new 100
def lv1 : VSt := (lv0.create tA).1
def lv2 : VSt := lv1.syncDir.1
def lv3 : VSt := (lv2.append tA [120, 121]).1
def lv4 : VSt := (lv3.sync tA).1
def lv5 : VSt := (lv4.append tA [122]).1
def lv6 : VSt := lv5.crash 0 [1] [(tA, 0)]
def lv7 : VSt := (lv6.read tA 0 9).1
theorem lv_e1 : (lv0.create tA).2 = 0 := by decide +kernel
theorem lv_e2 : lv1.syncDir.2 = 0 := by decide +kernel
theorem lv_e3 : (lv2.append tA [120, 121]).2 = 0 := by decide +kernel
theorem lv_e4 : (lv3.sync tA).2 = 0 := by decide +kernel
theorem lv_e5 : (lv4.append tA [122]).2 = 0 := by decide +kernel
theorem lv_e6 : lv5.dirN (VSt.modulo 0 lv5.chg.length) = [(tA, 0)] := by decide +kernel
theorem lv_e7 : (lv6.read tA 0 9).2 = ([120, 121, 122], 0) := by decide +kernel
theorem lv_e8 : lv7.size tB = -1 := by decide +kernel
theorem lv_e9 : (lv7.create tA).2 = 5 := by decide +kernel
theorem lv_str : strOfNums [120, 121, 122] = ⟨#[120, 121, 122]⟩ := by decide +kernel
theorem pair_eq {α β : Type} {p : α × β} {a : α} {b : β} (h1 : p.1 = a) (h2 : p.2 = b) : p = (a, b) := Prod.ext h1 h2
set_option maxRecDepth 100000 in
set_option maxHeartbeats 4000000 in
theorem vfLives (w : World) : Calls Try.prog 8 #[] w fun e w' => e = .returned (.bool true) ∧ Below w.heap.size w w' := by
  go_enter Try.func8, Try.ntmps8
  go_wp2_with fail
  refine (seNew w 100 (by omega)).mono ?_
  rintro e w1 ⟨F, rfl, s1⟩
  have c1 := (seCreate s1 (by omega) tA (by decide)).mono fun e w' h => h.is (pair_eq (a := lv1) rfl lv_e1) (x := 0) rfl
  have C1 := Lib.hid c1
  clear c1 s1
  go_wp2_with fail
  refine C1.out.mono ?_
  rintro e w2 ⟨rfl, s2, -⟩
  have c2 := (seSyncDir s2 (by omega)).mono fun e w' h => h.is (pair_eq (a := lv2) rfl lv_e2) (x := 0) rfl
  have C2 := Lib.hid c2
  clear c2 s2
  go_wp2_with fail
  refine C2.out.mono ?_
  rintro e w3 ⟨rfl, s3, -⟩
  have cv1 := conv_const w3 #[.int .u8 120, .int .u8 121] 2 2 w3.heap.size rfl
  simp only [List.size_toArray, List.length_cons, List.length_nil, Nat.reduceAdd] at cv1
  have r1 : Rb (w3.alloc (.cells #[.int .u8 120, .int .u8 121] 5 (2, 3))) (w3.heap.size + 1) (some ⟨w3.heap.size, 0, none⟩) [120, 121] := Rd.litm (w := w3) (cs := #[.int .u8 120, .int .u8 121]) (t := 5) rfl
  have c3 := (seAppend (c := 2) (n := 2) (s3.alloc (.cells #[.int .u8 120, .int .u8 121] 5 (2, 3))) (by omega) tA (by decide) r1 (Byt.of rfl) (s3.new rfl) rfl (by simp) (by omega)).mono fun e w' h => h.is (pair_eq (a := lv3) rfl lv_e3) (x := 0) rfl
  have C3 := Lib.hid c3
  clear c3 s3 r1
  go_wp2_with fail
  refine C3.out.mono ?_
  rintro e w4 ⟨rfl, s4, -⟩
  have c4 := (seSync s4 (by omega) tA (by decide)).mono fun e w' h => h.is (pair_eq (a := lv4) rfl lv_e4) (x := 0) rfl
  have C4 := Lib.hid c4
  clear c4 s4 cv1
  go_wp2_with fail
  refine C4.out.mono ?_
  rintro e w5 ⟨rfl, s5, -⟩
  have cv1 := conv_const w5 #[.int .u8 122] 1 1 w5.heap.size rfl
  simp only [List.size_toArray, List.length_cons, List.length_nil, Nat.reduceAdd] at cv1
  have r1 : Rb (w5.alloc (.cells #[.int .u8 122] 5 (1, 2))) (w5.heap.size + 1) (some ⟨w5.heap.size, 0, none⟩) [122] := Rd.litm (w := w5) (cs := #[.int .u8 122]) (t := 5) rfl
  have c5 := (seAppend (c := 1) (n := 1) (s5.alloc (.cells #[.int .u8 122] 5 (1, 2))) (by omega) tA (by decide) r1 (Byt.of rfl) (s5.new rfl) rfl (by simp) (by omega)).mono fun e w' h => h.is (pair_eq (a := lv5) rfl lv_e5) (x := 0) rfl
  have C5 := Lib.hid c5
  clear c5 s5 r1
  go_wp2_with fail
  refine C5.out.mono ?_
  rintro e w6 ⟨rfl, s6, -⟩
  have r2 : Rd (w6.alloc (.cells #[.int .i64 1] 3)) (w6.heap.size + 1) (some ⟨w6.heap.size, 0, none⟩) (([1] : List Int).map intV) := Rd.lit w6 #[.int .i64 1] 3
  have c6 := (seCrash (ck := 1) (nk := 1) (keep := [1]) (s6.alloc (.cells #[.int .i64 1] 3)) (by omega) 0 (by omega) (by omega) r2 (by simp) rfl (s6.new rfl) (fun x hx => by simp at hx; omega) (by omega)).mono fun e w' h => (show ∃ T, T = lv6 ∧ SeP w (w6.alloc (.cells #[.int .i64 1] 3)) _ F _ (T, 0) e w' from by
    obtain ⟨L, h1, -, h2⟩ := h
    rw [lv_e6] at h1
    have h3 := List.perm_singleton.1 h1
    subst h3
    exact ⟨_, rfl, h2⟩)
  have C6 := Lib.hid c6
  clear c6 s6 r2 cv1
  go_wp2_with fail
  refine C6.out.mono ?_
  rintro e w7 ⟨T, rfl, h7⟩
  obtain ⟨rfl, s7, -⟩ := h7.is (T := lv6) (r := 0) (x := 0) rfl rfl
  have c7 := seRead s7 (by omega) tA (by decide) 0 9
  have C7 := Lib.hid c7
  clear c7 s7 h7
  go_wp2_with fail
  refine C7.out.mono ?_
  rintro e w8 ⟨A, c, rfl, hrb, -, s8, -⟩
  rw [lv_e7] at hrb ⊢
  have hst : (convert 24 9 (.slice A 3 c)).run Try.prog w8 = .ok (.string ⟨#[120, 121, 122]⟩) w8 := by
    have := Rb.str (P := Try.prog) hrb Try.underlying24 Try.underlying5 Try.underlying9 c
    rw [lv_str] at this
    exact this
  have c8 := seSize (S := lv7) s8 tB
  rw [lv_e8] at c8
  have c9 := (seCreate (S := lv7) s8 (by omega) tA (by decide)).mono fun e w' h => h.is (pair_eq rfl lv_e9) (x := 5) rfl
  have C8 := Lib.hid c8
  have C9 := Lib.hid c9
  clear c8 c9 s8 hrb
  go_wp2_with fail
  refine C8.out.mono ?_
  rintro e w9 ⟨rfl, rfl⟩
  go_wp2_with fail
  refine C9.out.mono ?_
  rintro e w9 ⟨rfl, s9, -⟩
  go_wp2_with fail
  go_ret
  exact ⟨rfl, s9.bel⟩
end Go.Proofs.Ytdjmmdhjjdnbdaa

/- The statement VfsName: what may be a name is what the document says. The walk. -/
namespace Go.Proofs.Ytdjmmdhjjdnbdaa
open Go.RowKit

set_option maxRecDepth 100000 in
set_option maxHeartbeats 1000000 in
theorem vfsName_walk (s : ByteArray) (w : World) (hs : s.size ≤ maxLen) : Calls Try.prog 3 #[.string s] w fun e w' => e = .returned (.bool true) ∧ Below w.heap.size w w' := by
  unfold maxLen at hs
  have hl := vfLives w
  by_cases h3 : 300 < s.size
  · have hd : decide ((s.size : Int) > 300) = true := by simp; omega
    go_enter Try.func3, Try.ntmps3
    go_wp2_with fail
    refine hl.mono ?_
    rintro e w1 ⟨rfl, hb⟩
    go_wp2_with fail
    go_ret
    exact ⟨rfl, hb⟩
  · have hd : decide ((s.size : Int) > 300) = false := by simp; omega
    have h1 := fun W => (vfName W s (by omega)).mono fun e w' he => And.intro he.1 he.2.symm
    have h2 := fun W => (rVfName W s (by omega)).mono fun e w' he => And.intro he.1 he.2.symm
    obtain ⟨q, hq⟩ : ∃ q, vName s = q := ⟨_, rfl⟩
    rw [hq] at h1 h2
    have H1 := Lib.hid h1
    have H2 := Lib.hid h2
    clear h1 h2 hq
    go_enter Try.func3, Try.ntmps3
    go_wp2_with fail
    refine hl.mono ?_
    rintro e w1 ⟨rfl, hb⟩
    go_wp2_with fail
    refine (H1.out _).mono ?_
    rintro e w2 ⟨rfl, rfl⟩
    go_wp2_with fail
    refine (H2.out _).mono ?_
    rintro e w2 ⟨rfl, rfl⟩
    go_wp2_with fail
    go_ret
    exact ⟨rfl, hb⟩
end Go.Proofs.Ytdjmmdhjjdnbdaa

/- The statement VfsName, out of its walk. -/
namespace Go.Proofs.Ytdjmmdhjjdnbdaa
open Go.ChangeShapes Go.WideShapes Go.ChangeAt Go.RowKit
open Go.ChangeMaps (open_string shut_string)

set_option maxRecDepth 100000 in
theorem vfsName_lifted (os : Os) (started : os.Started) (H : Type) (enc : TypeId × Value → H) :
    ReturnsInHanded {} Try.checked os 3 .any (Rows.vfsNameSpec.pre6 enc Try.prog Try.f3 Rows.vfsNameRow.domain false) (Rows.vfsNameSpec.post enc Try.prog Try.f3 false true false false) := by
  refine returnsInHanded_of_change (C := Try.checked) ownKnob_none started (by kernel_rfl) Try.func3
    (ChangeSpec.witness6 (enc := enc) (C := Try.checked) false ⟨#[], #[.string ByteArray.empty], []⟩ 8 (by kernel_rfl) (by kernel_rfl) (by kernel_rfl) (by kernel_rfl)) ?_
  intro W base args ds gs before hval0 hW _ _
  have hval : ∀ (j : Nat) t v, Try.f3.params[j]? = some t → args[j]? = some v → Value.okWide Try.prog W .any base t v := hval0
  have hW' := hW
  obtain ⟨p, q, hA0, hV, rfl, hfz, hnd⟩ := hW
  have hA : DataW.TrodAll enc Try.prog W 0 (fun _ => true) true Try.f3.params.toList args.toList ds p := hA0
  rw [Try.params3] at hA hval
  obtain ⟨v0, vs0, d0, ds0, p0, q0, hargs, rfl, rfl, h0, r0⟩ := trodAll_cons hA
  obtain ⟨rfl, rfl, rfl⟩ := trodAll_nil r0
  obtain rfl : args = #[v0] := by cases args; simp_all
  obtain ⟨rfl, rfl⟩ := trodVars_none hV
  obtain ⟨s0, rfl, rfl, rfl, w0⟩ := open_string Try.underlying9 (hval 0 9 v0 rfl rfl) h0
  clear hA0 hval0
  refine (vfsName_walk s0 W w0).mono fun e W' ⟨he, bel⟩ => ?_
  subst he
  exact ⟨_, rfl, _, _, _, [], _, [], hW', trodAll_mk1 (shut_bool Try.underlying4 _), (trodAll_cons_mk (shut_string Try.underlying9 w0) trodAll_mk0), rfl, bel.frame _, fun h => by cases h⟩

/-- VfsName: for every input the law returns true, and what came in reads as it did. -/
theorem vfsName_holds : Rows.VfsNameSaid :=
  OpenClaim.holds_of_wide 3 Try.f3 rfl rfl rfl rfl rfl rfl rfl ⟨rfl, rfl, rfl, rfl, rfl⟩ rfl rfl rfl rfl rfl (by kernel_rfl) Try.func3 (by kernel_rfl)
    (of_decide_eq_true (by kernel_rfl)) (by unfold Func.isWrapper; first | (rw [if_pos (by decide +kernel)]; kernel_rfl) | (rw [if_neg (by decide +kernel)]; exact ⟨rfl, rfl⟩))
    (fun os started H enc _ => vfsName_lifted os started H enc)
#print axioms vfsName_holds
end Go.Proofs.Ytdjmmdhjjdnbdaa
