/- Texts of the proof of DepsNamesSaid, joined: DeT DfF DepsNames Open0 DepsNamesP. -/
import Derived.Laws.ResultCell
import Derived.Test.YthaiplhjekkooaaJDepsNames7
import Derived.Test.YthaiplhjekkooaaJDepsNames6
import Derived.Test.YthaiplhjekkooaaJDepsNames1
import Derived.Test.YthaiplhjekkooaaRows
import Derived.ProofKit
import Derived.OpenShut
import Derived.ShutString
import Derived.ChangeOld
/- deps: the examples that each statement of layer 24 asks first: 'lives' answers true. -/
namespace Go.Proofs.Ythaiplhjekkooaa
open Go.RowKit

set_option maxRecDepth 100000 in
theorem lawEdge (e : Ed) (w : World) : Calls Try.prog 23 #[.int .u64 e.b, .string e.f, .string e.t, .int .u64 e.n] w fun en w' => en = .returned (edV e) ∧ Below w.heap.size w w' := by
  go_enter Try.func23, Try.ntmps23
  go_wp2
  refine bodyPost_ret (results_cell_row rfl _ _ w.heap.size 47 (edA e) (0, 0) _ rfl ?_ Try.underlying47 rfl ?_) rfl ?_
  · show (w.alloc _).heap[w.heap.size]? = _
    rw [heap_alloc_new]
  · rfl
  · exact ⟨rfl, (Below.refl _ w).alloc (Nat.le_refl _) _⟩
/-- The law's span. -/
def lawA (id up : Nat) (service : ByteArray) (start : Int) : Ad := ⟨⟨0, 1, id, up, service, ⟨#[120]⟩, 0, start, 0, false, []⟩, up, 0, 0⟩
set_option maxRecDepth 100000 in
theorem lawSp (id up : Nat) (service : ByteArray) (start : Int) (w : World) : Calls Try.prog 43 #[.int .u64 id, .int .u64 up, .string service, .int .i64 start] w fun en w' => en = .returned (adV (lawA id up service start) none 0 0) ∧ Below w.heap.size w w' := by
  go_enter Try.func43, Try.ntmps43
  go_wp2
  refine bodyPost_ret (results_cell_row rfl _ _ w.heap.size 45 (adC (lawA id up service start) none 0 0) (0, 0) _ rfl ?_ Try.underlying45 rfl ?_) rfl ?_
  · show (w.alloc _).heap[w.heap.size]? = _
    rw [heap_alloc_new]
    rfl
  · rfl
  · exact ⟨rfl, (Below.refl _ w).alloc (Nat.le_refl _) _⟩
def exE (id up : Nat) (service : ByteArray) (start : Int) : AE := ⟨lawA id up service start, none, 0, 0⟩
def exL : List AE := [exE 1 0 ⟨#[97]⟩ 0, exE 2 1 ⟨#[98]⟩ 5, exE 3 1 ⟨#[98]⟩ 12, exE 4 2 ⟨#[98]⟩ 6]
set_option maxRecDepth 100000 in
theorem lawExample (w : World) : Calls Try.prog 22 #[] w fun en w' => ∃ b c, en = .returned (.slice (some ⟨b, 0, none⟩) 4 c) ∧ RbA w' w'.heap.size (some ⟨b, 0, none⟩) exL ∧ Below w.heap.size w w' := by
  go_enter Try.func22, Try.ntmps22
  go_wp2_with fail
  refine (lawSp 1 0 ⟨#[97]⟩ 0 w).mono ?_
  rintro e w1 ⟨rfl, hb1⟩
  go_wp2_with fail
  refine (lawSp 2 1 ⟨#[98]⟩ 5 w1).mono ?_
  rintro e w2 ⟨rfl, hb2⟩
  go_wp2_with fail
  refine (lawSp 3 1 ⟨#[98]⟩ 12 w2).mono ?_
  rintro e w3 ⟨rfl, hb3⟩
  go_wp2_with fail
  refine (lawSp 4 2 ⟨#[98]⟩ 6 w3).mono ?_
  rintro e w4 ⟨rfl, hb4⟩
  have hb02 := hb1.trans (hb2.mono hb1.size)
  have hb03 := hb02.trans (hb3.mono hb02.size)
  have hb04 := hb03.trans (hb4.mono hb03.size)
  have hr : RbA (w4.alloc (.cells (adC (lawA 1 0 ⟨#[97]⟩ 0) none 0 0 ++ adC (lawA 2 1 ⟨#[98]⟩ 5) none 0 0 ++ adC (lawA 3 1 ⟨#[98]⟩ 12) none 0 0 ++ adC (lawA 4 2 ⟨#[98]⟩ 6) none 0 0) 45)) (w4.heap.size + 1) (some ⟨w4.heap.size, 0, none⟩) exL := by
    refine ⟨?_, fun e he => ?_⟩
    · have h := Rd.lit w4 (adC (lawA 1 0 ⟨#[97]⟩ 0) none 0 0 ++ adC (lawA 2 1 ⟨#[98]⟩ 5) none 0 0 ++ adC (lawA 3 1 ⟨#[98]⟩ 12) none 0 0 ++ adC (lawA 4 2 ⟨#[98]⟩ 6) none 0 0) 45
      exact h
    · simp only [exL, List.mem_cons, List.not_mem_nil, or_false] at he
      rcases he with rfl | rfl | rfl | rfl <;> exact ⟨Rd.nil, rfl, by show (0 : Nat) ≤ _; omega, by unfold Ad.Ok Sp.U64 exE lawA; simp⟩
  have hal := hb04.alloc hb04.size (.cells (adC (lawA 1 0 ⟨#[97]⟩ 0) none 0 0 ++ adC (lawA 2 1 ⟨#[98]⟩ 5) none 0 0 ++ adC (lawA 3 1 ⟨#[98]⟩ 12) none 0 0 ++ adC (lawA 4 2 ⟨#[98]⟩ 6) none 0 0) 45)
  have HR := Lib.hid hr
  have HA := Lib.hid hal
  clear hr hal hb1 hb2 hb3 hb4 hb02 hb03 hb04
  go_wp2_with fail
  go_ret
  exact ⟨_, _, rfl, by rw [World.size_alloc]; exact HR.out, HA.out⟩
def exO : List Ed := [⟨0, ⟨#[97]⟩, ⟨#[98]⟩, 1⟩, ⟨1, ⟨#[97]⟩, ⟨#[98]⟩, 1⟩]
theorem exOut : edOut (ads exL) 10 = (exO, 0) := by decide +kernel
theorem zeroChk : edChk [⟨0, ⟨#[]⟩, ⟨#[]⟩, 0⟩] = 2 := by decide +kernel
theorem edLaw {A : Option Addr} {n c B : Nat} (l : List AE) (size : Int) (w : World) (h : RbA w B A l) (hn : l.length = n) (hB : B ≤ w.heap.size) (hnl : n ≤ 200) (hs0 : -9223372036854775808 ≤ size) (hs1 : size ≤ 9223372036854775807)
    (hst : ∀ e ∈ l, e.a.s.start ≤ 9223372036854775807 ∧ -9223372036854775808 ≤ e.a.s.start) :
    Calls Try.prog 10 #[.slice A n c, .int .i64 size] w (EdsPost w (edOut (ads l) size)) :=
  (deEdges l size w h hn hB hnl hs0 hs1 hst).mono fun e w' h => edgC_out (by omega) h
set_option maxRecDepth 100000 in
theorem deLives (w : World) : Calls Try.prog 8 #[] w fun en w' => en = .returned (.bool true) ∧ Below w.heap.size w w' := by
  go_enter Try.func8, Try.ntmps8
  go_wp2_with fail
  refine (lawExample w).mono ?_
  rintro e w1 ⟨b, c, rfl, hr1, hb1⟩
  have ce := edLaw (c := c) exL 10 w1 hr1 (n := 4) rfl (Nat.le_refl _) (by omega) (by omega) (by omega) (fun e he => by
    simp only [exL, List.mem_cons, List.not_mem_nil, or_false] at he
    rcases he with rfl | rfl | rfl | rfl <;> simp [exE, lawA])
  rw [exOut] at ce
  go_wp2_with fail
  refine ce.mono ?_
  rintro e w2 ⟨A2, c2, rfl, hown2, hb2⟩
  have hb02 := hb1.trans (hb2.mono hb1.size)
  have hr2 : RbD w2 w2.heap.size A2 exO := Rd.of_own hown2
  clear ce hr1
  go_wp2_with fail
  refine (lawEdge ⟨0, ⟨#[97]⟩, ⟨#[98]⟩, 1⟩ w2).mono ?_
  rintro e w3 ⟨rfl, hb3⟩
  go_wp2_with fail
  refine (lawEdge ⟨1, ⟨#[97]⟩, ⟨#[98]⟩, 1⟩ w3).mono ?_
  rintro e w4 ⟨rfl, hb4⟩
  have hb04 := (hb02.trans (hb3.mono hb02.size)).trans (hb4.mono (hb02.trans (hb3.mono hb02.size)).size)
  have hb24 := hb3.trans (hb4.mono hb3.size)
  have hr5 : RbD (w4.alloc (.cells (edA ⟨0, ⟨#[97]⟩, ⟨#[98]⟩, 1⟩ ++ edA ⟨1, ⟨#[97]⟩, ⟨#[98]⟩, 1⟩) 47)) (w4.heap.size + 1) (some ⟨w4.heap.size, 0, none⟩) exO := Rd.lit w4 (edA ⟨0, ⟨#[97]⟩, ⟨#[98]⟩, 1⟩ ++ edA ⟨1, ⟨#[97]⟩, ⟨#[98]⟩, 1⟩) 47
  have hb5 := hb04.alloc hb04.size (.cells (edA ⟨0, ⟨#[97]⟩, ⟨#[98]⟩, 1⟩ ++ edA ⟨1, ⟨#[97]⟩, ⟨#[98]⟩, 1⟩) 47)
  have hr25 := Rd.belowS hr2 (hb24.alloc hb24.size (.cells (edA ⟨0, ⟨#[97]⟩, ⟨#[98]⟩, 1⟩ ++ edA ⟨1, ⟨#[97]⟩, ⟨#[98]⟩, 1⟩) 47))
  have cs := kitSameEds (c := c2) (c' := 2) exO exO _ hr25 hr5 (n := 2) (n' := 2) rfl rfl (by omega)
  rw [show decide (exO = exO) = true from decide_eq_true rfl] at cs
  have CS := Lib.hid cs
  have HB5 := Lib.hid hb5
  clear hr25 hr5 hb5 hb24 hb04 hb3 hb4 hr2 hown2 hb02 hb2 hb1 cs
  go_wp2_with fail
  refine CS.out.mono ?_
  rintro e w6 ⟨rfl, d6, rfl⟩
  have hb6 := below_drewN HB5.out d6
  obtain ⟨w6, hw6⟩ : ∃ w6, (w4.alloc (.cells (edA ⟨0, ⟨#[97]⟩, ⟨#[98]⟩, 1⟩ ++ edA ⟨1, ⟨#[97]⟩, ⟨#[98]⟩, 1⟩) 47)).drewN d6 = w6 := ⟨_, rfl⟩
  rw [hw6] at hb6
  have hrz : RbD (w6.alloc (.cells (edA ⟨0, ⟨#[]⟩, ⟨#[]⟩, 0⟩) 47)) (w6.heap.size + 1) (some ⟨w6.heap.size, 0, none⟩) [⟨0, ⟨#[]⟩, ⟨#[]⟩, 0⟩] := by
    have h := Rd.lit w6 (edA ⟨0, ⟨#[]⟩, ⟨#[]⟩, 0⟩) 47
    exact h
  have hb7 := hb6.alloc hb6.size (.cells (edA ⟨0, ⟨#[]⟩, ⟨#[]⟩, 0⟩) 47)
  have cz := deCheck (c := 1) _ _ hrz (n := 1) rfl (by simp) (by omega)
  rw [zeroChk] at cz
  have CZ := Lib.hid cz
  have HB7 := Lib.hid hb7
  have HW6 := Lib.hid hw6
  clear cz hb7 hrz hb6 hw6 CS HB5
  try rw [HW6.out]
  go_wp2_with fail
  try rw [HW6.out]
  refine CZ.out.mono ?_
  rintro e w8 ⟨rfl, hb8⟩
  go_wp2_with fail
  go_ret
  exact ⟨rfl, HB7.out.trans (hb8.mono HB7.out.size)⟩
end Go.Proofs.Ythaiplhjekkooaa

/- kit's SameStrings; how long merged edges are. -/
namespace Go.Proofs.Ythaiplhjekkooaa
open Go.RowKit
set_option maxRecDepth 100000 in
set_option maxHeartbeats 2000000 in
theorem kitSameStrs {A A' : Option Addr} {n c c' B B' : Nat} (xs : List ByteArray) (w : World) (h : Rd w B A (xs.map strV)) (h' : Rd w B' A' (xs.map strV)) (hn : xs.length = n) (hnl : n ≤ 9223372036854775807) :
    Calls Try.prog 25 #[.slice A n c, .slice A' n c'] w fun e w' => e = .returned (.bool true) ∧ ∃ d, w' = w.drewN d := by
  have HN := Lib.hid hn
  have HH := Lib.hid h
  have HH' := Lib.hid h'
  have hself : ((n : Int) != (n : Int)) = false := by simp
  clear hn h h'
  go_enter Try.func25, Try.ntmps25
  go_wp2_with fail
  go_loopw [5] (fun i_ wr => ∃ k d : Nat, k ≤ n ∧ i_ = .int .i64 k ∧ wr = w.drewN d) (fun i_ _ => n - (intOf i_).toNat)
  case atStart => exact ⟨0, 0, by omega, rfl, rfl⟩
  case round =>
    obtain ⟨k, d, hk, rfl, rfl⟩ := hrel
    by_cases hlt : k < n
    · have hlt' : (k : Int) < (n : Int) := by omega
      obtain ⟨x, hx⟩ : ∃ x, xs[k]? = some x := ⟨_, List.getElem?_eq_getElem (by rw [HN.out]; exact hlt)⟩
      obtain ⟨b1, o1, e1, hc1⟩ := Rs.get HH.out hx
      obtain ⟨b2, o2, e2, hc2⟩ := Rs.get HH'.out hx
      subst e1 e2
      have hs : (x.toList == x.toList) = true := by simp
      have hs' : (x.toList != x.toList) = false := by rw [bne, hs]; rfl
      clear hx
      go_wp2_with fail
      go_region
      all_goals go_wp2_with fail
      all_goals exact ⟨⟨k + 1, d + 1, by omega, by go_num, rfl⟩, by simp only [intOf]; omega⟩
    · have hlt' : decide ((k : Int) < (n : Int)) = false := by simp; omega
      go_wp2_with fail
      go_ret
      exact ⟨rfl, d, rfl⟩
theorem addAll_lenF : ∀ (xs out o : List Ed), addAll xs out = some o → o.length ≤ out.length + xs.length
  | [], out, o, h => by
    rw [addAll] at h
    cases h
    exact Nat.le_refl _
  | x :: xs, out, o, h => by
    rw [addAll] at h
    split at h
    · have h1 := addAll_lenF xs _ o h
      have h2 := addE_lenU x out
      rw [List.length_cons]
      omega
    · cases h
theorem addOut_lenF (xs : List Ed) : (addOut xs).1.length ≤ xs.length := by
  unfold addOut
  split
  · rename_i o h
    have := addAll_lenF xs [] o h
    simpa using this
  · simp
theorem mergeOut_len (a b : List Ed) : (mergeOut a b).1.length ≤ a.length + b.length := by
  unfold mergeOut
  split
  · simp
  split
  · simp
  · have := addOut_lenF (a ++ b)
    rwa [List.length_append] at this
theorem betOut_len (l : List Ed) (p q : Nat) : (betOut l p q).1.length ≤ l.length := by
  unfold betOut
  split
  · simp
  · exact Nat.le_trans (addOut_lenF _) (List.length_filterMap_le _ _)
theorem callsIs_len {l : List Ed} {s : ByteArray} {out : List ByteArray} (h : CallsIs l s out) : out.length ≤ l.length := by
  obtain ⟨-, L, h2, h3⟩ := h
  rw [h3.length_eq]
  exact Rch.len h2.nd h2.rch
end Go.Proofs.Ythaiplhjekkooaa

/- The statement DepsNames: the worked examples of the chapter on calls. The walk. -/
namespace Go.Proofs.Ythaiplhjekkooaa
open Go.RowKit

def eAB (b n : Nat) : Ed := ⟨b, ⟨#[97]⟩, ⟨#[98]⟩, n⟩
def eAC (n : Nat) : Ed := ⟨0, ⟨#[97]⟩, ⟨#[99]⟩, n⟩
def eBC (n : Nat) : Ed := ⟨0, ⟨#[98]⟩, ⟨#[99]⟩, n⟩
theorem nmB1 : betOut exO 0 1 = ([eAB 0 2], 0) := by decide +kernel
theorem nmB2 : betOut exO 1 1 = ([eAB 0 1], 0) := by decide +kernel
theorem nmM : mergeOut exO [eAC 2] = ([eAB 0 1, eAC 2, eAB 1 1], 0) := by decide +kernel
theorem nmC0 : edChk [eAB 0 1, eBC 1] = 0 := by decide +kernel
theorem nmC : CallsIs [eAB 0 1, eBC 1] ⟨#[97]⟩ [⟨#[98]⟩, ⟨#[99]⟩] := by
  refine ⟨?_, [⟨#[98]⟩, ⟨#[99]⟩], ⟨by decide +kernel, fun x hx => ?_, fun e he hf => ?_⟩, List.Perm.refl _⟩
  · unfold SortT
    decide +kernel
  · have h1 : Rch [eAB 0 1, eBC 1] ⟨#[97]⟩ (eAB 0 1).t := .one (by simp) rfl
    have h2 : Rch [eAB 0 1, eBC 1] ⟨#[97]⟩ (eBC 1).t := .more (by simp) h1
    simp only [List.mem_cons, List.not_mem_nil, or_false] at hx
    rcases hx with rfl | rfl
    · exact h1
    · exact h2
  · simp only [List.mem_cons, List.not_mem_nil, or_false] at he
    rcases he with rfl | rfl
    · exact List.mem_cons_self ..
    · exact List.mem_cons_of_mem _ (List.mem_cons_self ..)
theorem rd_eds1 (w : World) (e : Ed) : RbD (w.alloc (.cells (edA e) 47)) (w.alloc (.cells (edA e) 47)).heap.size (some ⟨w.heap.size, 0, none⟩) [e] := by
  have h := Rd.lit w (edA e) 47
  rw [World.size_alloc]
  exact h
theorem rd_eds2 (w : World) (e f : Ed) : RbD (w.alloc (.cells (edA e ++ edA f) 47)) (w.alloc (.cells (edA e ++ edA f) 47)).heap.size (some ⟨w.heap.size, 0, none⟩) [e, f] := by
  have h := Rd.lit w (edA e ++ edA f) 47
  rw [World.size_alloc]
  exact h
theorem rd_eds3 (w : World) (e f g : Ed) : RbD (w.alloc (.cells (edA e ++ edA f ++ edA g) 47)) (w.alloc (.cells (edA e ++ edA f ++ edA g) 47)).heap.size (some ⟨w.heap.size, 0, none⟩) [e, f, g] := by
  have h := Rd.lit w (edA e ++ edA f ++ edA g) 47
  rw [World.size_alloc]
  exact h
/-- What the law holds, in a world. -/
structure Nm (w W : World) (A2 A3 A4 : Option Addr) : Prop where
  b : Below w.heap.size w W
  r : RbD W W.heap.size A2 exO
  s : RbD W W.heap.size A3 [eAB 0 2]
  t : RbD W W.heap.size A4 [eAB 0 1]
theorem Nm.go {w W W' : World} {A2 A3 A4 : Option Addr} (h : Nm w W A2 A3 A4) (hb : Below W.heap.size W W') : Nm w W' A2 A3 A4 :=
  ⟨h.b.trans (hb.mono h.b.size), Rd.belowS h.r hb, Rd.belowS h.s hb, Rd.belowS h.t hb⟩
theorem Nm.alloc {w W : World} {A2 A3 A4 : Option Addr} (h : Nm w W A2 A3 A4) (o : Obj) : Nm w (W.alloc o) A2 A3 A4 := h.go ((Below.refl _ W).alloc (Nat.le_refl _) o)
theorem Nm.drewN {w W : World} {A2 A3 A4 : Option Addr} (h : Nm w W A2 A3 A4) (d : Nat) : Nm w (W.drewN d) A2 A3 A4 := h.go (below_drewN (Below.refl _ W) d)
set_option maxRecDepth 100000 in
set_option maxHeartbeats 8000000 in
theorem depsNames_walk (w : World) : Calls Try.prog 6 #[] w fun e w' => e = .returned (.bool true) ∧ Below w.heap.size w w' := by
  go_enter Try.func6, Try.ntmps6
  go_wp2_with fail
  refine (lawExample w).mono ?_
  rintro e w1 ⟨b, c, rfl, hr1, hb1⟩
  have ce := edLaw (c := c) exL 10 w1 hr1 (n := 4) rfl (Nat.le_refl _) (by omega) (by omega) (by omega) (fun e he => by
    simp only [exL, List.mem_cons, List.not_mem_nil, or_false] at he
    rcases he with rfl | rfl | rfl | rfl <;> simp [exE, lawA])
  rw [exOut] at ce
  go_wp2_with fail
  refine ce.mono ?_
  rintro e w2 ⟨A2, c2, rfl, hown2, hb2⟩
  have hb02 := hb1.trans (hb2.mono hb1.size)
  have r2 : RbD w2 w2.heap.size A2 exO := Rd.of_own hown2
  have cb1 := deBetween (c := c2) (n := exO.length) exO 0 1 w2 r2 rfl (Nat.le_refl _) (by decide)
  rw [nmB1] at cb1
  clear ce hr1 hb1 hb2 hown2
  go_wp2_with fail
  refine cb1.mono ?_
  rintro e w3 ⟨A3, c3, rfl, own3, hb3⟩
  have hb03 := hb02.trans (hb3.mono hb02.size)
  have r3 := Rd.belowS r2 hb3
  have s3 : RbD w3 w3.heap.size A3 [eAB 0 2] := Rd.of_own own3
  have cb2 := deBetween (c := c2) (n := exO.length) exO 1 1 w3 r3 rfl (Nat.le_refl _) (by decide)
  rw [nmB2] at cb2
  clear cb1 hb02 hb3 own3 r2
  go_wp2_with fail
  refine cb2.mono ?_
  rintro e w4 ⟨A4, c4, rfl, own4, hb4⟩
  have nm4 : Nm w w4 A2 A3 A4 := ⟨hb03.trans (hb4.mono hb03.size), Rd.belowS r3 hb4, Rd.belowS s3 hb4, Rd.of_own own4⟩
  clear cb2 hb03 hb4 own4 r3 s3
  go_wp2_with fail
  refine (lawEdge (eAC 2) w4).mono ?_
  rintro e w5 ⟨rfl, hb5⟩
  have nm6 := (nm4.go hb5).alloc (.cells (edA (eAC 2)) 47)
  have cm := deMerge (c1 := c2) (c2 := 1) (n1 := exO.length) (n2 := 1) exO [eAC 2] _ nm6.r (rd_eds1 w5 (eAC 2)) rfl rfl (Nat.le_refl _) (by decide) (by omega)
  rw [nmM] at cm
  have CM := Lib.hid cm
  have N6 := Lib.hid nm6
  clear nm4 hb5 nm6 cm
  go_wp2_with fail
  refine CM.out.mono ?_
  rintro e w7 ⟨A7, c7, rfl, own7, hb7⟩
  have nm7 := N6.out.go hb7
  have u7 : RbD w7 w7.heap.size A7 [eAB 0 1, eAC 2, eAB 1 1] := Rd.of_own own7
  clear CM N6 hb7 own7
  go_wp2_with fail
  refine (lawEdge (eAB 0 1) w7).mono ?_
  rintro e w8 ⟨rfl, hb8⟩
  have nm8 := nm7.go hb8
  have u8 := Rd.belowS u7 hb8
  clear nm7 u7 hb8
  go_wp2_with fail
  refine (lawEdge (eBC 1) w8).mono ?_
  rintro e w9 ⟨rfl, hb9⟩
  have nm10 := (nm8.go hb9).alloc (.cells (edA (eAB 0 1) ++ edA (eBC 1)) 47)
  have u10 := Rd.belowS u8 (hb9.alloc hb9.size (.cells (edA (eAB 0 1) ++ edA (eBC 1)) 47))
  have cc := deCalls (c := 2) (n := 2) [eAB 0 1, eBC 1] ⟨#[97]⟩ _ (rd_eds2 w9 (eAB 0 1) (eBC 1)) rfl (Nat.le_refl _) (by omega)
  have N10 := Lib.hid nm10
  have U10 := Lib.hid u10
  have CC := Lib.hid cc
  clear nm8 u8 hb9 nm10 u10 cc
  go_wp2_with fail
  refine CC.out.mono ?_
  rintro e w11 (⟨h1, -⟩ | ⟨-, A11, c11, out, his, rfl, own11, hb11⟩)
  · exact absurd nmC0 h1
  obtain rfl := his.eq nmC
  have nm11 := N10.out.go hb11
  have u11 := Rd.belowS U10.out hb11
  have v11 : Rd w11 w11.heap.size A11 (([⟨#[98]⟩, ⟨#[99]⟩] : List ByteArray).map strV) := Rd.of_own own11
  clear CC N10 U10 his hb11 own11
  go_wp2_with fail
  refine (deLives w11).mono ?_
  rintro e w12 ⟨rfl, hb12⟩
  have nm12 := nm11.go hb12
  have u12 := Rd.belowS u11 hb12
  have v12 := Rd.belowS v11 hb12
  clear nm11 u11 v11 hb12
  go_wp2_with fail
  refine (lawEdge (eAB 0 2) w12).mono ?_
  rintro e w13 ⟨rfl, hb13⟩
  have hal := hb13.alloc hb13.size (.cells (edA (eAB 0 2)) 47)
  have nm14 := nm12.go hal
  have u14 := Rd.belowS u12 hal
  have v14 := Rd.belowS v12 hal
  have s1 := kitSameEds (c := c3) (c' := 1) (n := 1) (n' := 1) [eAB 0 2] [eAB 0 2] _ nm14.s (rd_eds1 w13 (eAB 0 2)) rfl rfl (by omega)
  rw [decide_eq_true rfl] at s1
  have S1 := Lib.hid s1
  have N14 := Lib.hid nm14
  have U14 := Lib.hid u14
  have V14 := Lib.hid v14
  clear nm12 u12 v12 hb13 hal nm14 u14 v14 s1
  go_wp2_with fail
  refine S1.out.mono ?_
  rintro e w' ⟨rfl, d1, rfl⟩
  have nm15 := N14.out.drewN d1
  have u15 := Rd.belowS U14.out (below_drewN (Below.refl _ _) d1)
  have v15 := Rd.belowS V14.out (below_drewN (Below.refl _ _) d1)
  obtain ⟨w15, hw15⟩ : ∃ k, (w13.alloc (.cells (edA (eAB 0 2)) 47)).drewN d1 = k := ⟨_, rfl⟩
  rw [hw15] at nm15 u15 v15 ⊢
  clear hw15 S1 N14 U14 V14
  go_wp2_with fail
  refine (lawEdge (eAB 0 1) w15).mono ?_
  rintro e w16 ⟨rfl, hb16⟩
  have hal := hb16.alloc hb16.size (.cells (edA (eAB 0 1)) 47)
  have nm17 := nm15.go hal
  have u17 := Rd.belowS u15 hal
  have v17 := Rd.belowS v15 hal
  have s1 := kitSameEds (c := c4) (c' := 1) (n := 1) (n' := 1) [eAB 0 1] [eAB 0 1] _ nm17.t (rd_eds1 w16 (eAB 0 1)) rfl rfl (by omega)
  rw [decide_eq_true rfl] at s1
  have S1 := Lib.hid s1
  have N17 := Lib.hid nm17
  have U17 := Lib.hid u17
  have V17 := Lib.hid v17
  clear nm15 u15 v15 hb16 hal nm17 u17 v17 s1
  go_wp2_with fail
  refine S1.out.mono ?_
  rintro e w' ⟨rfl, d2, rfl⟩
  have nm18 := N17.out.drewN d2
  have u18 := Rd.belowS U17.out (below_drewN (Below.refl _ _) d2)
  have v18 := Rd.belowS V17.out (below_drewN (Below.refl _ _) d2)
  obtain ⟨w18, hw18⟩ : ∃ k, (w16.alloc (.cells (edA (eAB 0 1)) 47)).drewN d2 = k := ⟨_, rfl⟩
  rw [hw18] at nm18 u18 v18 ⊢
  clear hw18 S1 N17 U17 V17
  go_wp2_with fail
  refine (lawEdge (eAB 0 1) w18).mono ?_
  rintro e w19 ⟨rfl, hb19⟩
  have nm19 := nm18.go hb19
  have u19 := Rd.belowS u18 hb19
  have v19 := Rd.belowS v18 hb19
  clear nm18 u18 v18 hb19
  go_wp2_with fail
  refine (lawEdge (eAC 2) w19).mono ?_
  rintro e w20 ⟨rfl, hb20⟩
  have nm20 := nm19.go hb20
  have u20 := Rd.belowS u19 hb20
  have v20 := Rd.belowS v19 hb20
  clear nm19 u19 v19 hb20
  go_wp2_with fail
  refine (lawEdge (eAB 1 1) w20).mono ?_
  rintro e w21 ⟨rfl, hb21⟩
  have hal := hb21.alloc hb21.size (.cells (edA (eAB 0 1) ++ edA (eAC 2) ++ edA (eAB 1 1)) 47)
  have nm22 := nm20.go hal
  have u22 := Rd.belowS u20 hal
  have v22 := Rd.belowS v20 hal
  have s1 := kitSameEds (c := c7) (c' := 3) (n := 3) (n' := 3) [eAB 0 1, eAC 2, eAB 1 1] [eAB 0 1, eAC 2, eAB 1 1] _ u22 (rd_eds3 w21 (eAB 0 1) (eAC 2) (eAB 1 1)) rfl rfl (by omega)
  rw [decide_eq_true rfl] at s1
  have S1 := Lib.hid s1
  have N22 := Lib.hid nm22
  have V22 := Lib.hid v22
  clear nm20 u20 v20 hb21 hal nm22 u22 v22 s1
  go_wp2_with fail
  refine S1.out.mono ?_
  rintro e w' ⟨rfl, d3, rfl⟩
  have nm23 := N22.out.drewN d3
  have v23 := Rd.belowS V22.out (below_drewN (Below.refl _ _) d3)
  obtain ⟨w23, hw23⟩ : ∃ k, (w21.alloc (.cells (edA (eAB 0 1) ++ edA (eAC 2) ++ edA (eAB 1 1)) 47)).drewN d3 = k := ⟨_, rfl⟩
  rw [hw23] at nm23 v23 ⊢
  clear hw23 S1 N22 V22
  have hal := (Below.refl w23.heap.size w23).alloc (Nat.le_refl _) (.cells #[.string ⟨#[98]⟩, .string ⟨#[99]⟩] 9)
  have nm24 := nm23.go hal
  have v24 := Rd.belowS v23 hal
  have x24 : Rd (w23.alloc (.cells #[.string ⟨#[98]⟩, .string ⟨#[99]⟩] 9)) (w23.heap.size + 1) (some ⟨w23.heap.size, 0, none⟩) (([⟨#[98]⟩, ⟨#[99]⟩] : List ByteArray).map strV) := Rd.lit w23 #[.string ⟨#[98]⟩, .string ⟨#[99]⟩] 9
  have s1 := kitSameStrs (c := c11) (c' := 2) (n := 2) [⟨#[98]⟩, ⟨#[99]⟩] _ v24 x24 rfl (by omega)
  have S1 := Lib.hid s1
  have N24 := Lib.hid nm24
  clear nm23 v23 hal nm24 v24 x24 s1
  go_wp2_with fail
  refine S1.out.mono ?_
  rintro e w' ⟨rfl, d4, rfl⟩
  have hfin := (N24.out.drewN d4).b
  go_wp2_with fail
  go_ret
  exact ⟨rfl, hfin⟩
end Go.Proofs.Ythaiplhjekkooaa

/- What comes in: what each statement's row asks. -/
namespace Go.Proofs.Ythaiplhjekkooaa
open Go.ChangeShapes Go.WideShapes Go.ChangeAt Go.RowKit

theorem ownKnob_none : ownKnob Try.prog.godebug = none := by kernel_rfl
theorem laidOut : laidOutB Try.prog = true := by kernel_rfl

end Go.Proofs.Ythaiplhjekkooaa

/- The statement DepsNames, out of its walk. -/
namespace Go.Proofs.Ythaiplhjekkooaa
open Go.ChangeShapes Go.WideShapes Go.ChangeAt Go.RowKit
open Go.ChangeMaps (open_string shut_string)

set_option maxRecDepth 100000 in
theorem depsNames_lifted (os : Os) (started : os.Started) (H : Type) (enc : TypeId × Value → H) :
    ReturnsInHanded {} Try.checked os 6 .any (Rows.depsNamesSpec.pre6 enc Try.prog Try.f6 Rows.depsNamesRow.domain false) (Rows.depsNamesSpec.post enc Try.prog Try.f6 false true false false) := by
  refine returnsInHanded_of_change (C := Try.checked) ownKnob_none started (by kernel_rfl) Try.func6
    (ChangeSpec.witness6 (enc := enc) (C := Try.checked) false ⟨#[], #[], []⟩ 8 (by kernel_rfl) (by kernel_rfl) (by kernel_rfl) (by kernel_rfl)) ?_
  intro W base args ds gs before hval0 hW _ _
  have hval : ∀ (j : Nat) t v, Try.f6.params[j]? = some t → args[j]? = some v → Value.okWide Try.prog W .any base t v := hval0
  have hW' := hW
  obtain ⟨p, q, hA0, hV, rfl, hfz, hnd⟩ := hW
  have hA : DataW.TrodAll enc Try.prog W 0 (fun _ => true) true Try.f6.params.toList args.toList ds p := hA0
  rw [Try.params6] at hA hval
  obtain ⟨hargs, rfl, rfl⟩ := trodAll_nil hA
  obtain rfl : args = #[] := by cases args; simp_all
  obtain ⟨rfl, rfl⟩ := trodVars_none hV
  clear hA0 hval0
  refine (depsNames_walk  W ).mono fun e W' ⟨he, bel⟩ => ?_
  subst he
  exact ⟨_, rfl, _, _, _, [], _, [], hW', trodAll_mk1 (shut_bool Try.underlying4 _), trodAll_mk0, rfl, bel.frame _, fun h => by cases h⟩

/-- DepsNames: for every input the law returns true, and what came in reads as it did. -/
theorem depsNames_holds : Rows.DepsNamesSaid :=
  OpenClaim.holds_of_wide 6 Try.f6 rfl rfl rfl rfl rfl rfl rfl ⟨rfl, rfl, rfl, rfl, rfl⟩ rfl rfl rfl rfl rfl (by kernel_rfl) Try.func6 (by kernel_rfl)
    (of_decide_eq_true (by kernel_rfl)) (by unfold Func.isWrapper; first | (rw [if_pos (by decide +kernel)]; kernel_rfl) | (rw [if_neg (by decide +kernel)]; exact ⟨rfl, rfl⟩))
    (fun os started H enc _ => depsNames_lifted os started H enc)
#print axioms depsNames_holds
end Go.Proofs.Ythaiplhjekkooaa
