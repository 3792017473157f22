/- deps: list. -/
import Derived.Test.YthaiplhjekkooaaDeC
import Derived.Test.YthaiplhjekkooaaDeG
import Derived.Test.YthaiplhjekkooaaDeI
import Derived.Test.YthaiplhjekkooaaDeL
namespace Go.Proofs.Ythaiplhjekkooaa
open Go.RowKit Go.MapKept
theorem loadEk_shutJ (a : Addr) : loadVar 71 a = loadK 71 a := rfl
attribute [local go_sem ↓] loadEk_shutJ

def sliceN : Value → Nat
  | .slice _ n _ => n
  | _ => 0
theorem rgOut_length {κ ν : Type} {kv : κ → Value} {vv : ν → Value} {w : World} {b r : Nat} {L : List (κ × ν)} {seen : Array Nat} (h : Rg kv vv w b r L seen) : (rgOut L seen).length = seen.size := by
  have : ∀ s : List Nat, (∀ i ∈ s, i < L.length) → (s.filterMap fun i => L[i]?).length = s.length := by
    intro s
    induction s with
    | nil => intro _; rfl
    | cons i s ih =>
      intro hs
      have hi := hs i (List.mem_cons_self ..)
      rw [List.filterMap_cons, List.getElem?_eq_getElem hi]
      simp only [List.length_cons]
      rw [ih (fun j hj => hs j (List.mem_cons_of_mem _ hj))]
  rw [rgOut, this _ h.lt]
  simp
def ListPost (w : World) (L : List (Ek × Nat)) (e : Ending) (w' : World) : Prop :=
  (∃ p ∈ L, 4611686018427387904 < p.2) ∧ e = .returned (.tuple #[.slice none 0 0, .bool false]) ∧ Below w.heap.size w w' ∨
  (∀ p ∈ L, p.2 ≤ 4611686018427387904) ∧ ∃ A c n l, l.Perm (L.map mkEd) ∧ SortEd l ∧ l.length = n ∧ e = .returned (.tuple #[.slice A n c, .bool true]) ∧ w'.ownsRow w.heap.size 47 4 (.slice A n c) n (eds l) ∧ Below w.heap.size w w'
theorem own_baseJ {w : World} {b b' size n : Nat} {e : TypeId} {v : Value} {xs : List Value} (h : w.ownsRow b e size v n xs) (hb : b' ≤ b) : w.ownsRow b' e size v n xs :=
  ⟨h.1, h.2.imp id fun ⟨g, cap, cur, h1, h2, h3⟩ => ⟨g, cap, cur, h1, Nat.le_trans hb h2, h3⟩⟩
theorem below_grownJ {w w' : World} {k : Option Nat} {B : Nat} (hg : w.grownBy w' k) (hB : B ≤ w.heap.size) (hk : ∀ j, k = some j → B ≤ j) : Below B w w' :=
  ⟨hg.os, hg.tape, hg.output, hg.size, fun i hi => hg.block i (Nat.lt_of_lt_of_le hi hB) (fun e => by have := hk i e.symm; omega)⟩
set_option maxRecDepth 100000 in
set_option maxHeartbeats 4000000 in
theorem deList {b : Nat} {L : List (Ek × Nat)} (w : World) (h : Mg ekV uvV w b L) (hL : L.length ≤ 100000) :
    Calls Try.prog 36 #[.map (some b)] w (ListPost w L) := by
  have hrg := run_mgRange (P := Try.prog) Try.underlying67 h
  have rg0 := Rg.start h
  have hb0 : Below w.heap.size w (w.alloc (.mapIter (some b) L.length #[] L.length)) := (Below.refl _ w).alloc (Nat.le_refl _) _
  have own0 : (w.alloc (.mapIter (some b) L.length #[] L.length)).ownsRow (w.heap.size + 1) 47 4 (.slice none 0 0) 0 [] := World.ownsRow_nil _ _ _ _
  obtain ⟨w1, hw1⟩ : ∃ w1, w.alloc (.mapIter (some b) L.length #[] L.length) = w1 := ⟨_, rfl⟩
  obtain ⟨r, hr⟩ : ∃ r, w.heap.size = r := ⟨_, rfl⟩
  rw [hw1] at hrg rg0 hb0 own0
  rw [hr] at hrg rg0 hb0 own0
  have hbr : b < r := by rw [← hr]; exact h.lt
  have HP := Lib.hid (show ListPost w L = ListPost w L from rfl)
  have HR := Lib.hid hr
  clear hw1 hr h
  go_enter Try.func36, Try.ntmps36
  go_wp2_with fail
  go_loopw [4] (fun out_ wr => ∃ (seen : Array Nat) (m c' : Nat) (A' : Option Addr), out_ = .slice A' m c' ∧ m ≤ L.length ∧ seen.size = m ∧ Rg ekV uvV wr b r L seen ∧ (∀ p ∈ rgOut L seen, p.2 ≤ 4611686018427387904) ∧ wr.ownsRow (r + 1) 47 4 (.slice A' m c') m (eds ((rgOut L seen).map mkEd)) ∧ Below r w wr) (fun out_ _ => L.length - sliceN out_)
  case atStart => exact ⟨#[], 0, 0, none, rfl, Nat.zero_le _, rfl, rg0, (fun p hp => by cases hp), own0, hb0⟩
  case round =>
    obtain ⟨seen, m, c', A', rfl, hm, hsm, hrgw, hall, hown, hbw⟩ := hrel
    rcases hrgw.next (P := Try.prog) 0 with ⟨hperm, hrun⟩ | ⟨k, v, seen', w2, hkv, hrun, hrg2, hout, hsz, hszl, hgr, hhs, hent⟩
    · have hnx : ∀ ty, (Instr.next (.pointer (some ⟨r, 0, none⟩)) false ty).run Try.prog wr = _ := fun _ => hrun
      clear hrun
      have hlen : ((rgOut L seen).map mkEd).length = m := by rw [List.length_map, rgOut_length hrgw, hsm]
      have hso := sortEds wr hown hlen (by omega)
      have hpm := hperm.map mkEd
      have hal : ∀ p ∈ L, p.2 ≤ 4611686018427387904 := fun p hp => hall p (hperm.mem_iff.2 hp)
      have HPM := Lib.hid hpm
      have HAL := Lib.hid hal
      have HBW := Lib.hid hbw
      have HLT := Lib.hid (World.ownsRow.lt hown)
      have HLE := Lib.hid hlen
      clear hpm hal hperm hall hown hbw hlen hrgw
      go_wp2_with fail
      refine hso.mono ?_
      rintro en w3 ⟨rfl, l', hp', hs', hown', hgr'⟩
      go_wp2_with fail
      go_ret2
      refine .inr ⟨HAL.out, A', c', m, l', hp'.trans HPM.out, hs', by rw [hp'.length_eq, HLE.out], rfl, own_baseJ (by rw [HR.out]; exact hown') (Nat.le_succ _), ?_⟩
      rw [HR.out]
      exact HBW.out.trans (below_grownJ hgr' (Nat.le_trans (by have := HR.out; omega) HBW.out.size) (fun j hj => by have := (HLT.out j hj).1; omega))
    · have hnx : ∀ ty, (Instr.next (.pointer (some ⟨r, 0, none⟩)) false ty).run Try.prog wr = _ := fun _ => hrun
      have hen := hent w2 hrg2
      clear hrun
      by_cases hv : 4611686018427387904 < v
      · have hv' : (4611686018427387904 : Int) < (v : Int) := by omega
        have hb2 : Below r w w2 := hbw.trans (below_grownJ hgr (Nat.le_trans (by have := HR.out; omega) hbw.size) (fun j hj => by have := Option.some.inj hj; omega))
        have HB2 := Lib.hid (hb2.alloc (by have := hb2.size; have := HR.out; omega) (.cells (ekA k) 71))
        have HKV := Lib.hid hkv
        clear hb2 hkv hbw hgr hall hown hrgw hrg2 hent hhs
        go_wp2_with fail
        go_ret2
        exact .inl ⟨⟨(k, v), HKV.out, hv⟩, rfl, by rw [HR.out]; exact HB2.out⟩
      · have hv' : decide ((4611686018427387904 : Int) < (v : Int)) = false := by simp; omega
        have hb2 : Below r w w2 := hbw.trans (below_grownJ hgr (Nat.le_trans (by have := HR.out; omega) hbw.size) (fun j hj => by have := Option.some.inj hj; omega))
        have hb3 := hb2.alloc (by have := hb2.size; have := HR.out; omega) (.cells (ekA k) 71)
        have own2 := World.ownsRow.kept hown hgr (.inr fun e => by have := ((World.ownsRow.lt hown) r e).1; omega)
        have own3 := (own2.alloc (.cells (ekA k) 71)).alloc (.cells (edA (mkEd (k, v))) 47)
        have rg3 := hrg2.bS ((Below.refl w2.heap.size w2).alloc (Nat.le_refl _) (.cells (ekA k) 71))
        have hb4 := hb3.alloc (by have := hb3.size; have := HR.out; omega) (.cells (edA (mkEd (k, v))) 47)
        obtain ⟨W3, hW3⟩ : ∃ W3, w2.alloc (.cells (ekA k) 71) = W3 := ⟨_, rfl⟩
        have hW3s : W3.heap.size = w2.heap.size + 1 := by rw [← hW3]; simp
        rw [hW3] at own3 rg3 hb4
        have rg4 := rg3.bS ((Below.refl W3.heap.size W3).alloc (Nat.le_refl _) (.cells (edA (mkEd (k, v))) 47))
        have hrr := hrg2.ltr
        have hrd := Rd.lit W3 (edA (mkEd (k, v))) 47
        rw [hW3s] at hrd
        have HAL2 := Lib.hid (show ∀ p ∈ rgOut L seen', p.2 ≤ 4611686018427387904 from fun p hp => by
          rw [hout] at hp
          rcases List.mem_append.1 hp with hp | hp
          · exact hall p hp
          · simp at hp
            subst hp
            exact Nat.le_of_not_lt hv)
        have HOUT := Lib.hid (show (rgOut L seen').map mkEd = (rgOut L seen).map mkEd ++ [mkEd (k, v)] by rw [hout, List.map_append]; rfl)
        have HW3 := Lib.hid hW3
        have HB4 := Lib.hid hb4
        have HLT := Lib.hid (World.ownsRow.lt own3)
        have HRG := Lib.hid rg4
        have HO3 := Lib.hid own3
        have HRD := Lib.hid hrd
        clear hhs hW3 hb2 hb3 hb4 own2 rg3 rg4 hall hout hown hrgw hent hgr hbw own3 hrd hrg2 hkv
        go_wp2_with (at_builtin; go_loud (rw [HW3.out]; refine wpList_appD _ rfl (.tmp 16) (.tmp 25) rfl (r + 1) _ m ((rgOut L seen).map mkEd) rfl HO3.out _ (some ⟨w2.heap.size + 1, 0, none⟩) 1 1 [mkEd (k, v)] rfl rfl HRD.out (by omega) (by simp; omega) ?_))
        intro A5 c5 w5 hap _
        go_wp2_with fail
        have hb5 : Below r w w5 := HB4.out.trans (hap.below (by simp; omega) (fun j hj => by have := (HLT.out j hj).1; omega))
        exact ⟨⟨seen', m + 1, c5, A5, rfl, by omega, by omega, HRG.out.grown hap.grown (fun e => by have := (HLT.out b e.symm).1; omega) (fun e => by have := (HLT.out r e.symm).1; omega), HAL2.out, by rw [HOUT.out]; exact hap.own, hb5⟩, by simp only [sliceN]; omega⟩
end Go.Proofs.Ythaiplhjekkooaa
