/- Contracts of wire's reader: Fixed, Piece. -/
import Derived.StillTailTactics
import Derived.Test.YtleghbdkjdpilaaRdr2
import Derived.Test.YtleghbdkjdpilaaClone
namespace Go.Proofs.Ytleghbdkjdpilaa
open Go.RowKit

/-- The state behind a call of Fixed: the bytes, the place, the error. -/
def rdFix (zs : List Int) (p e n : Nat) : List Int × Nat × Nat := if e ≠ 0 then ([], p, e) else if zs.length - p < n then ([], p, 12) else ((zs.drop p).take n, p + n, 0)
/-- A reader's method has handed back bytes of its own. -/
def BytPost (w : World) (g : Nat) (A : Option Addr) (c : Nat) (zs : List Int) (out : List Int) (p e : Nat) (en : Ending) (w' : World) : Prop :=
  ∃ A' c', en = .returned (.slice A' out.length c') ∧ Rdr w' g A c zs p e ∧ w.grownBy w' (some g) ∧ Rb w' w'.heap.size A' out ∧ out.length ≤ c' ∧ (∀ a, A' = some a → w.heap.size ≤ a.block) ∧ (A' = none → out = [] ∧ c' = 0)

set_option maxRecDepth 100000 in
set_option maxHeartbeats 1000000 in
theorem rdrFixed {A : Option Addr} {c g p e n : Nat} {zs : List Int} (w : World) (h : Rdr w g A c zs p e) (he : e ≤ 100) (hn : n ≤ 4611686018427387904) :
    Calls Try.prog 49 #[.pointer (some ⟨g, 0, none⟩), .int .i64 n] w (BytPost w g A c zs (rdFix zs p e n).1 (rdFix zs p e n).2.1 (rdFix zs p e n).2.2) := by
  obtain ⟨c0, c1, c2, c3, f1, f3⟩ := h.facts
  have hpos := h.pos
  have hcap := h.cap
  have hlen := h.len
  by_cases he0 : e = 0
  · subst he0
    obtain ⟨l, hl⟩ : ∃ l : Nat, zs.length - p = l := ⟨_, rfl⟩
    have hrl := rdrLeft w h
    rw [hl] at hrl
    by_cases hnl : l < n
    · have hr : rdFix zs p 0 n = ([], p, 12) := by rw [rdFix, if_neg (by simp), if_pos (by omega)]
      rw [hr]
      have d1 : ((l : Nat) : Int) < (n : Int) := by omega
      go_enter Try.func49, Try.ntmps49
      go_wp2_with (first
        | (go_at_call 31; refine hrl.mono ?_; rintro e w1 ⟨rfl, nd, rfl⟩)
        | go_in)
      go_ret
      refine ⟨none, 0, rfl, (h.drewN nd).putErr 12, only_set (only_drewN (World.grownBy.refl _ _) _) _ _, Rd.nil, Nat.le_refl _, (fun a ha => by cases ha), fun _ => ⟨rfl, rfl⟩⟩
    · have hr : rdFix zs p 0 n = ((zs.drop p).take n, p + n, 0) := by rw [rdFix, if_neg (by simp), if_neg (by omega)]
      rw [hr]
      go_enter Try.func49, Try.ntmps49
      have d1 : decide (((l : Nat) : Int) < (n : Int)) = false := by simp; omega
      go_wp2_with (first
        | (go_at_call 31; refine hrl.mono ?_; rintro e w1 ⟨rfl, nd, rfl⟩)
        | go_in)
      rw [cast_add]
      have R2 := (h.drewN nd).putAt (p' := p + n) (by omega)
      have hg2 : w.grownBy ((w.drewN nd).setCell ⟨g, 1, none⟩ (.int .i64 ((p + n : Nat) : Int))) (some g) := only_set (only_drewN (World.grownBy.refl _ _) _) _ _
      obtain ⟨W2, hW2⟩ : ∃ W2, (w.drewN nd).setCell ⟨g, 1, none⟩ (.int .i64 ((p + n : Nat) : Int)) = W2 := ⟨_, rfl⟩
      rw [hW2] at R2 hg2 ⊢
      obtain ⟨q, hq⟩ : ∃ q, p + n = q := ⟨_, rfl⟩
      rw [hq] at R2 ⊢
      have hws : w.heap.size ≤ W2.heap.size := hg2.size
      clear hW2 c0 c1 c2 c3 f1 f3
      obtain ⟨c0, c1, c2, c3, f1, f3⟩ := R2.facts
      have e1 : IntKind.i64.wrap ((q : Int) - (n : Int)) = (p : Int) := by rw [IntKind.wrap_i64]; omega
      have d2 : (p : Int) ≤ (q : Int) := by omega
      have d3 : (q : Int) ≤ (c : Int) := by omega
      have d4 : p ≤ q := by omega
      have d5 : q ≤ c := by omega
      have HL := Lib.hid hl
      have HQ := Lib.hid hq
      clear hl hq hr
      go_still_tail 18, (by kernel_rfl)
      change wpList _ _ _ _ _ W2.drew
      have hcl : ∀ (A1 : Option Addr) (m c1 : Nat), A1 = (if c = p then A else A.map (·.add p)) → m = q - p → c1 = c - p →
          Calls Try.prog 44 #[.slice A1 m c1] W2.drew (RetNew 5 1 W2.drew m (bv ((zs.drop p).take n)) (fun A' => A' = none → A1 = none)) := by
        rintro A1 m c1 rfl rfl rfl
        have hq := HQ.out
        have hl := HL.out
        have hlen' : ((zs.drop p).take n).length = q - p := by rw [List.length_take, List.length_drop]; omega
        refine bytesClone (xs := (zs.drop p).take n) W2.drew (Rb.take (Rb.drop R2.rd R2.cap) n) (Nat.le_refl _) (by rw [hlen']; omega) (fun e => ?_) hlen'
        have hA : A = none := by
          split at e
          · exact e
          · cases A with
            | none => rfl
            | some a => cases e
        have hc0 := R2.nil hA
        exact ⟨by rw [List.drop_eq_nil_of_le (by omega)]; simp, by omega⟩
      have fin : ∀ (en : Ending) (w3 : World) (A1 : Option Addr), A1 = (if c = p then A else A.map (·.add p)) → RetNew 5 1 W2.drew (q - p) (bv ((zs.drop p).take n)) (fun A' => A' = none → A1 = none) en w3 → BytPost w g A c zs ((zs.drop p).take n) (p + n) 0 en w3 := by
        rintro en w3 A1 hA1 ⟨A', c', rfl, happ, hne⟩
        have hq := HQ.out
        have hl := HL.out
        have hlen' : ((zs.drop p).take n).length = q - p := by rw [List.length_take, List.length_drop]; omega
        have hb := happ.below0
        have R3 : Rdr W2.drew g A c zs q 0 := R2.drewN 1
        refine ⟨A', c', by rw [hlen'], by rw [hq]; exact R3.below hb, ?_, happ.rd, by rw [hlen']; exact happ.cap, fun a ha => by have := happ.lo a ha; have : W2.drew.heap.size = W2.heap.size := rfl; omega, fun e => ?_⟩
        · exact ⟨hb.os.trans hg2.os, hb.tape.trans hg2.tape, hb.output.trans hg2.output, Nat.le_trans hws hb.size, fun k hk hne => (hb.block k (Nat.lt_of_lt_of_le hk hws)).trans (hg2.block k hk hne)⟩
        · subst e
          rcases happ.own.2 with ⟨h1, h2⟩ | ⟨_, _, _, h1, _⟩
          · injection h1 with _ h3 h4
            refine ⟨List.eq_nil_of_length_eq_zero (by omega), h4⟩
          · cases h1
      have HCL := Lib.hid hcl
      have FIN := Lib.hid fin
      clear hcl fin
      by_cases hcp : c = p
      · have h1 := HCL.out A (q - p) 0 (by rw [if_pos hcp]) rfl (by omega)
        have h2 := fun en w3 => FIN.out en w3 A (by rw [if_pos hcp])
        have H2 := Lib.hid h2
        clear h2
        go_wp2_with fail
        refine h1.mono ?_
        intro en w3 hpost
        have hfin := H2.out en w3 hpost
        obtain ⟨A', c', rfl, -⟩ := hpost
        go_wp2
        go_ret
        exact hfin
      · have h1 := HCL.out (A.map (·.add p)) (q - p) (c - p) (by rw [if_neg hcp]) rfl rfl
        have h2 := fun en w3 => FIN.out en w3 (A.map (·.add p)) (by rw [if_neg hcp])
        have H2 := Lib.hid h2
        clear h2
        go_wp2_with fail
        refine h1.mono ?_
        intro en w3 hpost
        have hfin := H2.out en w3 hpost
        obtain ⟨A', c', rfl, -⟩ := hpost
        go_wp2
        go_ret
        exact hfin
  · have hne : ((e : Int) != 0) = true := by rw [bne_iff_ne]; omega
    have hr : rdFix zs p e n = ([], p, e) := by rw [rdFix, if_pos he0]
    rw [hr]
    go_enter Try.func49, Try.ntmps49
    go_wp2
    go_ret
    exact ⟨none, 0, rfl, h, World.grownBy.refl _ _, Rd.nil, Nat.le_refl _, (fun a ha => by cases ha), fun _ => ⟨rfl, rfl⟩⟩
end Go.Proofs.Ytleghbdkjdpilaa
