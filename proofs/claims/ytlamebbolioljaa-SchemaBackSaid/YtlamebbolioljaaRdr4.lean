/- Contracts of wire's reader: Piece. -/
import Derived.Test.YtlamebbolioljaaRdr3
namespace Go.Proofs.Ytlamebbolioljaa
open Go.RowKit

def rdPiece (zs : List Int) (p e : Nat) : List Int × Nat × Nat :=
  if e ≠ 0 then ([], p, e)
  else if (shortOf (zs.drop p)).2.2 ≠ 0 then ([], p, (shortOf (zs.drop p)).2.2)
  else if 1048576 < (shortOf (zs.drop p)).1 then ([], p, 3)
  else if zs.length - (p + (shortOf (zs.drop p)).2.1) < (shortOf (zs.drop p)).1 then ([], p, 12)
  else ((zs.drop (p + (shortOf (zs.drop p)).2.1)).take (shortOf (zs.drop p)).1, p + (shortOf (zs.drop p)).2.1 + (shortOf (zs.drop p)).1, 0)
theorem BytPost.none {w w' : World} {g p e c : Nat} {A : Option Addr} {zs : List Int} (h : Rdr w' g A c zs p e) (hg : w.grownBy w' (some g)) : BytPost w g A c zs [] p e (.returned (.slice none 0 0)) w' :=
  ⟨Option.none, 0, rfl, h, hg, Rd.nil, Nat.le_refl _, (fun a ha => by cases ha), fun _ => ⟨rfl, rfl⟩⟩

set_option maxRecDepth 100000 in
set_option maxHeartbeats 1000000 in
theorem rdrPiece {A : Option Addr} {c g p e : Nat} {zs : List Int} (w : World) (h : Rdr w g A c zs p e) (he : e ≤ 100) :
    Calls Try.prog 95 #[.pointer (some ⟨g, 0, none⟩)] w (BytPost w g A c zs (rdPiece zs p e).1 (rdPiece zs p e).2.1 (rdPiece zs p e).2.2) := by
  obtain ⟨c0, c1, c2, c3, f1, f3⟩ := h.facts
  have hpos := h.pos
  have hcap := h.cap
  have hlen := h.len
  by_cases he0 : e = 0
  · subst he0
    obtain ⟨x, m, er, hs⟩ : ∃ x m er, shortOf (zs.drop p) = (x, m, er) := ⟨_, _, _, rfl⟩
    obtain ⟨hm, her, hx, herx⟩ := shortOf_drop h.byt hpos hs
    obtain ⟨res, hres⟩ : ∃ res, rdPiece zs p 0 = res := ⟨_, rfl⟩
    rw [hres]
    unfold rdPiece at hres
    rw [if_neg (by simp), hs] at hres
    simp only at hres
    have HS := Lib.hid hs
    have HX := Lib.hid hx
    have HRES := Lib.hid hres
    obtain ⟨l, hl⟩ : ∃ l : Nat, zs.length - p = l := ⟨_, rfl⟩
    have hml : m ≤ l := by omega
    have hrl := fun nd => Lib.hid (rdrLeft (w.drewN nd) (h.drewN nd))
    rw [hl] at hrl
    obtain ⟨k, hk⟩ : ∃ k : Nat, l - m = k := ⟨_, rfl⟩
    have hkk : (l : Int) - (m : Int) = (k : Int) := by omega
    have hk64 : k ≤ 140737488351232 := by omega
    have HL := Lib.hid hl
    have HK := Lib.hid hk
    clear hs hx hres hl herx hk
    go_enter Try.func95, Try.ntmps95
    go_wp2
    go_quiet ((go_at_call 105; go_loud (exact Calls.quiet_of_same (wireShort' _ HS.out (Rb.drop h.rd h.cap) (h.byt.drop p) (by rw [List.length_drop]; simp only [maxLen]; omega) (by rw [List.length_drop])))))
    generalize (if c = p then A else Option.map (fun x => x.add p) A) = A2
    by_cases her0 : er = 0
    · subst her0
      by_cases hx1 : 1048576 < x
      · have d1 : ((1048576 : Int) < (x : Int)) := by omega
        go_wp2
        go_ret
        have hr := HRES.out
        rw [if_neg (by simp), if_pos hx1] at hr
        rw [← hr]
        exact BytPost.none ((h.drewN nq).putErr 3) (only_set (only_drewN (World.grownBy.refl _ _) _) _ _)
      have d1 : decide ((1048576 : Int) < (x : Int)) = false := by simp; omega
      by_cases hx2 : k < x
      · have d2 : ((k : Int) < (x : Int)) := by omega
        go_wp2_with (first
          | (go_at_call 98; refine (hrl _).out.mono ?_; rintro e w1 ⟨rfl, nd, rfl⟩)
          | go_in)
        go_ret
        have hr := HRES.out
        rw [if_neg (by simp), if_neg hx1, if_pos (by have := HL.out; have := HK.out; omega)] at hr
        rw [← hr]
        exact BytPost.none ((h.drewN (nq + nd)).putErr 12) (only_set (only_drewN (World.grownBy.refl _ _) _) _ _)
      have d2 : decide ((k : Int) < (x : Int)) = false := by simp; omega
      go_wp2_with (first
          | (go_at_call 98; refine (hrl _).out.mono ?_; rintro e w1 ⟨rfl, nd, rfl⟩)
          | (go_at_call 97; go_in))
      rw [cast_add]
      refine (rdrFixed _ ((h.drewN (nq + nd)).putAt (p' := p + m) hm) (by omega) (by omega)).mono ?_
      have hg1 : w.grownBy ((w.drewN (nq + nd)).setCell ⟨g, 1, none⟩ (.int .i64 ((p + m : Nat) : Int))) (some g) := only_set (only_drewN (World.grownBy.refl _ _) _) _ _
      have hf : rdFix zs (p + m) 0 x = ((zs.drop (p + m)).take x, p + m + x, 0) := by
        rw [rdFix, if_neg (by simp), if_neg (by have := HL.out; have := HK.out; omega)]
      rw [hf]
      have hr := HRES.out
      rw [if_neg (by simp), if_neg hx1, if_neg (by have := HL.out; have := HK.out; omega)] at hr
      rw [hr]
      clear hr hf
      rintro en w3 ⟨A', c', rfl, hR, hg, hrd, hcp, hlo, hnil⟩
      go_wp2
      go_ret
      exact ⟨A', c', rfl, hR, grown_row hg1 hg (.inl rfl), hrd, hcp, fun a ha => Nat.le_trans hg1.size (hlo a ha), hnil⟩
    · have hne : ((er : Int) != 0) = true := by rw [bne_iff_ne]; omega
      go_wp2
      go_ret
      have hr := HRES.out
      rw [if_pos her0] at hr
      rw [← hr]
      exact BytPost.none ((h.drewN nq).putErr er) (only_set (only_drewN (World.grownBy.refl _ _) _) _ _)
  · have hne : ((e : Int) != 0) = true := by rw [bne_iff_ne]; omega
    go_enter Try.func95, Try.ntmps95
    go_wp2
    go_ret
    have hr : rdPiece zs p e = ([], p, e) := by rw [rdPiece, if_pos he0]
    rw [hr]
    exact BytPost.none h (World.grownBy.refl _ _)
end Go.Proofs.Ytlamebbolioljaa
