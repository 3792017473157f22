/- block.Append, Size. -/
import Derived.Deep.Cut
import Derived.Test.YtleghbdkjdpilaaBkP
namespace Go.Proofs.Ytleghbdkjdpilaa
open Go.RowKit
theorem loadEn_shutB (a : Addr) : loadVar 29 a = loadK 29 a := rfl
attribute [local go_sem ↓] loadEn_shutB

theorem blkClip0 (w : World) : Calls Try.prog 27 #[.slice none 0 0] w fun e w' => e = .returned (.slice none 0 0) ∧ w' = w := by
  go_enter Try.func27, Try.ntmps27
  go_wp2
  go_ret
  exact ⟨rfl, rfl⟩
theorem blkSize {A : Option Addr} {n c B : Nat} (l : List BE) (w : World) (h : RbE w B A l) (hn : l.length = n) (hB : B ≤ w.heap.size) (hnl : n ≤ 1000000) (hf : ∀ e ∈ l, e.x.Fine) :
    Calls Try.prog 17 #[.slice A n c] w fun e w' => e = .returned (.int .i64 ((blk (ens l)).length : Nat)) ∧ Below w.heap.size w w' := by
  have hc := blkPut (c := c) l w h hn hB hnl hf
  have HC := Lib.hid hc
  clear hc h hn hf
  go_enter Try.func17, Try.ntmps17
  go_wp2_with (go_at_call 26; refine HC.out.mono ?_; rintro e w' ⟨A', c', rfl, hn'⟩)
  go_ret
  exact ⟨rfl, hn'.bel⟩
theorem enErr_snoc (x : En) : ∀ (l : List En), enErr (l ++ [x]) = if enErr l ≠ 0 then enErr l else enChk x
  | [] => by
    by_cases h : enChk x = 0 <;> simp [enErr, h]
  | y :: l => by
    have ih := enErr_snoc x l
    by_cases h : enChk y = 0
    · simp [enErr, h, ih]
    · simp [enErr, h]
theorem enErr_app (b : List En) : ∀ (a : List En), enErr (a ++ b) = if enErr a ≠ 0 then enErr a else enErr b
  | [] => rfl
  | y :: l => by
    have ih := enErr_app b l
    by_cases h : enChk y = 0
    · simp [enErr, h, ih]
    · simp [enErr, h]
/-- A byte slice and an error that a call has made. -/
def BytErr (w : World) (r : List Int × Nat) (e : Ending) (w' : World) : Prop := ∃ A c, e = .returned (.tuple #[.slice A r.1.length c, .int .i64 r.2]) ∧ BytNew w r.1 A c w'
theorem BytErr.no {w w' : World} {q : Nat} (hb : Below w.heap.size w w') : BytErr w ([], q) (.returned (.tuple #[.slice none 0 0, .int .i64 q])) w' :=
  ⟨none, 0, rfl, Rd.nil, hb, Nat.le_refl _, fun _ => rfl, fun a h => by cases h⟩
/-- The same, and the row is the call's own. -/
def BytErrO (w : World) (r : List Int × Nat) (e : Ending) (w' : World) : Prop := ∃ A c, e = .returned (.tuple #[.slice A r.1.length c, .int .i64 r.2]) ∧ BytNew w r.1 A c w' ∧ w'.ownsRow w.heap.size 5 1 (.slice A r.1.length c) r.1.length (bv r.1)
theorem BytErrO.no {w w' : World} {q : Nat} (hb : Below w.heap.size w w') : BytErrO w ([], q) (.returned (.tuple #[.slice none 0 0, .int .i64 q])) w' :=
  ⟨none, 0, rfl, ⟨Rd.nil, hb, Nat.le_refl _, fun _ => rfl, fun a h => by cases h⟩, World.ownsRow_nil _ _ _ _⟩
theorem own_base {w : World} {b b' size n : Nat} {e : TypeId} {v : Value} {xs : List Value} (h : w.ownsRow b e size v n xs) (hb : b' ≤ b) : w.ownsRow b' e size v n xs :=
  ⟨h.1, h.2.imp id fun ⟨g, cap, cur, h1, h2, h3⟩ => ⟨g, cap, cur, h1, Nat.le_trans hb h2, h3⟩⟩
set_option maxRecDepth 100000 in
set_option maxHeartbeats 4000000 in
theorem blkAppendO {A : Option Addr} {n c B : Nat} (l : List BE) (w : World) (h : RbE w B A l) (hn : l.length = n) (hB : B ≤ w.heap.size) (hnl : n ≤ 1000000) :
    Calls Try.prog 11 #[.slice none 0 0, .slice A n c] w (BytErrO w (blkOut (ens l))) := by
  have HN := Lib.hid hn
  have HH := Lib.hid h
  clear hn h
  go_enter Try.func11, Try.ntmps11
  go_wp2_with fail
  go_loopw [12] (fun iv_ wr => ∃ j : Nat, j ≤ n ∧ iv_ = .int .i64 j ∧ enErr ((ens l).take j) = 0 ∧ Below w.heap.size w wr) (fun i _ => n - (intOf i).toNat)
  case atStart => exact ⟨0, by omega, rfl, rfl, Below.refl _ _⟩
  case round =>
    obtain ⟨j, hj, rfl, he, hbr⟩ := hrel
    by_cases hlt : j < n
    · have hlt' : (j : Int) < (n : Int) := by omega
      obtain ⟨x, hx⟩ : ∃ x, l[j]? = some x := ⟨_, List.getElem?_eq_getElem (by rw [HN.out]; exact hlt)⟩
      obtain ⟨b, o, e', hbb, hc, hok⟩ := (HH.out.below (hbr.mono hB)).get hx
      cases e'
      have la := loadK_be hc
      have hal : Below wr.heap.size wr (wr.alloc (.cells (beA x) 29)) := (Below.refl _ wr).alloc (Nat.le_refl _) _
      have bk := Bk.new wr 29 (beA x)
      obtain ⟨W1, hW1⟩ : ∃ W1, wr.alloc (.cells (beA x) 29) = W1 := ⟨_, rfl⟩
      rw [hW1] at hal bk
      have lb := loadK_beB bk
      obtain ⟨g, hg⟩ : ∃ g, wr.heap.size = g := ⟨_, rfl⟩
      rw [hg] at lb
      have cc := batCheckEntry (A1 := x.A1) (c1 := x.c1) (A2 := x.A2) (c2 := x.c2) x.x W1 rfl rfl
      obtain ⟨r, hr⟩ : ∃ r, enChk x.x = r := ⟨_, rfl⟩
      rw [hr] at cc
      have htk := take_snoc (ens_get hx)
      have HTK := Lib.hid htk
      have CC := Lib.hid cc
      have HR := Lib.hid hr
      have HW := Lib.hid hW1
      have HG := Lib.hid hg
      have HX := Lib.hid hx
      have hbr1 := hbr.trans (hal.mono hbr.size)
      clear htk cc hr hW1 hg hx hc hok bk
      go_upto_region 4 with fail
      rw [HW.out, HG.out]
      by_cases hr0 : r = 0
      · subst hr0
        go_wp2_with (go_at_call 24; refine CC.out.mono ?_; rintro e3 w3 ⟨rfl, hb3⟩)
        exact ⟨⟨j + 1, by omega, by simp, by rw [HTK.out, enErr_snoc, he, HR.out]; rfl, hbr1.trans (hb3.mono hbr1.size)⟩, by simp only [intOf]; omega⟩
      · have hrb : ((r : Int) == 0) = false := by rw [beq_eq_false_iff_ne]; omega
        have hwo : blkOut (ens l) = ([], r) := by
          have e1 : enErr (ens l) = r := by
            have h := enErr_app ((ens l).drop (j + 1)) ((ens l).take (j + 1))
            rw [List.take_append_drop, HTK.out, enErr_snoc, he, HR.out] at h
            simpa [hr0] using h
          rw [blkOut, e1, if_pos hr0]
        have HWO := Lib.hid hwo
        clear hwo hr0
        go_wp2_with (go_at_call 24; refine CC.out.mono ?_; rintro e3 w3 ⟨rfl, hb3⟩)
        go_ret2
        rw [HWO.out]
        exact BytErrO.no (hbr1.trans (hb3.mono hbr1.size))
    · have hjn : j = n := by omega
      subst hjn
      have hel : (ens l).length = j := by rw [List.length_map, HN.out]
      have htk : (ens l).take j = ens l := List.take_of_length_le (by rw [hel]; exact Nat.le_refl _)
      rw [htk] at he
      have hfine : ∀ e ∈ l, e.x.Fine := fun e h => enErr_zero he e.x (List.mem_map.2 ⟨e, h, rfl⟩)
      have hrb := HH.out.below (hbr.mono hB)
      have hBr : B ≤ wr.heap.size := Nat.le_trans hB hbr.size
      have cr := blkRising (c := c) l wr hrb HN.out hBr (by omega)
      obtain ⟨q, hq⟩ : ∃ q, risB (ens l) = q := ⟨_, rfl⟩
      rw [hq] at cr
      have CR := Lib.hid cr
      have HQ := Lib.hid hq
      have HE := Lib.hid he
      have HEL := Lib.hid hel
      have HF := Lib.hid hfine
      have HRB := Lib.hid hrb
      clear cr hq he hel htk hfine hrb
      by_cases h0 : j = 0
      · subst h0
        have hwo : blkOut (ens l) = ([], 2) := by
          have : ens l = [] := List.eq_nil_of_length_eq_zero HEL.out
          rw [blkOut, HE.out, if_neg (by simp), if_pos (.inl this)]
        have HWO := Lib.hid hwo
        clear hwo
        go_wp2_with fail
        go_ret2
        rw [HWO.out]
        exact BytErrO.no hbr
      · have h0b : ((j : Int) == 0) = false := by rw [beq_eq_false_iff_ne]; omega
        have hne : ¬ (ens l = []) := fun e => by have := HEL.out; rw [e] at this; simp at this; omega
        have HNE := Lib.hid hne
        clear hne h0
        cases q with
        | false =>
          have hwo : blkOut (ens l) = ([], 2) := by rw [blkOut, HE.out, if_neg (by simp), if_pos (.inr HQ.out)]
          have HWO := Lib.hid hwo
          clear hwo
          go_wp2_with (go_at_call 25; refine CR.out.mono ?_; rintro e3 w3 ⟨rfl, hb3⟩)
          go_ret2
          rw [HWO.out]
          exact BytErrO.no (hbr.trans (hb3.mono hbr.size))
        | true =>
          have hwo : blkOut (ens l) = if 262144 < (blk (ens l)).length then ([], 3) else (blk (ens l), 0) := by
            rw [blkOut, HE.out, if_neg (by simp), if_neg (by
              rintro (h | h)
              · exact HNE.out h
              · rw [HQ.out] at h; cases h)]
          have HWO := Lib.hid hwo
          clear hwo
          go_upto_region 10 with (go_at_call 25; refine CR.out.mono ?_; rintro e3 w3 ⟨rfl, hb3⟩)
          have hbr3 := hbr.trans (hb3.mono hbr.size)
          have cp := blkPut (c := c) l w3 (HRB.out.below (hb3.mono hBr)) HN.out (Nat.le_trans hBr hb3.size) (by omega) HF.out
          obtain ⟨bs, hbs⟩ : ∃ bs, blk (ens l) = bs := ⟨_, rfl⟩
          rw [hbs] at cp
          have HWO2 : Hid (blkOut (ens l) = if 262144 < bs.length then ([], 3) else (bs, 0)) := by rw [HWO.out, hbs]; exact Lib.hid rfl
          have CP := Lib.hid cp
          clear cp hbs hb3
          go_upto_region 11 with (go_at_call 26; refine CP.out.mono ?_; rintro e4 v4 ⟨A4, c4, rfl, hn4⟩)
          have hbr4 := hbr3.trans (hn4.bel.mono hbr3.size)
          by_cases hbig : 262144 < bs.length
          · have hd : decide ((262144 : Int) < (bs.length : Int)) = true := by simp; omega
            have HBIG := Lib.hid hbig
            clear hbig
            go_wp2_with fail
            go_ret2
            rw [HWO2.out, if_pos HBIG.out]
            exact BytErrO.no hbr4
          · have hd : decide ((262144 : Int) < (bs.length : Int)) = false := by simp; omega
            have HBIG := Lib.hid hbig
            have hbl : bs.length ≤ 262144 := by omega
            have hr4 := hn4.rd
            clear hbig
            go_wp2_with (first
              | (go_at_call 27; refine (blkClip0 _).mono ?_; rintro e5 w5 ⟨rfl, rfl⟩)
              | (at_builtin; go_loud (refine wpList_appb _ rfl (.tmp 36) (.tmp 37) rfl w5.heap.size _ 0 [] rfl (World.ownsRow_nil _ _ _ _) _ _ bs.length c4 bs rfl rfl hr4 (by omega) (Nat.le_refl _) ?_); intro A6 c6 w6 happ6 _))
            go_ret2
            rw [HWO2.out, if_neg HBIG.out]
            simp only [Nat.zero_add, List.nil_append] at happ6
            have hn6 : BytNew w5 bs A6 c6 w6 := BytNew.of ⟨ownsT.of happ6.own, happ6.grown, happ6.block⟩
            exact ⟨A6, c6, by simp, ⟨hn6.rd, hbr4.trans (hn6.bel.mono hbr4.size), hn6.cap, hn6.nil, fun a ha => Nat.le_trans hbr4.size (hn6.new a ha)⟩, own_base happ6.own hbr4.size⟩
theorem blkAppend {A : Option Addr} {n c B : Nat} (l : List BE) (w : World) (h : RbE w B A l) (hn : l.length = n) (hB : B ≤ w.heap.size) (hnl : n ≤ 1000000) :
    Calls Try.prog 11 #[.slice none 0 0, .slice A n c] w (BytErr w (blkOut (ens l))) := by
  refine (blkAppendO l w h hn hB hnl).mono ?_
  rintro e w' ⟨A', c', he, hn', -⟩
  exact ⟨A', c', he, hn'⟩
end Go.Proofs.Ytleghbdkjdpilaa
