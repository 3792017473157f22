/- Parse: the walk. -/
import Derived.Test.YtpjdlcdkldomlaaBatR
namespace Go.Proofs.Ytpjdlcdkldomlaa
open Go.RowKit

def ParPost (w : World) (zs : List Int) (en : Ending) (w' : World) : Prop :=
  Below w.heap.size w w' ∧ ∃ (seq : Nat) (Aw : Option Addr) (nw cw : Nat), en = .returned (.tuple #[.agg #[.int .u64 seq, .slice Aw nw cw], .int .i64 (parOf zs)]) ∧
    (parOf zs = 0 → seq = parSeq zs ∧ RbW w' w'.heap.size Aw (parLoop zs).2.1 ∧ (parLoop zs).2.1.length = nw)

theorem rdNum_lt {zs : List Int} (hz : Byt zs) (p e : Nat) : (rdNum zs p e).1 < 18446744073709551616 := by
  unfold rdNum
  split
  · simp
  · rcases shortOf_err (zs.drop p) with h | h | h
    · exact (shortOf_ok (hz.drop p) (y := (shortOf (zs.drop p)).1) (n := (shortOf (zs.drop p)).2.1) (by rw [← h])).2.2
    · rw [h]; simp
    · rw [h]; simp
theorem rdNum_le {zs : List Int} (hz : Byt zs) {p e : Nat} (he : e ≤ 100) : (rdNum zs p e).2.2 ≤ 100 := by
  unfold rdNum
  split
  · exact he
  · have := (shortOf_le (hz.drop p)).2
    exact Nat.le_trans this (by omega)

theorem parErr_true (zs : List Int) (seq : Nat) (acc : List Wr) (p e : Nat) : parErr zs seq (true, acc, p, e) = if (if e ≠ 0 then e else if p < zs.length then 4 else 0) ≠ 0 then (if e ≠ 0 then e else if p < zs.length then 4 else 0) else batChk seq acc := by
  unfold parErr
  rw [if_neg (by simp)]
  by_cases he : e = 0
  · subst he
    by_cases hp : p < zs.length <;> simp [hp]
  · simp [he]
theorem rdPiece_le {zs : List Int} (hz : Byt zs) {p e : Nat} (he : e ≤ 100) : (rdPiece zs p e).2.2 ≤ 100 ∧ Byt (rdPiece zs p e).1 := by
  have h12 := (shortOf_le (hz.drop p)).2
  unfold rdPiece
  repeat' split
  · exact ⟨he, fun x hx => by simp at hx⟩
  · exact ⟨Nat.le_trans h12 (by omega), fun x hx => by simp at hx⟩
  · exact ⟨by simp, fun x hx => by simp at hx⟩
  · exact ⟨by simp, fun x hx => by simp at hx⟩
  · exact ⟨by simp, (hz.drop _).take _⟩
theorem one3 (a b c : Value) (ha : a.oneCell' = true) (hb : b.oneCell' = true) (hc : c.oneCell' = true) : ∀ u ∈ [a, b, c], u.oneCell' = true := fun u hu => by
  simp only [List.mem_cons, List.not_mem_nil, or_false] at hu
  rcases hu with rfl | rfl | rfl <;> assumption
theorem rdFix1 {zs : List Int} (hz : Byt zs) {p : Nat} (hp : p ≤ zs.length) :
    ((rdFix zs p 0 1).2.2 = 0 → ∃ kd, (rdFix zs p 0 1).1 = [kd] ∧ (0 ≤ kd ∧ kd ≤ 255) ∧ p < zs.length ∧ (rdFix zs p 0 1).2.1 = p + 1) ∧ (rdFix zs p 0 1).2.2 ≤ 12 := by
  unfold rdFix
  rw [if_neg (by simp)]
  by_cases h : zs.length - p < 1
  · rw [if_pos h]; exact ⟨fun e => by simp at e, by simp⟩
  · rw [if_neg h]
    refine ⟨fun _ => ⟨zs[p]'(by omega), ?_, hz _ (List.getElem_mem _), by omega, rfl⟩, by simp⟩
    rw [List.drop_eq_getElem_cons (by omega)]
    rfl

set_option maxRecDepth 100000 in
set_option maxHeartbeats 4000000 in
theorem batParse {A0 : Option Addr} {c0 B n : Nat} {zs : List Int} (w : World) (ha : Rb w B A0 zs) (hB : B ≤ w.heap.size) (hz : Byt zs) (hl : zs.length ≤ 140737488351232) (hc : A0 = none → zs = [] ∧ c0 = 0) (hn : zs.length = n) (h1024 : (parNum zs).1 ≤ 1024) :
    Calls Try.prog 16 #[.slice A0 n c0] w (ParPost w zs) := by
  have bR := Bk.new w 36 #[.int .u64 0, .slice none 0 0]
  have hb0 : Below w.heap.size w (w.alloc (.cells #[.int .u64 0, .slice none 0 0] 36)) := (Below.refl _ w).alloc (Nat.le_refl _) _
  have hnew := rdrNew (c0 := c0) (n := n) (w.alloc (.cells #[.int .u64 0, .slice none 0 0] 36)) (ha.alloc hB _) (by simp; omega) hz hl hc hn
  have HN1 := Lib.hid h1024
  clear h1024 hc hn
  go_enter Try.func16, Try.ntmps16
  go_wp2_with fail
  refine hnew.mono ?_
  rintro e w1 ⟨g, A, c, rfl, hr1, hb1, hg1, hA1⟩
  have bR1 := bR.below hb1 (by simp)
  have hs1 := hb1.size
  simp only [World.size_alloc] at hs1 hg1 hA1
  have hb01 := hb0.trans (hb1.mono (by simp))
  clear hb0 hb1 hnew
  go_wp2_with fail
  have hn1 := rdrNumber w1 hr1 (by omega)
  obtain ⟨s1, p1, e1, hq1⟩ : ∃ s1 p1 e1, rdNum zs 0 0 = (s1, p1, e1) := ⟨_, _, _, rfl⟩
  have hs1l := rdNum_lt hz 0 0
  have he1l := rdNum_le hz (p := 0) (e := 0) (by omega)
  unfold NumPost at hn1
  rw [hq1] at hn1 hs1l he1l
  refine hn1.mono ?_
  rintro e w2 ⟨rfl, hr2, hgr2⟩
  have hs2 := hgr2.size
  have hb02 : Below w.heap.size w w2 := hb01.trans ⟨hgr2.os, hgr2.tape, hgr2.output, hgr2.size, fun k hk => hgr2.block k (by omega) (fun e => by injection e with e; omega)⟩
  have bR2 := bR1.grown hgr2 (fun e => by injection e with e; omega)
  clear hn1 hb01 hr1 bR1 hgr2
  go_wp2_with fail
  have bB3 := Bk.new w2 36 #[.int .u64 s1, .slice none 0 0]
  have bR3 := bR2.alloc (.cells #[.int .u64 s1, .slice none 0 0] 36)
  have hr3 := hr2.below ((Below.refl _ w2).alloc (Nat.le_refl _) (.cells #[.int .u64 s1, .slice none 0 0] 36))
  have hb03 := hb02.alloc hb02.size (.cells #[.int .u64 s1, .slice none 0 0] 36)
  have hAlt : zs ≠ [] → ∀ a, A = some a → w.heap.size ≤ a.block ∧ a.block < w2.heap.size := fun hz0 a ha => by
    obtain ⟨b, o, e2, hb, _⟩ := hr2.rd (by simpa [bv] using hz0)
    rw [ha] at e2
    cases e2
    have := hA1 _ ha
    exact ⟨by show w.heap.size ≤ b; simp at this; omega, hb⟩
  have hgl : g < w2.heap.size := hr2.blk.lt
  obtain ⟨w3, hw3⟩ : ∃ w3, w2.alloc (.cells #[.int .u64 s1, .slice none 0 0] 36) = w3 := ⟨_, rfl⟩
  have hs3 : w3.heap.size = w2.heap.size + 1 := by rw [← hw3]; simp
  rw [hw3] at bB3 bR3 hr3 hb03 ⊢
  obtain ⟨gb, hgb⟩ : ∃ gb, w2.heap.size = gb := ⟨_, rfl⟩
  rw [hgb] at bB3 hs3 hAlt hgl hs2 ⊢
  clear hw3 hb02 bR2 hr2 hA1 hgb
  obtain ⟨s2, p2, e2, hq2⟩ : ∃ s2 p2 e2, parNum zs = (s2, p2, e2) := ⟨_, _, _, rfl⟩
  have hq2' : rdNum zs p1 e1 = (s2, p2, e2) := by rw [← hq2, parNum, hq1]
  have he2l := rdNum_le hz (p := p1) he1l
  have hn1 := rdrNumber w3 hr3 he1l
  unfold NumPost at hn1
  rw [hq2'] at hn1 he2l
  have hseq : parSeq zs = s1 := by rw [parSeq, hq1]
  have h1024 : s2 ≤ 1024 := by have := HN1.out; rwa [hq2] at this
  obtain ⟨R, hR⟩ : ∃ R, parLoop zs = R := ⟨_, rfl⟩
  have hR2 : rdLoop zs s2 [] p2 e2 = R := by rw [← hR, parLoop, hq2]
  have hof : parOf zs = parErr zs s1 R := by rw [parOf, hseq, hR]
  refine hn1.mono ?_
  rintro e w4 ⟨rfl, hr4, hgr4⟩
  have bB4 := bB3.grown hgr4 (fun e => by injection e with e; omega)
  have bR4 := bR3.grown hgr4 (fun e => by injection e with e; omega)
  have hs4 := hgr4.size
  have hb04 : Below w.heap.size w w4 := hb03.trans ⟨hgr4.os, hgr4.tape, hgr4.output, hgr4.size, fun k hk => hgr4.block k (by omega) (fun e => by injection e with e; omega)⟩
  have pm4 : PM w w4 g gb w.heap.size w4.heap.size A c zs p2 e2 s1 none 0 0 [] [] :=
    ⟨hr4, bB4, bR4, World.ownsRow_nil .., fun i x hx => by simp at hx, rfl, fun x hx => by simp at hx, hb04, he2l, Nat.le_refl _, ⟨by omega, by omega⟩, ⟨by omega, by omega⟩, ⟨by omega, by omega⟩, ⟨by omega, by omega, by omega⟩⟩
  obtain ⟨lo, hlo⟩ : ∃ lo, w4.heap.size = lo := ⟨_, rfl⟩
  rw [hlo] at pm4
  have HS1 := Lib.hid hs1l
  have HR2 := Lib.hid hR2
  have HOF := Lib.hid hof
  have HSEQ := Lib.hid hseq
  have HR := Lib.hid hR
  have HALT := Lib.hid hAlt
  clear hn1 bB4 bR4 hb04 hr4 hgr4 bB3 bR3 hb03 hr3 hR2 hof hq1 hq2 hq2' hseq hR hAlt he1l he2l hs1l
  go_wp2_with fail
  go_loopw [7] (fun iv_ wr => ∃ (j : Nat) (acc : List Wr) (p e : Nat) (Aw : Option Addr) (cw : Nat) (hs : List Value), j ≤ s2 ∧ iv_ = .int .u64 j ∧ PM w wr g gb w.heap.size lo A c zs p e s1 Aw j cw acc hs ∧ rdLoop zs (s2 - j) acc p e = R) (fun i _ => s2 - (intOf i).toNat)
  case atStart => exact ⟨0, [], p2, e2, none, 0, [], by omega, rfl, pm4, HR2.out⟩
  case round =>
    obtain ⟨j, acc, p, e, Aw, cw, hs, hj, rfl, pm, hrest⟩ := hrel
    clear pm4
    have HREST := Lib.hid hrest
    clear hrest
    by_cases hlt : j < s2
    · have hlt' : (j : Int) < (s2 : Int) := by omega
      obtain ⟨kk, hkk⟩ : ∃ kk, s2 - j = kk + 1 := ⟨s2 - j - 1, by omega⟩
      have hrest := HREST.out
      rw [hkk, rdLoop] at hrest
      by_cases he : e = 0
      · subst he
        rw [if_neg (by simp)] at hrest
        have HREST := Lib.hid hrest
        clear hrest
        go_wp2_with fail
        refine (rdrErr _ pm.rdr).mono ?_
        rintro en wr ⟨rfl, rfl⟩
        go_wp2_with fail
        have hfx := rdrFixed (n := 1) wr pm.rdr (by omega) (by omega)
        obtain ⟨f, q1, f1, hfq⟩ : ∃ f q1 f1, rdFix zs p 0 1 = (f, q1, f1) := ⟨_, _, _, rfl⟩
        have hff := rdFix1 (zs := zs) (p := p) hz pm.rdr.pos
        rw [hfq] at hfx hff
        have hrest := HREST.out
        rw [hfq] at hrest
        simp only at hfx hff hrest
        refine hfx.mono ?_
        rintro en w1 ⟨Af, cf, rfl, hr1, hg1, hrf, hlf, hbf, hnf⟩
        have pm1 := pm.rd hg1 hr1 (by omega)
        clear hfx
        go_wp2_with fail
        refine (rdrErr _ pm1.rdr).mono ?_
        rintro en w1 ⟨rfl, rfl⟩
        by_cases hf1 : f1 = 0
        · subst hf1
          rw [if_neg (by simp)] at hrest
          obtain ⟨kd, rfl, hkd, hpos, hq1⟩ := hff.1 rfl
          obtain ⟨bf, of, xf, hxf, hAf, hbl, hcf⟩ := hrf.get (k := 0) (by simp)
          simp at hxf
          subst hAf hxf
          have HREST := Lib.hid hrest
          clear hrest
          simp only [Nat.add_zero] at hcf
          simp only [List.getD_cons_zero] at HREST
          by_cases hk1 : kd = 1
          · subst hk1
            go_wp2_with fail
            have b9 := Bk.new w1 31 #[.int .i64 1, .slice none 0 0, .slice none 0 0]
            have hba := (Below.refl w1.heap.size w1).alloc (Nat.le_refl _) (.cells #[.int .i64 1, .slice none 0 0, .slice none 0 0] 31)
            have hga : w1.grownBy (w1.alloc (.cells #[.int .i64 1, .slice none 0 0, .slice none 0 0] 31)) (some g) := World.grownBy_alloc _ _ _
            have rd2 := pm1.rdr.below hba
            obtain ⟨w2, hw2⟩ : ∃ w2, w1.alloc (.cells #[.int .i64 1, .slice none 0 0, .slice none 0 0] 31) = w2 := ⟨_, rfl⟩
            have hs2' : w2.heap.size = w1.heap.size + 1 := by rw [← hw2]; simp
            rw [hw2] at b9 hga rd2 ⊢
            obtain ⟨g9, hg9⟩ : ∃ g9, w1.heap.size = g9 := ⟨_, rfl⟩
            have hlo9 : lo ≤ g9 := by have := pm1.hlo; omega
            have hgg := pm1.hg
            have hggb := pm1.hgb
            have hAl := HALT.out (fun e => by rw [e] at hpos; simp at hpos)
            rw [hg9] at b9 hs2' ⊢
            clear hw2 hba
            have hp1 := rdrPiece w2 rd2 (by omega)
            obtain ⟨key, q2, f2, hkq⟩ : ∃ key q2 f2, rdPiece zs q1 0 = (key, q2, f2) := ⟨_, _, _, rfl⟩
            have hkl := rdPiece_le hz (p := q1) (e := 0) (by omega)
            have hrest := HREST.out
            rw [hkq] at hp1 hkl hrest
            simp only at hp1 hkl hrest
            refine hp1.mono ?_
            rintro en w3 ⟨A1, c1, rfl, hr3, hg3, hrk, hlk, hbk, hnk⟩
            have b93 := b9.grown hg3 (fun e => by injection e with e; omega)
            have hg13 := grown_row hga hg3 (.inl rfl)
            have hs3' := hg3.size
            have i0 : w3.cell? ⟨g9, 0, none⟩ = some (.int .i64 1) := b93.cell 0
            have i1 : w3.cell? ⟨g9, 1, none⟩ = some (.slice none 0 0) := b93.cell 1
            have i2 := b93.frozen 1
            have b94 := b93.set 1 (.slice A1 key.length c1)
            have hst3 : w3.grownBy (w3.setCell ⟨g9, 1, none⟩ (.slice A1 key.length c1)) (some g9) := only_set (World.grownBy.refl _ _) _ _
            have rd4 := hr3.keep hst3 (fun e => by injection e with e; omega) (fun a ha e => by injection e with e; have := hAl a ha; have := hs2'; omega)
            have hrk4 : Rb (w3.setCell ⟨g9, 1, none⟩ (.slice A1 key.length c1)) (w3.setCell ⟨g9, 1, none⟩ (.slice A1 key.length c1)).heap.size A1 key := Rb.beside hrk hst3 (fun _ a ha e => by injection e with e; have := hbk a ha; omega)
            have hg14 : w1.grownBy (w3.setCell ⟨g9, 1, none⟩ (.slice A1 key.length c1)) (some g) := ⟨hst3.os.trans hg13.os, hst3.tape.trans hg13.tape, hst3.output.trans hg13.output, Nat.le_trans hg13.size hst3.size, fun k hk hne => (hst3.block k (by have := hg13.size; omega) (fun e => by injection e with e; omega)).trans (hg13.block k hk hne)⟩
            have j0 : (w3.setCell ⟨g9, 1, none⟩ (.slice A1 key.length c1)).cell? ⟨g9, 0, none⟩ = some (.int .i64 1) := b94.cell 0
            have hs4' := hst3.size
            clear hp1 hg13 b93 b9 rd2 hga
            go_wp2_with fail
            obtain ⟨w4, hw4⟩ : ∃ w4, w3.setCell ⟨g9, 1, none⟩ (.slice A1 key.length c1) = w4 := ⟨_, rfl⟩
            rw [hw4] at b94 rd4 hrk4 hg14 j0 hs4' ⊢
            clear hw4 hst3 hr3 hrk hg3 i0 i1 i2
            have hp2 := rdrPiece w4 rd4 hkl.1
            obtain ⟨val, q3, f3, hvq⟩ : ∃ val q3 f3, rdPiece zs q2 f2 = (val, q3, f3) := ⟨_, _, _, rfl⟩
            have hvl := rdPiece_le hz (p := q2) (e := f2) hkl.1
            rw [hvq] at hp2 hvl hrest
            simp only at hp2 hvl hrest
            refine hp2.mono ?_
            rintro en w5 ⟨A2, c2, rfl, hr5, hg5, hrv, hlv, hbv, hnv⟩
            have b95 := b94.grown hg5 (fun e => by injection e with e; omega)
            have hs5' := hg5.size
            have hg15 := grown_row hg14 hg5 (.inl rfl)
            have hrk5 := hrk4.beside hg5 (fun _ a ha e => by injection e with e; have := hbk a ha; omega)
            have i1 : w5.cell? ⟨g9, 2, none⟩ = some (.slice none 0 0) := b95.cell 2
            have i2 := b95.frozen 2
            have b96 := b95.set 2 (.slice A2 val.length c2)
            have hst5 : w5.grownBy (w5.setCell ⟨g9, 2, none⟩ (.slice A2 val.length c2)) (some g9) := only_set (World.grownBy.refl _ _) _ _
            have rd6 := hr5.keep hst5 (fun e => by injection e with e; omega) (fun a ha e => by injection e with e; have := hAl a ha; omega)
            have hrk6 := hrk5.beside hst5 (fun _ a ha e => by injection e with e; have := hbk a ha; omega)
            have hrv6 : Rb (w5.setCell ⟨g9, 2, none⟩ (.slice A2 val.length c2)) (w5.setCell ⟨g9, 2, none⟩ (.slice A2 val.length c2)).heap.size A2 val := Rb.beside hrv hst5 (fun _ a ha e => by injection e with e; have := hbv a ha; omega)
            have hg16 : w1.grownBy (w5.setCell ⟨g9, 2, none⟩ (.slice A2 val.length c2)) (some g) := ⟨hst5.os.trans hg15.os, hst5.tape.trans hg15.tape, hst5.output.trans hg15.output, Nat.le_trans hg15.size hst5.size, fun k hk hne => (hst5.block k (by have := hg15.size; omega) (fun e => by injection e with e; omega)).trans (hg15.block k hk hne)⟩
            have hs6' := hst5.size
            have pm6 := pm1.rd hg16 rd6 hvl.1
            clear hp2 hg15 b95 rd4 hr5 hg5 hrk5 hrk4 hg14 b94 hst5 rd6
            simp only [ne_eq, not_true_eq_false, false_and, if_false, if_true] at hrest
            have m0 : (w5.setCell ⟨g9, 2, none⟩ (.slice A2 val.length c2)).cell? ⟨g9, 0, none⟩ = some (.int .i64 1) := b96.cell 0
            have m1 : (w5.setCell ⟨g9, 2, none⟩ (.slice A2 val.length c2)).cell? ⟨g9, 1, none⟩ = some (.slice A1 key.length c1) := b96.cell 1
            have m2 : (w5.setCell ⟨g9, 2, none⟩ (.slice A2 val.length c2)).cell? ⟨g9, 2, none⟩ = some (.slice A2 val.length c2) := b96.cell 2
            have m3 : (w5.setCell ⟨g9, 2, none⟩ (.slice A2 val.length c2)).cell? ⟨gb, 1, none⟩ = some (.slice Aw j cw) := pm6.bat.cell 1
            have pm7 := pm6.under ((Below.refl (w5.setCell ⟨g9, 2, none⟩ (.slice A2 val.length c2)).heap.size (w5.setCell ⟨g9, 2, none⟩ (.slice A2 val.length c2))).alloc (Nat.le_refl _) (.cells #[.int .i64 1, .slice A1 key.length c1, .slice A2 val.length c2] 31))
            have hrk7 := Rd.allocS hrk6 (.cells #[.int .i64 1, .slice A1 key.length c1, .slice A2 val.length c2] 31)
            have hrv7 := Rd.allocS hrv6 (.cells #[.int .i64 1, .slice A1 key.length c1, .slice A2 val.length c2] 31)
            have hob : ∀ q, (Value.slice Aw j cw).ownBlock = some q → q < g9 := fun q hq => by have := (pm1.own.lt q hq).2; omega
            have h1024' : j ≤ 1048576 := by omega
            go_wp2_with (at_builtin; go_loud (refine wpList_appW _ rfl (.tmp 58) (.tmp 60) rfl lo (.slice Aw j cw) j hs rfl (pm6.own.alloc _) _ _ 1 [.int .i64 1, .slice A1 key.length c1, .slice A2 val.length c2] rfl rfl (Rd.lit' (w := (w5.setCell ⟨g9, 2, none⟩ (.slice A2 val.length c2))) (cs := #[.int .i64 1, .slice A1 key.length c1, .slice A2 val.length c2]) (t := 31) (g := w5.heap.size) (by simp [World.setCell])) (one3 _ _ _ rfl rfl rfl) h1024' pm7.hlo ?_))
            intro A' c' w7 happ
            have bat7 := pm7.bat.grown happ.grown (fun e => by have := (pm7.own.lt gb e.symm).1; omega)
            have n3 : w7.cell? ⟨gb, 1, none⟩ = some (.slice Aw j cw) := bat7.cell 1
            have nf := bat7.frozen 1
            have pm8 := PM.push (x := ⟨1, key, val⟩) pm7 happ pm7.own.1 (fun a ha => by have := hAl a ha; omega) hrk7 hlk hrv7 hlv
              (fun a ha => by have := hbk a ha; exact ⟨by omega, fun e => by have := hob _ e; omega⟩) (fun a ha => by have := hbv a ha; exact ⟨by omega, fun e => by have := hob _ e; omega⟩) (fun e => (hnk e).2) (fun e => (hnv e).2) ⟨hkl.2, hvl.2⟩
            clear pm7 happ hrk7 hrv7 bat7 m0 m1 m2 m3
            go_wp2_with fail
            go_roundw
            case rel =>
              exact ⟨j + 1, _, q3, f3, A', c', _, by omega, by go_num, pm8, by rw [show s2 - (j + 1) = kk from by omega]; exact hrest⟩
            case measure => simp [intOf]; omega
          · have hk1b : (kd == 1) = false := by simp [hk1]
            have hk1c : (kd != 1) = true := by simp [hk1]
            by_cases hk2 : kd = 2
            · subst hk2
              go_wp2_with fail
              have b9 := Bk.new w1 31 #[.int .i64 2, .slice none 0 0, .slice none 0 0]
              have hba := (Below.refl w1.heap.size w1).alloc (Nat.le_refl _) (.cells #[.int .i64 2, .slice none 0 0, .slice none 0 0] 31)
              have hga : w1.grownBy (w1.alloc (.cells #[.int .i64 2, .slice none 0 0, .slice none 0 0] 31)) (some g) := World.grownBy_alloc _ _ _
              have rd2 := pm1.rdr.below hba
              obtain ⟨w2, hw2⟩ : ∃ w2, w1.alloc (.cells #[.int .i64 2, .slice none 0 0, .slice none 0 0] 31) = w2 := ⟨_, rfl⟩
              have hs2' : w2.heap.size = w1.heap.size + 1 := by rw [← hw2]; simp
              rw [hw2] at b9 hga rd2 ⊢
              obtain ⟨g9, hg9⟩ : ∃ g9, w1.heap.size = g9 := ⟨_, rfl⟩
              have hlo9 : lo ≤ g9 := by have := pm1.hlo; omega
              have hgg := pm1.hg
              have hggb := pm1.hgb
              have hAl := HALT.out (fun e => by rw [e] at hpos; simp at hpos)
              rw [hg9] at b9 hs2' ⊢
              clear hw2 hba
              have hp1 := rdrPiece w2 rd2 (by omega)
              obtain ⟨key, q2, f2, hkq⟩ : ∃ key q2 f2, rdPiece zs q1 0 = (key, q2, f2) := ⟨_, _, _, rfl⟩
              have hkl := rdPiece_le hz (p := q1) (e := 0) (by omega)
              have hrest := HREST.out
              rw [hkq] at hp1 hkl hrest
              simp only at hp1 hkl hrest
              refine hp1.mono ?_
              rintro en w3 ⟨A1, c1, rfl, hr3, hg3, hrk, hlk, hbk, hnk⟩
              have b93 := b9.grown hg3 (fun e => by injection e with e; omega)
              have hg13 := grown_row hga hg3 (.inl rfl)
              have hs3' := hg3.size
              have i0 : w3.cell? ⟨g9, 0, none⟩ = some (.int .i64 2) := b93.cell 0
              have i1 : w3.cell? ⟨g9, 1, none⟩ = some (.slice none 0 0) := b93.cell 1
              have i2 := b93.frozen 1
              have b94 := b93.set 1 (.slice A1 key.length c1)
              have hst3 : w3.grownBy (w3.setCell ⟨g9, 1, none⟩ (.slice A1 key.length c1)) (some g9) := only_set (World.grownBy.refl _ _) _ _
              have rd4 := hr3.keep hst3 (fun e => by injection e with e; omega) (fun a ha e => by injection e with e; have := hAl a ha; have := hs2'; omega)
              have hrk4 : Rb (w3.setCell ⟨g9, 1, none⟩ (.slice A1 key.length c1)) (w3.setCell ⟨g9, 1, none⟩ (.slice A1 key.length c1)).heap.size A1 key := Rb.beside hrk hst3 (fun _ a ha e => by injection e with e; have := hbk a ha; omega)
              have hg14 : w1.grownBy (w3.setCell ⟨g9, 1, none⟩ (.slice A1 key.length c1)) (some g) := ⟨hst3.os.trans hg13.os, hst3.tape.trans hg13.tape, hst3.output.trans hg13.output, Nat.le_trans hg13.size hst3.size, fun k hk hne => (hst3.block k (by have := hg13.size; omega) (fun e => by injection e with e; omega)).trans (hg13.block k hk hne)⟩
              have j0 : (w3.setCell ⟨g9, 1, none⟩ (.slice A1 key.length c1)).cell? ⟨g9, 0, none⟩ = some (.int .i64 2) := b94.cell 0
              have hs4' := hst3.size
              clear hp1 hg13 b93 b9 rd2 hga
              have pm6 := pm1.rd hg14 rd4 hkl.1
              have hrk6 := hrk4
              have hrv6 : Rb (w3.setCell ⟨g9, 1, none⟩ (.slice A1 key.length c1)) (w3.setCell ⟨g9, 1, none⟩ (.slice A1 key.length c1)).heap.size none ([] : List Int) := Rd.nil
              simp only [ne_eq, not_true_eq_false, and_false, if_false, show ((2 : Int) = 1) = False from by simp, not_false_eq_true] at hrest
              have m0 : (w3.setCell ⟨g9, 1, none⟩ (.slice A1 key.length c1)).cell? ⟨g9, 0, none⟩ = some (.int .i64 2) := b94.cell 0
              have m1 : (w3.setCell ⟨g9, 1, none⟩ (.slice A1 key.length c1)).cell? ⟨g9, 1, none⟩ = some (.slice A1 key.length c1) := b94.cell 1
              have m2 : (w3.setCell ⟨g9, 1, none⟩ (.slice A1 key.length c1)).cell? ⟨g9, 2, none⟩ = some (.slice none 0 0) := b94.cell 2
              have m3 : (w3.setCell ⟨g9, 1, none⟩ (.slice A1 key.length c1)).cell? ⟨gb, 1, none⟩ = some (.slice Aw j cw) := pm6.bat.cell 1
              have pm7 := pm6.under ((Below.refl (w3.setCell ⟨g9, 1, none⟩ (.slice A1 key.length c1)).heap.size (w3.setCell ⟨g9, 1, none⟩ (.slice A1 key.length c1))).alloc (Nat.le_refl _) (.cells #[.int .i64 2, .slice A1 key.length c1, .slice none 0 0] 31))
              have hrk7 := Rd.allocS hrk6 (.cells #[.int .i64 2, .slice A1 key.length c1, .slice none 0 0] 31)
              have hrv7 := Rd.allocS hrv6 (.cells #[.int .i64 2, .slice A1 key.length c1, .slice none 0 0] 31)
              have hob : ∀ q, (Value.slice Aw j cw).ownBlock = some q → q < g9 := fun q hq => by have := (pm1.own.lt q hq).2; omega
              have h1024' : j ≤ 1048576 := by omega
              go_wp2_with (at_builtin; go_loud (refine wpList_appW _ rfl (.tmp 58) (.tmp 60) rfl lo (.slice Aw j cw) j hs rfl (pm6.own.alloc _) _ _ 1 [.int .i64 2, .slice A1 key.length c1, .slice none 0 0] rfl rfl (Rd.lit' (w := (w3.setCell ⟨g9, 1, none⟩ (.slice A1 key.length c1))) (cs := #[.int .i64 2, .slice A1 key.length c1, .slice none 0 0]) (t := 31) (g := w3.heap.size) (by simp [World.setCell])) (one3 _ _ _ rfl rfl rfl) h1024' pm7.hlo ?_))
              intro A' c' w7 happ
              have bat7 := pm7.bat.grown happ.grown (fun e => by have := (pm7.own.lt gb e.symm).1; omega)
              have n3 : w7.cell? ⟨gb, 1, none⟩ = some (.slice Aw j cw) := bat7.cell 1
              have nf := bat7.frozen 1
              have pm8 := PM.push (x := ⟨2, key, ([] : List Int)⟩) pm7 happ pm7.own.1 (fun a ha => by have := hAl a ha; omega) hrk7 hlk hrv7 (Nat.le_refl 0)
                (fun a ha => by have := hbk a ha; exact ⟨by omega, fun e => by have := hob _ e; omega⟩) (fun a ha => by cases ha) (fun e => (hnk e).2) (fun _ => rfl) ⟨hkl.2, (fun x hx => by simp at hx)⟩
              clear pm7 happ hrk7 hrv7 bat7 m0 m1 m2 m3
              go_wp2_with fail
              go_roundw
              case rel =>
                exact ⟨j + 1, _, q2, f2, A', c', _, by omega, by go_num, pm8, by rw [show s2 - (j + 1) = kk from by omega]; exact hrest⟩
              case measure => simp [intOf]; omega
            · have hk2b : (kd != 2) = true := by simp [hk2]
              have pm2 := pm1.under ((Below.refl w1.heap.size w1).alloc (Nat.le_refl _) (.cells #[.int .i64 kd, .slice none 0 0, .slice none 0 0] 31))
              have c0 := pm2.res.cell 0
              have f0 := pm2.res.frozen 0
              have bs1 := pm2.res.set 0 (.int .u64 0)
              have c1 := bs1.cell 1
              have f1 := bs1.frozen 1
              have bs2 := bs1.set 1 (.slice none 0 0)
              simp only [List.getElem?_toArray, List.getElem?_cons_zero, List.getElem?_cons_succ, List.setIfInBounds_toArray, List.set_cons_zero, List.set_cons_succ] at c0 c1
              have hb62 : Below w.heap.size w (((w1.alloc (.cells #[.int .i64 kd, .slice none 0 0, .slice none 0 0] 31)).setCell ⟨w.heap.size, 0, none⟩ (.int .u64 0)).setCell ⟨w.heap.size, 1, none⟩ (.slice none 0 0)) := (pm2.bel.setCell (p := ⟨w.heap.size, 0, none⟩) (Nat.le_refl _) _).setCell (p := ⟨w.heap.size, 1, none⟩) (Nat.le_refl _) _
              have hpar : parOf zs = 4 := by
                have hrest := HREST.out
                rw [if_pos ⟨hk1, hk2⟩] at hrest
                rw [HOF.out, ← hrest, parErr, if_pos rfl]
              go_wp2_with fail
              try simp only [Exit.inBlock, Exit.then]
              refine bodyPost_ret (results_cell_row_tmp rfl _ _ w.heap.size 36 #[.int .u64 0, .slice none 0 0] _ rfl bs2 Try.underlying36 rfl (by rfl)) rfl ?_
              exact ⟨hb62, 0, none, 0, 0, by rw [hpar]; rfl, fun h => absurd (hpar.symm.trans h) (by omega)⟩
        · have heb : (((f1 : Nat) : Int) == 0) = false := by rw [beq_eq_false_iff_ne]; omega
          have hebn : (((f1 : Nat) : Int) != 0) = true := by rw [bne_iff_ne]; omega
          have HRX : RowKit.Hid ((true, acc, q1, f1) = R) := Lib.hid (by rw [if_pos hf1] at hrest; exact hrest)
          clear hrest
          go_wp2_with fail
          have hend := rdrEnd w1 pm1.rdr pm1.le
          obtain ⟨er, her⟩ : ∃ er : Nat, (if f1 ≠ 0 then f1 else if q1 < zs.length then 4 else 0) = er := ⟨_, rfl⟩
          rw [her] at hend
          have hpar : parOf zs = if er ≠ 0 then er else batChk s1 acc := by
            rw [HOF.out, ← HRX.out, ← her, parErr_true]
          have HPAR := Lib.hid hpar
          clear hpar her
          refine hend.mono ?_
          rintro en wq ⟨rfl, nd, rfl⟩
          have pmq := pm1.under (below_drewN (Below.refl _ w1) nd)
          obtain ⟨wq, hwq⟩ : ∃ wq, w1.drewN nd = wq := ⟨_, rfl⟩
          rw [hwq] at pmq ⊢
          have k0 : wq.cell? ⟨gb, 0, none⟩ = some (.int .u64 s1) := pmq.bat.cell 0
          have k1 : wq.cell? ⟨gb, 1, none⟩ = some (.slice Aw j cw) := pmq.bat.cell 1
          have hsz := pmq.bel.size
          have hlen := pmq.len
          have hbel := pmq.bel
          clear hwq hend
          by_cases her0 : er = 0
          · subst her0
            have hpar : parOf zs = batChk s1 acc := by have := HPAR.out; rwa [if_neg (by simp)] at this
            go_wp2_with fail
            obtain ⟨r, hr⟩ : ∃ r, batChk s1 acc = r := ⟨_, rfl⟩
            have hck := batCheck (cw := cw) wq pmq.rbw pmq.byt pmq.len (Nat.le_refl _) HS1.out (by omega)
            rw [hr] at hck hpar
            refine hck.mono ?_
            rintro en w6 ⟨rfl, hb6⟩
            have pm6 := pmq.under hb6
            have j0 : w6.cell? ⟨gb, 0, none⟩ = some (.int .u64 s1) := pm6.bat.cell 0
            have j1 : w6.cell? ⟨gb, 1, none⟩ = some (.slice Aw j cw) := pm6.bat.cell 1
            have c0 : w6.cell? ⟨w.heap.size, 0, none⟩ = some (.int .u64 0) := pm6.res.cell 0
            have f0 := pm6.res.frozen 0
            clear k0 k1 hck
            by_cases hr0 : r = 0
            · subst hr0
              have bs1 := pm6.res.set 0 (.int .u64 s1)
              have c1 : (w6.setCell ⟨w.heap.size, 0, none⟩ (.int .u64 s1)).cell? ⟨w.heap.size, 1, none⟩ = some (.slice none 0 0) := bs1.cell 1
              have f1 := bs1.frozen 1
              have bs2 := bs1.set 1 (.slice Aw j cw)
              have hb62 : Below w.heap.size w6 ((w6.setCell ⟨w.heap.size, 0, none⟩ (.int .u64 s1)).setCell ⟨w.heap.size, 1, none⟩ (.slice Aw j cw)) := ((Below.refl w.heap.size w6).setCell (p := ⟨w.heap.size, 0, none⟩) (Nat.le_refl _) _).setCell (p := ⟨w.heap.size, 1, none⟩) (Nat.le_refl _) _
              go_wp2_with fail
              try simp only [Exit.inBlock, Exit.then]
              refine bodyPost_ret (results_cell_row_tmp rfl _ _ w.heap.size 36 #[.int .u64 s1, .slice Aw j cw] _ rfl bs2 Try.underlying36 rfl (by rfl)) rfl ?_
              refine ⟨pm6.bel.trans hb62, s1, Aw, j, cw, by rw [hpar]; rfl, fun _ => ⟨HSEQ.out.symm, ?_, ?_⟩⟩
              · rw [HR.out, ← HRX.out]
                exact pm6.rbwSet _ _
              · rw [HR.out, ← HRX.out]
                exact pm6.len
            · have hrb : (((r : Nat) : Int) != 0) = true := by rw [bne_iff_ne]; omega
              have bs1 := pm6.res.set 0 (.int .u64 0)
              have c1 : (w6.setCell ⟨w.heap.size, 0, none⟩ (.int .u64 0)).cell? ⟨w.heap.size, 1, none⟩ = some (.slice none 0 0) := bs1.cell 1
              have f1 := bs1.frozen 1
              have bs2 := bs1.set 1 (.slice none 0 0)
              have hb62 : Below w.heap.size w6 ((w6.setCell ⟨w.heap.size, 0, none⟩ (.int .u64 0)).setCell ⟨w.heap.size, 1, none⟩ (.slice none 0 0)) := ((Below.refl w.heap.size w6).setCell (p := ⟨w.heap.size, 0, none⟩) (Nat.le_refl _) _).setCell (p := ⟨w.heap.size, 1, none⟩) (Nat.le_refl _) _
              go_wp2_with fail
              try simp only [Exit.inBlock, Exit.then]
              refine bodyPost_ret (results_cell_row_tmp rfl _ _ w.heap.size 36 #[.int .u64 0, .slice none 0 0] _ rfl bs2 Try.underlying36 rfl (by rfl)) rfl ?_
              exact ⟨pm6.bel.trans hb62, 0, none, 0, 0, by rw [hpar]; rfl, fun h => absurd (hpar.symm.trans h) hr0⟩
          · have herb : (((er : Nat) : Int) != 0) = true := by rw [bne_iff_ne]; omega
            have hpar : parOf zs = er := by have := HPAR.out; rwa [if_pos her0] at this
            have c0 : wq.cell? ⟨w.heap.size, 0, none⟩ = some (.int .u64 0) := pmq.res.cell 0
            have f0 := pmq.res.frozen 0
            have bs1 := pmq.res.set 0 (.int .u64 0)
            have c1 : (wq.setCell ⟨w.heap.size, 0, none⟩ (.int .u64 0)).cell? ⟨w.heap.size, 1, none⟩ = some (.slice none 0 0) := bs1.cell 1
            have f1 := bs1.frozen 1
            have bs2 := bs1.set 1 (.slice none 0 0)
            have hb62 : Below w.heap.size wq ((wq.setCell ⟨w.heap.size, 0, none⟩ (.int .u64 0)).setCell ⟨w.heap.size, 1, none⟩ (.slice none 0 0)) := ((Below.refl w.heap.size wq).setCell (p := ⟨w.heap.size, 0, none⟩) (Nat.le_refl _) _).setCell (p := ⟨w.heap.size, 1, none⟩) (Nat.le_refl _) _
            go_wp2_with fail
            try simp only [Exit.inBlock, Exit.then]
            refine bodyPost_ret (results_cell_row_tmp rfl _ _ w.heap.size 36 #[.int .u64 0, .slice none 0 0] _ rfl bs2 Try.underlying36 rfl (by rfl)) rfl ?_
            exact ⟨hbel.trans hb62, 0, none, 0, 0, by rw [hpar]; rfl, fun h => absurd (hpar.symm.trans h) her0⟩

      · have heb : (((e : Nat) : Int) == 0) = false := by rw [beq_eq_false_iff_ne]; omega
        have HRX : RowKit.Hid ((true, acc, p, e) = R) := Lib.hid (by rw [if_pos he] at hrest; exact hrest)
        clear hrest
        go_wp2_with fail
        refine (rdrErr _ pm.rdr).mono ?_
        rintro en wr ⟨rfl, rfl⟩
        go_wp2_with fail
        have hend := rdrEnd wr pm.rdr pm.le
        obtain ⟨er, her⟩ : ∃ er : Nat, (if e ≠ 0 then e else if p < zs.length then 4 else 0) = er := ⟨_, rfl⟩
        rw [her] at hend
        have hpar : parOf zs = if er ≠ 0 then er else batChk s1 acc := by
          rw [HOF.out, ← HRX.out, ← her, parErr_true]
        have HPAR := Lib.hid hpar
        clear hpar her
        refine hend.mono ?_
        rintro en wq ⟨rfl, nd, rfl⟩
        have pmq := pm.under (below_drewN (Below.refl _ wr) nd)
        obtain ⟨wq, hwq⟩ : ∃ wq, wr.drewN nd = wq := ⟨_, rfl⟩
        rw [hwq] at pmq ⊢
        have k0 : wq.cell? ⟨gb, 0, none⟩ = some (.int .u64 s1) := pmq.bat.cell 0
        have k1 : wq.cell? ⟨gb, 1, none⟩ = some (.slice Aw j cw) := pmq.bat.cell 1
        have hsz := pmq.bel.size
        have hlen := pmq.len
        have hbel := pmq.bel
        clear hwq hend
        by_cases her0 : er = 0
        · subst her0
          have hpar : parOf zs = batChk s1 acc := by have := HPAR.out; rwa [if_neg (by simp)] at this
          go_wp2_with fail
          obtain ⟨r, hr⟩ : ∃ r, batChk s1 acc = r := ⟨_, rfl⟩
          have hck := batCheck (cw := cw) wq pmq.rbw pmq.byt pmq.len (Nat.le_refl _) HS1.out (by omega)
          rw [hr] at hck hpar
          refine hck.mono ?_
          rintro en w6 ⟨rfl, hb6⟩
          have pm6 := pmq.under hb6
          have j0 : w6.cell? ⟨gb, 0, none⟩ = some (.int .u64 s1) := pm6.bat.cell 0
          have j1 : w6.cell? ⟨gb, 1, none⟩ = some (.slice Aw j cw) := pm6.bat.cell 1
          have c0 : w6.cell? ⟨w.heap.size, 0, none⟩ = some (.int .u64 0) := pm6.res.cell 0
          have f0 := pm6.res.frozen 0
          clear k0 k1 hck
          by_cases hr0 : r = 0
          · subst hr0
            have bs1 := pm6.res.set 0 (.int .u64 s1)
            have c1 : (w6.setCell ⟨w.heap.size, 0, none⟩ (.int .u64 s1)).cell? ⟨w.heap.size, 1, none⟩ = some (.slice none 0 0) := bs1.cell 1
            have f1 := bs1.frozen 1
            have bs2 := bs1.set 1 (.slice Aw j cw)
            have hb62 : Below w.heap.size w6 ((w6.setCell ⟨w.heap.size, 0, none⟩ (.int .u64 s1)).setCell ⟨w.heap.size, 1, none⟩ (.slice Aw j cw)) := ((Below.refl w.heap.size w6).setCell (p := ⟨w.heap.size, 0, none⟩) (Nat.le_refl _) _).setCell (p := ⟨w.heap.size, 1, none⟩) (Nat.le_refl _) _
            go_wp2_with fail
            try simp only [Exit.inBlock, Exit.then]
            refine bodyPost_ret (results_cell_row_tmp rfl _ _ w.heap.size 36 #[.int .u64 s1, .slice Aw j cw] _ rfl bs2 Try.underlying36 rfl (by rfl)) rfl ?_
            refine ⟨pm6.bel.trans hb62, s1, Aw, j, cw, by rw [hpar]; rfl, fun _ => ⟨HSEQ.out.symm, ?_, ?_⟩⟩
            · rw [HR.out, ← HRX.out]
              exact pm6.rbwSet _ _
            · rw [HR.out, ← HRX.out]
              exact pm6.len
          · have hrb : (((r : Nat) : Int) != 0) = true := by rw [bne_iff_ne]; omega
            have bs1 := pm6.res.set 0 (.int .u64 0)
            have c1 : (w6.setCell ⟨w.heap.size, 0, none⟩ (.int .u64 0)).cell? ⟨w.heap.size, 1, none⟩ = some (.slice none 0 0) := bs1.cell 1
            have f1 := bs1.frozen 1
            have bs2 := bs1.set 1 (.slice none 0 0)
            have hb62 : Below w.heap.size w6 ((w6.setCell ⟨w.heap.size, 0, none⟩ (.int .u64 0)).setCell ⟨w.heap.size, 1, none⟩ (.slice none 0 0)) := ((Below.refl w.heap.size w6).setCell (p := ⟨w.heap.size, 0, none⟩) (Nat.le_refl _) _).setCell (p := ⟨w.heap.size, 1, none⟩) (Nat.le_refl _) _
            go_wp2_with fail
            try simp only [Exit.inBlock, Exit.then]
            refine bodyPost_ret (results_cell_row_tmp rfl _ _ w.heap.size 36 #[.int .u64 0, .slice none 0 0] _ rfl bs2 Try.underlying36 rfl (by rfl)) rfl ?_
            exact ⟨pm6.bel.trans hb62, 0, none, 0, 0, by rw [hpar]; rfl, fun h => absurd (hpar.symm.trans h) hr0⟩
        · have herb : (((er : Nat) : Int) != 0) = true := by rw [bne_iff_ne]; omega
          have hpar : parOf zs = er := by have := HPAR.out; rwa [if_pos her0] at this
          have c0 : wq.cell? ⟨w.heap.size, 0, none⟩ = some (.int .u64 0) := pmq.res.cell 0
          have f0 := pmq.res.frozen 0
          have bs1 := pmq.res.set 0 (.int .u64 0)
          have c1 : (wq.setCell ⟨w.heap.size, 0, none⟩ (.int .u64 0)).cell? ⟨w.heap.size, 1, none⟩ = some (.slice none 0 0) := bs1.cell 1
          have f1 := bs1.frozen 1
          have bs2 := bs1.set 1 (.slice none 0 0)
          have hb62 : Below w.heap.size wq ((wq.setCell ⟨w.heap.size, 0, none⟩ (.int .u64 0)).setCell ⟨w.heap.size, 1, none⟩ (.slice none 0 0)) := ((Below.refl w.heap.size wq).setCell (p := ⟨w.heap.size, 0, none⟩) (Nat.le_refl _) _).setCell (p := ⟨w.heap.size, 1, none⟩) (Nat.le_refl _) _
          go_wp2_with fail
          try simp only [Exit.inBlock, Exit.then]
          refine bodyPost_ret (results_cell_row_tmp rfl _ _ w.heap.size 36 #[.int .u64 0, .slice none 0 0] _ rfl bs2 Try.underlying36 rfl (by rfl)) rfl ?_
          exact ⟨hbel.trans hb62, 0, none, 0, 0, by rw [hpar]; rfl, fun h => absurd (hpar.symm.trans h) her0⟩
    · have hlt' : decide ((j : Int) < (s2 : Int)) = false := by simp; omega
      have HRX : RowKit.Hid ((true, acc, p, e) = R) := Lib.hid (by have h := HREST.out; rw [show s2 - j = 0 from by omega, rdLoop] at h; exact h)
      go_wp2_with fail
      have hend := rdrEnd wr pm.rdr pm.le
      obtain ⟨er, her⟩ : ∃ er : Nat, (if e ≠ 0 then e else if p < zs.length then 4 else 0) = er := ⟨_, rfl⟩
      rw [her] at hend
      have hpar : parOf zs = if er ≠ 0 then er else batChk s1 acc := by
        rw [HOF.out, ← HRX.out, ← her, parErr_true]
      have HPAR := Lib.hid hpar
      clear hpar her
      refine hend.mono ?_
      rintro en wq ⟨rfl, nd, rfl⟩
      have pmq := pm.under (below_drewN (Below.refl _ wr) nd)
      obtain ⟨wq, hwq⟩ : ∃ wq, wr.drewN nd = wq := ⟨_, rfl⟩
      rw [hwq] at pmq ⊢
      have k0 : wq.cell? ⟨gb, 0, none⟩ = some (.int .u64 s1) := pmq.bat.cell 0
      have k1 : wq.cell? ⟨gb, 1, none⟩ = some (.slice Aw j cw) := pmq.bat.cell 1
      have hsz := pmq.bel.size
      have hlen := pmq.len
      have hbel := pmq.bel
      clear hwq hend
      by_cases her0 : er = 0
      · subst her0
        have hpar : parOf zs = batChk s1 acc := by have := HPAR.out; rwa [if_neg (by simp)] at this
        go_wp2_with fail
        obtain ⟨r, hr⟩ : ∃ r, batChk s1 acc = r := ⟨_, rfl⟩
        have hck := batCheck (cw := cw) wq pmq.rbw pmq.byt pmq.len (Nat.le_refl _) HS1.out (by omega)
        rw [hr] at hck hpar
        refine hck.mono ?_
        rintro en w6 ⟨rfl, hb6⟩
        have pm6 := pmq.under hb6
        have j0 : w6.cell? ⟨gb, 0, none⟩ = some (.int .u64 s1) := pm6.bat.cell 0
        have j1 : w6.cell? ⟨gb, 1, none⟩ = some (.slice Aw j cw) := pm6.bat.cell 1
        have c0 : w6.cell? ⟨w.heap.size, 0, none⟩ = some (.int .u64 0) := pm6.res.cell 0
        have f0 := pm6.res.frozen 0
        clear k0 k1 hck
        by_cases hr0 : r = 0
        · subst hr0
          have bs1 := pm6.res.set 0 (.int .u64 s1)
          have c1 : (w6.setCell ⟨w.heap.size, 0, none⟩ (.int .u64 s1)).cell? ⟨w.heap.size, 1, none⟩ = some (.slice none 0 0) := bs1.cell 1
          have f1 := bs1.frozen 1
          have bs2 := bs1.set 1 (.slice Aw j cw)
          have hb62 : Below w.heap.size w6 ((w6.setCell ⟨w.heap.size, 0, none⟩ (.int .u64 s1)).setCell ⟨w.heap.size, 1, none⟩ (.slice Aw j cw)) := ((Below.refl w.heap.size w6).setCell (p := ⟨w.heap.size, 0, none⟩) (Nat.le_refl _) _).setCell (p := ⟨w.heap.size, 1, none⟩) (Nat.le_refl _) _
          go_wp2_with fail
          try simp only [Exit.inBlock, Exit.then]
          refine bodyPost_ret (results_cell_row_tmp rfl _ _ w.heap.size 36 #[.int .u64 s1, .slice Aw j cw] _ rfl bs2 Try.underlying36 rfl (by rfl)) rfl ?_
          refine ⟨pm6.bel.trans hb62, s1, Aw, j, cw, by rw [hpar]; rfl, fun _ => ⟨HSEQ.out.symm, ?_, ?_⟩⟩
          · rw [HR.out, ← HRX.out]
            exact pm6.rbwSet _ _
          · rw [HR.out, ← HRX.out]
            exact pm6.len
        · have hrb : (((r : Nat) : Int) != 0) = true := by rw [bne_iff_ne]; omega
          have bs1 := pm6.res.set 0 (.int .u64 0)
          have c1 : (w6.setCell ⟨w.heap.size, 0, none⟩ (.int .u64 0)).cell? ⟨w.heap.size, 1, none⟩ = some (.slice none 0 0) := bs1.cell 1
          have f1 := bs1.frozen 1
          have bs2 := bs1.set 1 (.slice none 0 0)
          have hb62 : Below w.heap.size w6 ((w6.setCell ⟨w.heap.size, 0, none⟩ (.int .u64 0)).setCell ⟨w.heap.size, 1, none⟩ (.slice none 0 0)) := ((Below.refl w.heap.size w6).setCell (p := ⟨w.heap.size, 0, none⟩) (Nat.le_refl _) _).setCell (p := ⟨w.heap.size, 1, none⟩) (Nat.le_refl _) _
          go_wp2_with fail
          try simp only [Exit.inBlock, Exit.then]
          refine bodyPost_ret (results_cell_row_tmp rfl _ _ w.heap.size 36 #[.int .u64 0, .slice none 0 0] _ rfl bs2 Try.underlying36 rfl (by rfl)) rfl ?_
          exact ⟨pm6.bel.trans hb62, 0, none, 0, 0, by rw [hpar]; rfl, fun h => absurd (hpar.symm.trans h) hr0⟩
      · have herb : (((er : Nat) : Int) != 0) = true := by rw [bne_iff_ne]; omega
        have hpar : parOf zs = er := by have := HPAR.out; rwa [if_pos her0] at this
        have c0 : wq.cell? ⟨w.heap.size, 0, none⟩ = some (.int .u64 0) := pmq.res.cell 0
        have f0 := pmq.res.frozen 0
        have bs1 := pmq.res.set 0 (.int .u64 0)
        have c1 : (wq.setCell ⟨w.heap.size, 0, none⟩ (.int .u64 0)).cell? ⟨w.heap.size, 1, none⟩ = some (.slice none 0 0) := bs1.cell 1
        have f1 := bs1.frozen 1
        have bs2 := bs1.set 1 (.slice none 0 0)
        have hb62 : Below w.heap.size wq ((wq.setCell ⟨w.heap.size, 0, none⟩ (.int .u64 0)).setCell ⟨w.heap.size, 1, none⟩ (.slice none 0 0)) := ((Below.refl w.heap.size wq).setCell (p := ⟨w.heap.size, 0, none⟩) (Nat.le_refl _) _).setCell (p := ⟨w.heap.size, 1, none⟩) (Nat.le_refl _) _
        go_wp2_with fail
        try simp only [Exit.inBlock, Exit.then]
        refine bodyPost_ret (results_cell_row_tmp rfl _ _ w.heap.size 36 #[.int .u64 0, .slice none 0 0] _ rfl bs2 Try.underlying36 rfl (by rfl)) rfl ?_
        exact ⟨hbel.trans hb62, 0, none, 0, 0, by rw [hpar]; rfl, fun h => absurd (hpar.symm.trans h) her0⟩
end Go.Proofs.Ytpjdlcdkldomlaa
