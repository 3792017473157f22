/- Texts of the proof of VfsNilSaid, joined: VfL VfM VfN VfO VfP VfQ VfR VfS. -/
import Derived.Test.YtdjmmdhjjdnbdaaJVfsNil2
/- Layer 4: note. -/
namespace Go.Proofs.Ytdjmmdhjjdnbdaa
open Go.RowKit

section
variable {base F : Nat} {w w' : World} {K : Nat → Prop} {S : VSt} {m : VMem}
theorem Vf.noted (h : Vf base w K F S m) {c : VChg} {v' : Value} {cb : Nat} {C : List (ByteArray × Option Nat)} {D' : List (ByteArray × Nat)}
    (hf : FrK w w' fun b => b = F ∨ b = m.db ∨ m.cv.ownBlock = some b) (hb : Bk w' F 59 (fsC S { m with cv := v' })) (hr : w'.ownsRow base 70 1 v' (S.chg.length + 1) ((m.cms ++ [cb]).map maV))
    (ho : ∀ g, v'.ownBlock = some g → m.cv.ownBlock = some g ∨ w.heap.size ≤ g) (hD : Mh strV (fiV m.fb) w' m.db D') (hDp : D'.Perm (chgOn S.now c)) (hC : Mh strV (fiO m.fb) w' cb C) (hCp : C.Perm (chgL c)) (hcb : cb ≠ m.db ∧ cb ≠ m.sb) (hK : Kn K w.heap.size w'.heap.size cb) :
    Vf base w' (Kn K w.heap.size w'.heap.size) F { S with chg := S.chg ++ [c] } { m with cv := v', cms := m.cms ++ [cb], D := D' } := by
  have hlen : m.cms.length = S.chg.length := by
    have := h.chg.1
    simpa using this
  have hmap : ∀ (b : Nat) (es : Array MapEntry) (c : Nat), w.heap[b]? = some (.map es c) → b ≠ m.db → w'.heap[b]? = w.heap[b]? := fun b es c he hne => hf.block b (Array.getElem?_eq_some_iff.1 he).1 (by
    rintro (rfl | rfl | hg)
    · rw [show w.heap[b]? = _ from h.blk] at he
      cases he
    · exact hne rfl
    · obtain ⟨cur, hc⟩ := own_bk h.chg hg
      rw [show w.heap[b]? = _ from hc] at he
      cases he)
  have hmh : ∀ {κ ν : Type} {kv : κ → Value} {vv : ν → Value} {b : Nat} {L : List (κ × ν)}, Mh kv vv w b L → b ≠ m.db → Mh kv vv w' b L := fun {κ ν kv vv b L} hM hne => by
    obtain ⟨es, c, he⟩ := hM.obj
    exact hM.of (hmap b es c he hne)
  have hcell : ∀ {b : Nat} {t : TypeId} {cs : Array Value}, Bk w b t cs → t ≠ 59 → t ≠ 70 → w'.heap[b]? = w.heap[b]? := fun {b t cs} hB h1 h2 => hf.block b hB.lt (by
    rintro (e | e | hg)
    · exact ne_of_type hB h.blk h1 e
    · obtain ⟨es, cl, he⟩ := h.dir.obj
      rw [← e, show w.heap[b]? = _ from hB] at he
      cases he
    · obtain ⟨cur, hc⟩ := own_bk h.chg hg
      exact ne_of_type hB hc h2 rfl)
  have hnow : ({ S with chg := S.chg ++ [c] } : VSt).now = chgOn S.now c := by
    unfold VSt.now VSt.dirN
    simp only [List.take_length]
    rw [List.foldl_append]
    rfl
  refine { blk := hb, dir := hD, dirP := by rw [hnow]; exact hDp, syn := hmh h.syn h.ne.symm, synP := h.synP, chg := by simpa using hr, maps := ?_, file := fun j y hy => (hcell (h.file j y hy) (by decide) (by decide)).trans (h.file j y hy), row := fun j y hy => own_of (h.row j y hy) fun g hg => ?_, inj := h.inj, rinj := h.rinj, ne := h.ne, nec := ?_, kF := .inl h.kF, kD := .inl h.kD, kS := .inl h.kS, kC := ?_, kM := ?_, kB := fun j e => .inl (h.kB j e), kR := fun j e g e2 => .inl (h.kR j e g e2), lo := ?_ }
  · intro j b c' h1 h2
    rcases Nat.lt_or_ge j S.chg.length with hj | hj
    · rw [List.getElem?_append_left (by omega)] at h1
      simp only at h2
      rw [List.getElem?_append_left hj] at h2
      obtain ⟨C', h3, h4⟩ := h.maps j b c' h1 h2
      exact ⟨C', h3, hmh h4 (h.nec b (List.mem_of_getElem? h1)).1⟩
    · have hj1 : j = S.chg.length := by
        have := (List.getElem?_eq_some_iff.1 h2).1
        simp at this
        omega
      subst hj1
      rw [List.getElem?_append_right (by omega), hlen, Nat.sub_self] at h1
      simp only at h2
      rw [List.getElem?_append_right (Nat.le_refl _), Nat.sub_self] at h2
      simp at h1 h2
      subst h1
      subst h2
      exact ⟨C, hCp, hC⟩
  · obtain ⟨cur, hc⟩ := own_bk (h.row j y hy) hg
    exact hcell hc (by decide) (by decide)
  · intro b hbm
    rcases List.mem_append.1 hbm with h1 | h1
    · exact h.nec b h1
    · simp at h1
      subst h1
      exact hcb
  · intro g hg
    rcases ho g hg with h1 | h1
    · exact .inl (h.kC g h1)
    · exact .inr ⟨h1, (hr.lt g hg).2⟩
  · intro b hbm
    rcases List.mem_append.1 hbm with h1 | h1
    · exact .inl (h.kM b h1)
    · simp at h1
      subst h1
      exact hK
  · intro b e
    rcases e with e | ⟨h1, h2⟩
    · exact ⟨(h.lo b e).1, Nat.lt_of_lt_of_le (h.lo b e).2 hf.size⟩
    · exact ⟨Nat.le_trans h.baseLe h1, h2⟩
end
theorem mgPut_perm {κ ν : Type} [DecidableEq κ] {k : κ} {v : ν} {L M : List (κ × ν)} (h : L.Perm M) (hn : (L.map (·.1)).Nodup) : (mgPut k v L).Perm (mgPut k v M) := by
  have hm : (M.map (·.1)).Nodup := (h.map _).nodup_iff.1 hn
  have hmem : ∀ {X : List (κ × ν)}, (X.map (·.1)).Nodup → ∀ p, p ∈ mgPut k v X ↔ (p = (k, v) ∨ (p.1 ≠ k ∧ p ∈ X)) := fun {X} hX p => by
    have hg : mgGet p.1 (mgPut k v X) = some p.2 ↔ (p = (k, v) ∨ (p.1 ≠ k ∧ p ∈ X)) := by
      rw [mgGet_put]
      by_cases hk : p.1 = k
      · rw [if_pos hk]
        constructor
        · intro e
          exact .inl (Prod.ext hk (Option.some.inj e).symm)
        · rintro (e | ⟨e, -⟩)
          · rw [e]
          · exact absurd hk e
      · rw [if_neg hk]
        constructor
        · intro e
          exact .inr ⟨hk, mgGet_mem e⟩
        · rintro (e | ⟨-, e⟩)
          · exact absurd (by rw [e]) hk
          · exact mgGet_some hX e
    rw [← hg]
    exact ⟨fun e => mgGet_some (mgPut_nodup hX) e, fun e => mgGet_mem e⟩
  refine (List.perm_ext_iff_of_nodup (nodup_of_map (mgPut_nodup hn)) (nodup_of_map (mgPut_nodup hm))).2 fun p => ?_
  rw [hmem hn, hmem hm, h.mem_iff]
theorem chgOn_perm {c : VChg} {L M : List (ByteArray × Nat)} (h : L.Perm M) (hn : (L.map (·.1)).Nodup) : (chgOn L c).Perm (chgOn M c) := by
  have hd : (if c.gone = noT then L else dDel c.gone L).Perm (if c.gone = noT then M else dDel c.gone M) := by
    split
    · exact h
    · exact h.filter _
  have hd2 : ((if c.gone = noT then L else dDel c.gone L).map (·.1)).Nodup := by
    split
    · exact hn
    · exact mgDel_nodup hn
  unfold chgOn
  split
  · exact mgPut_perm hd hd2
  · exact hd
theorem chinfo : (Try.prog.info? 70).map (fun i => (i.zero, i.size, i.bytes)) = some (some (.map none), 1, 8) := by kernel_rfl
end Go.Proofs.Ytdjmmdhjjdnbdaa

/- Layer 4: note, walked. -/
namespace Go.Proofs.Ytdjmmdhjjdnbdaa
open Go.RowKit

set_option maxRecDepth 100000 in
set_option maxHeartbeats 1000000 in
theorem vfNote {base F cb n : Nat} {w : World} {K : Nat → Prop} {S : VSt} {m : VMem} (h : Vf base w K F S m) {c : VChg} (hc : c.Ok n) {C : List (ByteArray × Option Nat)}
    (hC : Mh strV (fiO m.fb) w cb C) (hp : C.Perm (chgL c)) (hcb : cb ≠ m.db ∧ cb ≠ m.sb) (hK : K cb) (hlen : S.chg.length ≤ 1000000) :
    Calls Try.prog 38 #[ptV F, maV cb] w fun e w' => e = .returned (.tuple #[]) ∧ (∃ m', m'.fb = m.fb ∧ m'.bv = m.bv ∧ Vf base w' (Kn K w.heap.size w'.heap.size) F { S with chg := S.chg ++ [c] } m') ∧ FrK w w' K := by
  obtain ⟨A, c0, hcv, hc0, -⟩ := own_form h.chg
  have k4 : w.cell? ⟨F, 4, none⟩ = some (.slice A S.chg.length c0) := by rw [h.blk.cell 4, ← hcv]; rfl
  have rd1 : Rd (w.alloc (.cells #[maV cb] 70)) (w.heap.size + 1) (some ⟨w.heap.size, 0, none⟩) [maV cb] := Rd.lit w #[maV cb] 70
  have own1 := h.chg.alloc (.cells #[maV cb] 70)
  have blk1 := h.blk.alloc (.cells #[maV cb] 70)
  have dir1 := h.dir.alloc (.cells #[maV cb] 70)
  have hC1 := hC.alloc (.cells #[maV cb] 70)
  have fr1 := (FrK.refl w Kno).alloc (.cells #[maV cb] 70)
  obtain ⟨w1, e1⟩ : ∃ w1, w.alloc (.cells #[maV cb] 70) = w1 := ⟨_, rfl⟩
  have s1 : w1.heap.size = w.heap.size + 1 := by rw [← e1]; simp
  rw [e1] at rd1 own1 blk1 fr1 dir1 hC1
  have hbase := h.baseLe
  obtain ⟨i0, hi0, hz0, hz1, hz2⟩ := info_parts chinfo
  have H := Lib.hid h
  have E1 := Lib.hid e1
  have RD1 := Lib.hid rd1
  have OWN1 := Lib.hid own1
  have BLK1 := Lib.hid blk1
  have FR1 := Lib.hid fr1
  have DIR1 := Lib.hid dir1
  have HC1 := Lib.hid hC1
  have HCV := Lib.hid hcv
  have HI := Lib.hid (And.intro hi0 (And.intro hz0 (And.intro hz1 hz2)))
  clear h hC e1 rd1 own1 blk1 fr1 dir1 hC1 hcv hi0 hz0 hz1 hz2
  go_enter Try.func38, Try.ntmps38
  go_wp2_with (at_builtin; go_loud (rw [E1.out]; refine wpList_app w1 rfl (.tmp 8) (.tmp 10) 57 rfl base 70 i0 _ 1 8 Try.underlying57 HI.out.1 HI.out.2.1 HI.out.2.2.1 HI.out.2.2.2 rfl (by omega) m.cv S.chg.length _ HCV.out.symm OWN1.out _ (some ⟨w.heap.size, 0, none⟩) 1 1 [maV cb] rfl rfl RD1.out (fun u hu => by simp at hu; subst hu; rfl) (by simp only [maxLen]; omega) (by omega) (by omega) ?_))
  intro A2 c2 w2 hown2 hgr2 hblk2 hnil2
  have h := H.out
  have hne4 : ∀ g, m.cv.ownBlock = some g → g ≠ F ∧ g ≠ m.db ∧ g ≠ cb := fun g hg => by
    obtain ⟨cur, hcur⟩ := own_bk h.chg hg
    have hcur1 : ∃ cs, w1.heap[g]? = some (.cells cs 70 (0, 0)) := by
      obtain ⟨cur1, hc1⟩ := own_bk OWN1.out hg
      exact ⟨_, hc1⟩
    obtain ⟨cs, hcs⟩ := hcur1
    refine ⟨ne_of_type hcur h.blk (by decide), fun e => ?_, fun e => ?_⟩
    · obtain ⟨es, cl, he⟩ := DIR1.out.obj
      rw [← e, hcs] at he
      cases he
    · obtain ⟨es, cl, he⟩ := HC1.out.obj
      rw [← e, hcs] at he
      cases he
  have hFl := BLK1.out.lt
  have blk2 := BLK1.out.grown hgr2 (fun e => (hne4 F e.symm).1 rfl)
  have dir2 := DIR1.out.grown hgr2 (fun e => (hne4 _ e.symm).2.1 rfl)
  have hC2 := HC1.out.grown hgr2 (fun e => (hne4 _ e.symm).2.2 rfl)
  have k2 : w2.cell? ⟨F, 2, none⟩ = some (maV m.db) := by rw [blk2.cell 2]; rfl
  have k24 : w2.cell? ⟨F, 4, none⟩ = some m.cv := by rw [blk2.cell 4]; rfl
  have k44 := blk2.frozen 4
  have st := FrK.set w2 F 4 (.slice A2 (S.chg.length + 1) c2)
  have blk3 := blk2.set 4 (.slice A2 (S.chg.length + 1) c2)
  have hdF : m.db ≠ F := h.neD
  have hcF : cb ≠ F := fun e => by
    obtain ⟨es, cl, he⟩ := hC2.obj
    rw [e, show w2.heap[F]? = _ from blk2] at he
    cases he
  have dir3 := dir2.of (st.block _ dir2.lt hdF)
  have hC3 := hC2.of (st.block _ hC2.lt hcF)
  have hown3 := own_of (w' := w2.setCell ⟨F, 4, none⟩ (.slice A2 (S.chg.length + 1) c2)) hown2 (fun g hg => by
    obtain ⟨cur, hcur⟩ := own_bk hown2 hg
    exact st.block _ hcur.lt (ne_of_type hcur blk2 (by decide)))
  obtain ⟨w3, e3⟩ : ∃ w3, w2.setCell ⟨F, 4, none⟩ (.slice A2 (S.chg.length + 1) c2) = w3 := ⟨_, rfl⟩
  rw [e3] at st blk3 dir3 hC3 hown3
  have k3 : w3.cell? ⟨F, 2, none⟩ = some (maV m.db) := by rw [blk3.cell 2]; rfl
  have ct := vfTurn dir3 hC3 hcb.1.symm
  have E3 := Lib.hid e3
  have BLK3 := Lib.hid blk3
  have ST := Lib.hid st
  have OWN3 := Lib.hid hown3
  have GR2 := Lib.hid hgr2
  have BK2 := Lib.hid hblk2
  have HC3 := Lib.hid hC3
  have DIR3 := Lib.hid dir3
  clear hown2 hgr2 hblk2 hnil2 blk2 dir2 hC2 st blk3 dir3 hC3 hown3 e3 h hne4
  go_wp2_with fail
  rw [E3.out]
  refine ct.mono ?_
  rintro e w' ⟨rfl, Z, hZ, hD', hF'⟩
  go_wp2_with fail
  go_end0
  have h := H.out
  have hfr : FrK w w' fun b => b = F ∨ b = m.db ∨ m.cv.ownBlock = some b := by
    have f1 : FrK w w1 fun b => b = F ∨ b = m.db ∨ m.cv.ownBlock = some b := FR1.out.mono fun _ _ e => e.elim
    have f2 := f1.trans (FrK.of_grown (K := fun b => b = F ∨ b = m.db ∨ m.cv.ownBlock = some b) GR2.out fun b _ e => .inr (.inr e)) fun _ _ e => e
    have f3 := f2.trans ST.out fun b _ e => .inl e
    exact f3.trans hF' fun b _ e => .inr (.inl e)
  have hrow : w'.ownsRow base 70 1 (.slice A2 (S.chg.length + 1) c2) (S.chg.length + 1) ((m.cms ++ [cb]).map maV) := by
    rw [List.map_append]
    refine own_of OWN3.out fun g hg => ?_
    obtain ⟨cur, hcur⟩ := own_bk OWN3.out hg
    refine hF'.block g hcur.lt fun e => ?_
    obtain ⟨es, cl, he⟩ := DIR3.out.obj
    rw [← show g = m.db from e, show w3.heap[g]? = _ from hcur] at he
    cases he
  have hv := h.noted (c := c) hfr (v' := .slice A2 (S.chg.length + 1) c2) (by
    have := hF'.bk BLK3.out (fun e => hdF (show F = m.db from e).symm)
    rw [show fsC S { m with cv := .slice A2 (S.chg.length + 1) c2 } = (fsC S m).setIfInBounds 4 (.slice A2 (S.chg.length + 1) c2) by simp [fsC]]
    exact this) hrow (fun g hg => by
      rcases BK2.out with e | e
      · exact .inl (by rw [← e]; exact hg)
      · rw [e] at hg
        have := Option.some.inj hg
        exact .inr (by omega)) hD' (by rw [turnL_chg hc (hZ.trans hp)]; exact chgOn_perm h.dirP h.dir.nodup) (HC3.out.of (hF'.block _ HC3.out.lt hcb.1)) hp hcb (.inl hK)
  refine ⟨rfl, ⟨{ m with cv := .slice A2 (S.chg.length + 1) c2, cms := m.cms ++ [cb], D := turnL m.D Z }, rfl, rfl, hv⟩, hfr.mono fun b _ e => ?_⟩
  rcases e with e | e | e
  · exact e ▸ h.kF
  · exact e ▸ h.kD
  · exact h.kC b e
end Go.Proofs.Ytdjmmdhjjdnbdaa

/- Layer 4: Remove. -/
namespace Go.Proofs.Ytdjmmdhjjdnbdaa
open Go.RowKit

theorem vfNoteNew {base F cb n : Nat} {w w2 : World} {K : Nat → Prop} {S : VSt} {m : VMem} (h : Vf base w K F S m) (hg : FrK w w2 Kno) (hcb : w.heap.size ≤ cb ∧ cb < w2.heap.size) {c : VChg} (hc : c.Ok n) {C : List (ByteArray × Option Nat)}
    (hC : Mh strV (fiO m.fb) w2 cb C) (hp : C.Perm (chgL c)) (hlen : S.chg.length ≤ 1000000) :
    Calls Try.prog 38 #[ptV F, maV cb] w2 fun e w' => e = .returned (.tuple #[]) ∧ (∃ m', m'.fb = m.fb ∧ m'.bv = m.bv ∧ Vf base w' (Kn K w.heap.size w'.heap.size) F { S with chg := S.chg ++ [c] } m') ∧ FrK w w' K := by
  have h2 : Vf base w2 (Kn K w.heap.size w2.heap.size) F S m := (h.keep hg fun _ _ e => e).kn h.baseLe
  have hd := h.dir.lt
  have hs := h.syn.lt
  refine (vfNote h2 hc hC hp ⟨by omega, by omega⟩ (.inr hcb) hlen).mono ?_
  rintro e w' ⟨rfl, ⟨m', h3, h4, h5⟩, h6⟩
  refine ⟨rfl, ⟨m', h3, h4, h5.knn hg.size h6.size⟩, (hg.mono fun _ _ e => e.elim).trans h6 fun b hb e => ?_⟩
  rcases e with e | ⟨e, -⟩
  · exact e
  · omega
theorem vName_ne {s : ByteArray} (h : vName s = true) : s ≠ noT := fun e => by
  subst e
  revert h
  decide
set_option maxRecDepth 100000 in
set_option maxHeartbeats 1000000 in
theorem vfRemove1 {base F bF bN : Nat} {w : World} {K : Nat → Prop} {S : VSt} {m : VMem} (h : Vf base w K F S m) {s : ByteArray} (hs : s ≠ noT) (x : Value)
    (hF : Bk w bF 25 #[ptV F]) (hN : Bk w bN 9 #[.string s]) (hlen : S.chg.length ≤ 1000000) :
    Calls Try.prog 66 #[x, ptV bF, ptV bN] w (VPost base w K F ({ S with chg := S.chg ++ [⟨noT, none, s⟩] }, 0)) := by
  have c0 : w.cell? ⟨bF, 0, none⟩ = some (ptV F) := by rw [hF.cell 0]; rfl
  have c1 : w.cell? ⟨bN, 0, none⟩ = some (.string s) := by rw [hN.cell 0]; rfl
  have m1 := Mh.new (kv := strV) (vv := fiO m.fb) w
  have fr1 := (FrK.refl w Kno).alloc (.map #[] 0)
  have hN1 := hN.alloc (.map #[] 0)
  have k1 : (w.alloc (.map #[] 0)).cell? ⟨bN, 0, none⟩ = some (.string s) := by rw [hN1.cell 0]; rfl
  obtain ⟨w1, e1⟩ : ∃ w1, w.alloc (.map #[] 0) = w1 := ⟨_, rfl⟩
  have s1 : w1.heap.size = w.heap.size + 1 := by rw [← e1]; simp
  rw [e1] at m1 fr1 hN1
  have hmm := @run_makeMap Try.prog
  have H := Lib.hid h
  have E1 := Lib.hid e1
  have M1 := Lib.hid m1
  have FR1 := Lib.hid fr1
  have S1 := Lib.hid s1
  clear h hF hN e1 m1 fr1 hN1 s1
  go_enter Try.func66, Try.ntmps66
  go_wp2_with (first
    | (rw [E1.out]; refine wpList_mhIns _ rfl (.tmp 6) (.tmp 7) (.const (.pointer none)) 70 rfl (strRun Try.underlying9) Try.underlying70 w.heap.size _ rfl M1.out s none rfl rfl ?_
       rintro w2 hm2 hg2 hs2)
    | fail)
  have hfr : FrK w w2 Kno := FR1.out.trans (FrK.of_grown (K := fun b => b = w.heap.size) hg2 fun b _ e => (Option.some.inj e).symm) fun b hb e => by omega
  have hsz : w.heap.size < w2.heap.size := by rw [hs2, S1.out]; omega
  have C := vfNoteNew (n := 0) H.out hfr ⟨Nat.le_refl _, hsz⟩ (c := ⟨noT, none, s⟩) ⟨(fun i e => by cases e), fun _ => hs⟩ (show Mh strV (fiO m.fb) w2 w.heap.size [(s, none)] from hm2) (List.Perm.refl _) hlen
  refine C.mono ?_
  rintro e w' ⟨rfl, ⟨m', -, -, hv⟩, hf⟩
  go_wp2_with fail
  go_ret
  exact ⟨rfl, m', hv, hf⟩
set_option maxRecDepth 100000 in
set_option maxHeartbeats 1000000 in
theorem vfRemove {base F : Nat} {w : World} {K : Nat → Prop} {S : VSt} {m : VMem} (h : Vf base w K F S m) (hok : S.Ok) (hops : S.ops ≤ 4611686018427387904) (s : ByteArray) (hs : s.size ≤ 9223372036854775806) (hlen : S.chg.length ≤ 1000000) :
    Calls Try.prog 32 #[ptV F, .string s] w (VPost base w K F (S.remove s)) := by
  have hb := h.baseLe
  have hFlt := (h.lo F h.kF).2
  have b1 := Bk.new w 25 #[ptV F]
  have hw1 := (FrK.refl w Kno).alloc (.cells #[ptV F] 25)
  have v1 := h.alloc (.cells #[ptV F] 25)
  obtain ⟨w1, e1⟩ : ∃ w1, w.alloc (.cells #[ptV F] 25) = w1 := ⟨_, rfl⟩
  rw [e1] at b1 hw1 v1
  have s1 : w1.heap.size = w.heap.size + 1 := by rw [← e1]; simp
  have b2 := Bk.new w1 9 #[.string s]
  have b12 := b1.alloc (.cells #[.string s] 9)
  have hw2 := hw1.alloc (.cells #[.string s] 9)
  have v2 := v1.alloc (.cells #[.string s] 9)
  obtain ⟨w2, e2⟩ : ∃ w2, w1.alloc (.cells #[.string s] 9) = w2 := ⟨_, rfl⟩
  rw [e2] at b2 b12 hw2 v2
  have c1 : w2.cell? ⟨w.heap.size, 0, none⟩ = some (ptV F) := by rw [b12.cell 0]; rfl
  have c2 : w2.cell? ⟨w1.heap.size, 0, none⟩ = some (.string s) := by rw [b2.cell 0]; rfl
  have C := vfOnPost v2 hok hops s hs 66 #[ptV w.heap.size, ptV w1.heap.size] (enters_of Try.func66 (by kernel_rfl) rfl) (fun T i => ({ T with chg := T.chg ++ [⟨noT, none, s⟩] }, 0))
    fun hn w3 i hv hf ho hi hl => vfRemove1 hv (vName_ne hn) _ (hf.bk b12 (by simp only [Kis]; omega)) (hf.bk b2 (by simp only [Kis]; omega)) (by rw [(strike_same S).2.1]; exact hlen)
  generalize hR : (S.op (vName s) fun T => match T.get s with | none => (T, 6) | some i => ({ T with chg := T.chg ++ [⟨noT, none, s⟩] }, 0)) = R at C
  have hR' : S.remove s = R := hR
  rw [hR']
  have C' : Calls Try.prog 39 #[ptV F, .bool true, .string s, .func (.func 66) #[] #[ptV w.heap.size, ptV w1.heap.size]] w2 (VPost base w K F R) := C.mono fun e w' hp => hp.after hw2 (fun _ e => e.elim) hb
  rw [s1] at C'
  have E1 := Lib.hid e1
  have E2 := Lib.hid e2
  clear hR hR' C h hok b1 hw1 v1 e1 b2 b12 hw2 v2 e2 s1
  have hmf : ∀ (fn : Fn) (first cap : Array Value) (w : World), (Instr.makeFunc fn first cap).run Try.prog w = .ok (.func fn first cap) w := fun _ _ _ _ => rfl
  go_enter Try.func32, Try.ntmps32
  go_wp2_with fail
  rw [E1.out, E2.out]
  refine C'.mono ?_
  rintro e w' ⟨rfl, hQ⟩
  go_wp2_with fail
  go_ret
  exact ⟨rfl, hQ⟩
end Go.Proofs.Ytdjmmdhjjdnbdaa

/- Layer 4: a new file; Create. -/
namespace Go.Proofs.Ytdjmmdhjjdnbdaa
open Go.RowKit

theorem Mh.congr {κ ν : Type} {kv : κ → Value} {vv vv' : ν → Value} {w : World} {b : Nat} {L : List (κ × ν)} (h : Mh kv vv w b L) (he : ∀ p ∈ L, vv p.2 = vv' p.2) : Mh kv vv' w b L := by
  obtain ⟨T, c, h1, rfl⟩ := h
  have hE : mhE kv vv T = mhE kv vv' T := by
    unfold mhE
    refine List.map_congr_left fun t ht => ?_
    rw [he t.1 (List.mem_map.2 ⟨t, ht, rfl⟩)]
  exact ⟨T, c, ⟨by rw [← hE]; exact h1.at_, h1.keys, h1.born, h1.lt⟩, rfl⟩
/-- Where all lies, with a new file. -/
def VMem.more (m : VMem) (n b : Nat) : VMem := { m with fb := fun j => if j = n then b else m.fb j, bv := fun j => if j = n then .slice none 0 0 else m.bv j }
section
variable {base F : Nat} {w : World} {K : Nat → Prop} {S : VSt} {m : VMem}
theorem Vf.addFile (h : Vf base w K F S m) (hok : S.Ok) :
    Vf base (w.alloc (.cells #[.slice none 0 0, .int .i64 0] 69)) (Kn K w.heap.size (w.heap.size + 1)) F { S with fs := S.fs ++ [⟨[], 0⟩] } (m.more S.fs.length w.heap.size) := by
  have ha := h.alloc (.cells #[.slice none 0 0, .int .i64 0] 69)
  have hsz : (w.alloc (.cells #[.slice none 0 0, .int .i64 0] 69)).heap.size = w.heap.size + 1 := by simp
  have hget : ∀ (j : Nat) (y : VFile), (S.fs ++ [⟨[], 0⟩])[j]? = some y → (j = S.fs.length ∧ y = ⟨[], 0⟩) ∨ (j ≠ S.fs.length ∧ S.fs[j]? = some y) := fun j y hy => by
    rcases Nat.lt_or_ge j S.fs.length with hj | hj
    · rw [List.getElem?_append_left hj] at hy
      exact .inr ⟨by omega, hy⟩
    · have hj1 : j = S.fs.length := by
        have := (List.getElem?_eq_some_iff.1 hy).1
        simp at this
        omega
      subst hj1
      rw [List.getElem?_append_right (Nat.le_refl _), Nat.sub_self] at hy
      simp at hy
      exact .inl ⟨rfl, hy.symm⟩
  have hfi : ∀ i, i < S.fs.length → fiV m.fb i = fiV (m.more S.fs.length w.heap.size).fb i := fun i hi => by
    simp only [fiV, VMem.more]
    rw [if_neg (by omega)]
  have hlo : ∀ i, i < S.fs.length → m.fb i < w.heap.size := fun i hi => (h.lo _ (h.kB i hi)).2
  refine { blk := ha.blk, dir := ha.dir.congr fun p hp => hfi _ (hok.dirN_lt (n := S.chg.length) (h.dirP.mem_iff.1 hp)), dirP := h.dirP, syn := ha.syn.congr fun p hp => hfi _ (hok.syn p (h.synP.mem_iff.1 hp)), synP := h.synP, chg := ha.chg, maps := ?_, file := ?_, row := ?_, inj := ?_, rinj := ?_, ne := h.ne, nec := h.nec, kF := .inl h.kF, kD := .inl h.kD, kS := .inl h.kS, kC := fun g e => .inl (h.kC g e), kM := fun b e => .inl (h.kM b e), kB := ?_, kR := ?_, lo := ?_ }
  · intro j b c h1 h2
    obtain ⟨C, h3, h4⟩ := ha.maps j b c h1 h2
    refine ⟨C, h3, h4.congr fun p hp => ?_⟩
    have hp' := h3.mem_iff.1 hp
    cases hp2 : p.2 with
    | none => rfl
    | some i =>
      have hc := hok.chg c (List.mem_of_getElem? h2)
      have hci : c.f = some i := by
        unfold chgL at hp'
        cases hf : c.f with
        | none =>
          simp only [hf] at hp'
          simp at hp'
          rw [hp'] at hp2
          cases hp2
        | some k =>
          simp only [hf] at hp'
          split at hp'
          · simp at hp'
            rw [hp'] at hp2
            exact hp2
          · simp at hp'
            rcases hp' with e | e
            · rw [e] at hp2
              cases hp2
            · rw [e] at hp2
              exact hp2
      exact hfi i (hc.1 i hci).1
  · intro j y hy
    rcases hget j y hy with ⟨rfl, rfl⟩ | ⟨hji, hy'⟩
    · simp only [VMem.more, if_true]
      exact Bk.new w _ _
    · simp only [VMem.more, if_neg hji]
      exact ha.file j y hy'
  · intro j y hy
    rcases hget j y hy with ⟨rfl, rfl⟩ | ⟨hji, hy'⟩
    · simp only [VMem.more, if_true]
      exact ⟨rfl, .inl ⟨rfl, rfl⟩⟩
    · simp only [VMem.more, if_neg hji]
      exact ha.row j y hy'
  · intro i j hi hj he
    simp at hi hj
    simp only [VMem.more] at he
    by_cases h1 : i = S.fs.length <;> by_cases h2 : j = S.fs.length
    · rw [h1, h2]
    · rw [if_pos h1, if_neg h2] at he
      have := hlo j (by omega)
      omega
    · rw [if_neg h1, if_pos h2] at he
      have := hlo i (by omega)
      omega
    · rw [if_neg h1, if_neg h2] at he
      exact h.inj i j (by omega) (by omega) he
  · intro i j hi hj g h3 h4
    simp at hi hj
    simp only [VMem.more] at h3 h4
    by_cases h1 : i = S.fs.length
    · rw [if_pos h1] at h3
      cases h3
    · by_cases h2 : j = S.fs.length
      · rw [if_pos h2] at h4
        cases h4
      · rw [if_neg h1] at h3
        rw [if_neg h2] at h4
        exact h.rinj i j (by omega) (by omega) g h3 h4
  · intro i hi
    simp at hi
    simp only [VMem.more]
    by_cases h1 : i = S.fs.length
    · rw [if_pos h1]
      exact .inr ⟨Nat.le_refl _, Nat.lt_succ_self _⟩
    · rw [if_neg h1]
      exact .inl (h.kB i (by omega))
  · intro i hi g hg
    simp at hi
    simp only [VMem.more] at hg
    by_cases h1 : i = S.fs.length
    · rw [if_pos h1] at hg
      cases hg
    · rw [if_neg h1] at hg
      exact .inl (h.kR i (by omega) g hg)
  · intro b e
    rw [hsz]
    rcases e with e | ⟨h1, h2⟩
    · have := h.lo b e
      exact ⟨this.1, by omega⟩
    · exact ⟨Nat.le_trans h.baseLe h1, h2⟩
end
end Go.Proofs.Ytdjmmdhjjdnbdaa

/- Layer 4: Create. -/
namespace Go.Proofs.Ytdjmmdhjjdnbdaa
open Go.RowKit

set_option maxRecDepth 100000 in
set_option maxHeartbeats 1000000 in
theorem vfCreate1 {base F bF bN : Nat} {w : World} {K : Nat → Prop} {S : VSt} {m : VMem} (h : Vf base w K F S m) (hok : S.Ok) {s : ByteArray} (hs : s ≠ noT)
    (hF : Bk w bF 25 #[ptV F]) (hN : Bk w bN 9 #[.string s]) (hlen : S.chg.length ≤ 1000000) (R : VSt × Nat)
    (hR : R = match S.get s with | some _ => (S, 5) | none => ({ S with chg := S.chg ++ [⟨s, some S.fs.length, noT⟩], fs := S.fs ++ [⟨[], 0⟩] }, 0)) :
    Calls Try.prog 37 #[ptV bF, ptV bN] w (VPost base w K F R) := by
  have c0 : w.cell? ⟨bF, 0, none⟩ = some (ptV F) := by rw [hF.cell 0]; rfl
  have c1 : w.cell? ⟨bN, 0, none⟩ = some (.string s) := by rw [hN.cell 0]; rfl
  have c3 : w.cell? ⟨F, 2, none⟩ = some (maV m.db) := by rw [h.blk.cell 2]; rfl
  have hlk := h.drew.look s true
  simp only [if_true] at hlk
  have hmm := @run_makeMap Try.prog
  cases hg : S.get s with
  | some i =>
    rw [hg] at hlk hR
    simp only [Option.map_some, Option.getD_some, Option.isSome_some] at hlk
    subst hR
    have H := Lib.hid h
    clear h hok hF hN hg
    go_enter Try.func37, Try.ntmps37
    go_wp2_with fail
    go_region
    go_wp2_with fail
    go_ret
    exact VPost.of H.out rfl H.out.drew (FrK.refl w Kno).drew fun _ e => e.elim
  | none =>
    rw [hg] at hlk hR
    simp only [Option.map_none, Option.getD_none, Option.isSome_none] at hlk
    have m1 := Mh.new (kv := strV) (vv := fiO (m.more S.fs.length (w.heap.size + 1)).fb) w
    have v1 := h.alloc (.map #[] 0)
    have hN1 := hN.alloc (.map #[] 0)
    have fr1 := (FrK.refl w Kno).alloc (.map #[] 0)
    have k1 : (w.alloc (.map #[] 0)).cell? ⟨bN, 0, none⟩ = some (.string s) := by rw [hN1.cell 0]; rfl
    obtain ⟨w1, e1⟩ : ∃ w1, w.alloc (.map #[] 0) = w1 := ⟨_, rfl⟩
    have s1 : w1.heap.size = w.heap.size + 1 := by rw [← e1]; simp
    rw [e1] at m1 v1 fr1
    have v2 := (v1.addFile hok).drew
    have m2 := (m1.alloc (.cells #[.slice none 0 0, .int .i64 0] 69)).drew
    have fr2 := (fr1.alloc (.cells #[.slice none 0 0, .int .i64 0] 69)).drew
    rw [s1] at v2
    obtain ⟨w2, e2⟩ : ∃ w2, (w1.alloc (.cells #[.slice none 0 0, .int .i64 0] 69)).drew = w2 := ⟨_, rfl⟩
    have s2 : w2.heap.size = w1.heap.size + 1 := by rw [← e2]; simp [World.drew]
    rw [e2] at v2 m2 fr2
    have H := Lib.hid h
    have E1 := Lib.hid e1
    have E2 := Lib.hid e2
    have M2 := Lib.hid m2
    have V2 := Lib.hid v2
    have FR2 := Lib.hid fr2
    have S1 := Lib.hid s1
    have S2 := Lib.hid s2
    have HR := Lib.hid hR
    clear h hok hF hN hg e1 e2 m1 m2 v1 v2 fr1 fr2 s1 s2 hN1 hR
    go_enter Try.func37, Try.ntmps37
    go_wp2_with fail
    go_region
    go_wp2_with (first
      | (rw [E1.out, E2.out]; refine wpList_mhIns _ rfl (.tmp 16) (.tmp 17) (.tmp 19) 70 rfl (strRun Try.underlying9) Try.underlying70 w.heap.size _ rfl M2.out s (some S.fs.length) rfl (by simp [fiO, VMem.more]; rfl) ?_
         rintro w3 hm3 hg3 hs3)
      | fail)
    have h := H.out
    have hs3' : w3.heap.size = w.heap.size + 2 := by rw [hs3, S2.out, S1.out]
    have hfr : FrK w2 w3 (Kis w.heap.size) := FrK.of_grown hg3 fun b _ e => (Option.some.inj e).symm
    have v3 := (V2.out.keep hfr fun b hb e => by
      simp only [Kis] at e
      rcases hb with hb | ⟨h1, h2⟩
      · have := (h.lo b hb).2
        omega
      · omega).bigger (K' := Kn K w.heap.size w3.heap.size) (fun b e => e.imp id fun ⟨h1, h2⟩ => ⟨by omega, by omega⟩) fun b e => by
        rcases e with e | ⟨h1, h2⟩
        · have := h.lo b e
          exact ⟨this.1, by omega⟩
        · exact ⟨Nat.le_trans h.baseLe h1, h2⟩
    have hdl := h.dir.lt
    have hsl := h.syn.lt
    have C := vfNote v3 (c := ⟨s, some S.fs.length, noT⟩) (n := S.fs.length + 1) ⟨(fun i e => ⟨by injection e with e1; omega, fun e2 => hs e2.symm⟩), (fun e => by cases e)⟩
      (show Mh strV (fiO (m.more S.fs.length (w.heap.size + 1)).fb) w3 w.heap.size [(s, some S.fs.length)] from hm3) (by simp [chgL]) ⟨by simp only [VMem.more]; omega, by simp only [VMem.more]; omega⟩ (.inr ⟨Nat.le_refl _, by omega⟩) hlen
    refine C.mono ?_
    rintro e w' ⟨rfl, ⟨m', -, -, hv⟩, hf⟩
    go_wp2_with fail
    go_ret
    have hR := HR.out
    subst hR
    refine ⟨rfl, m', hv.knn (by omega) hf.size, ((FR2.out.mono fun _ _ e => e.elim).trans hfr fun b hb e => ?_).trans hf fun b hb e => ?_⟩
    · simp only [Kis] at e
      omega
    · rcases e with e | ⟨h1, h2⟩
      · exact e
      · omega
end Go.Proofs.Ytdjmmdhjjdnbdaa

/- Layer 4: Create. -/
namespace Go.Proofs.Ytdjmmdhjjdnbdaa
open Go.RowKit

/-- What op's caller has to show. -/
theorem vfOpPost {base F n c B : Nat} {A : Option Addr} {w : World} {K : Nat → Prop} {S : VSt} {m : VMem} (h : Vf base w K F S m) (hok : S.Ok) (hops : S.ops ≤ 4611686018427387904)
    (xs : List ByteArray) (hr : Rd w B A (xs.map strV)) (hn : xs.length = n) (hnl : n ≤ 9223372036854775807) (hs : ∀ s ∈ xs, s.size ≤ 9223372036854775806)
    (g : Nat) (lb : Array Value) (eg : ∀ args w, (callFunc g args).run Try.prog w = .ok (.enter g args) w) (d : VSt → VSt × Nat)
    (q : xs.all vName = true → ∀ w1, Vf base w1 K F S.strike.1 m → FrK w w1 (Kis F) → S.strike.1.Ok → Calls Try.prog g lb w1 (VPost base w1 K F (d S.strike.1))) :
    Calls Try.prog 36 #[ptV F, .bool true, .func (.func g) #[] lb, .slice A n c] w (VPost base w K F (S.op (xs.all vName) d)) := by
  have hb := h.baseLe
  refine vfOp h hok hops true xs hr hn hnl hs g lb eg _ (fun hb1 => ?_) (fun hr w1 hv hf hne => ?_) (fun hr w1 hv hf he => ?_)
  · have e1 : xs.all vName = false := by simpa using hb1
    refine VPost.of h (r := 2) ?_ h (FrK.refl w Kno) fun b hb => hb.elim
    rw [e1, op_bad rfl]
  · have e1 : xs.all vName = true := by simpa using hr
    refine VPost.of h ?_ hv hf fun b hb => hb ▸ h.kF
    rw [e1, op_struck hne]
  · have e1 : xs.all vName = true := by simpa using hr
    refine (q e1 w1 hv hf hok.strike).mono ?_
    intro e w' hp
    have hp' := hp.after hf (fun b hb => hb ▸ h.kF) hb
    rw [e1, op_done he]
    exact ⟨_, hp'.1, hp'⟩
set_option maxRecDepth 100000 in
set_option maxHeartbeats 1000000 in
theorem vfCreate {base F : Nat} {w : World} {K : Nat → Prop} {S : VSt} {m : VMem} (h : Vf base w K F S m) (hok : S.Ok) (hops : S.ops ≤ 4611686018427387904) (s : ByteArray) (hs : s.size ≤ 9223372036854775806) (hlen : S.chg.length ≤ 1000000) :
    Calls Try.prog 12 #[ptV F, .string s] w (VPost base w K F (S.create s)) := by
  have hb := h.baseLe
  have hFlt := (h.lo F h.kF).2
  have b1 := Bk.new w 25 #[ptV F]
  have hw1 := (FrK.refl w Kno).alloc (.cells #[ptV F] 25)
  have v1 := h.alloc (.cells #[ptV F] 25)
  obtain ⟨w1, e1⟩ : ∃ w1, w.alloc (.cells #[ptV F] 25) = w1 := ⟨_, rfl⟩
  rw [e1] at b1 hw1 v1
  have s1 : w1.heap.size = w.heap.size + 1 := by rw [← e1]; simp
  have b2 := Bk.new w1 9 #[.string s]
  have b12 := b1.alloc (.cells #[.string s] 9)
  have hw2 := hw1.alloc (.cells #[.string s] 9)
  have v2 := v1.alloc (.cells #[.string s] 9)
  obtain ⟨w2, e2⟩ : ∃ w2, w1.alloc (.cells #[.string s] 9) = w2 := ⟨_, rfl⟩
  rw [e2] at b2 b12 hw2 v2
  have s2 : w2.heap.size = w1.heap.size + 1 := by rw [← e2]; simp
  have b13 := b12.alloc (.cells #[.string s] 9)
  have b23 := b2.alloc (.cells #[.string s] 9)
  have hw3 := hw2.alloc (.cells #[.string s] 9)
  have v3 := v2.alloc (.cells #[.string s] 9)
  have rd3 : Rd (w2.alloc (.cells #[.string s] 9)) (w2.heap.size + 1) (some ⟨w2.heap.size, 0, none⟩) ([s].map strV) := Rd.lit w2 #[.string s] 9
  have c1 : w2.cell? ⟨w.heap.size, 0, none⟩ = some (ptV F) := by rw [b12.cell 0]; rfl
  have c2 : w2.cell? ⟨w1.heap.size, 0, none⟩ = some (.string s) := by rw [b2.cell 0]; rfl
  obtain ⟨w3, e3⟩ : ∃ w3, w2.alloc (.cells #[.string s] 9) = w3 := ⟨_, rfl⟩
  rw [e3] at b13 b23 hw3 v3 rd3
  have C := vfOpPost (n := 1) (c := 1) v3 hok hops [s] rd3 rfl (by omega) (fun t ht => by simp at ht; subst ht; exact hs) 37 #[ptV w.heap.size, ptV w1.heap.size] (enters_of Try.func37 (by kernel_rfl) rfl)
    (fun T => match T.get s with | some _ => (T, 5) | none => ({ T with chg := T.chg ++ [⟨s, some T.fs.length, noT⟩], fs := T.fs ++ [⟨[], 0⟩] }, 0))
    fun hn w4 hv hf ho => vfCreate1 hv ho (vName_ne (by simpa using hn)) (hf.bk b13 (by simp only [Kis]; omega)) (hf.bk b23 (by simp only [Kis]; omega)) (by rw [(strike_same S).2.1]; exact hlen) _ rfl
  have hall : [s].all vName = vName s := by simp
  rw [hall] at C
  generalize hR : (S.op (vName s) fun T => match T.get s with | some _ => (T, 5) | none => ({ T with chg := T.chg ++ [⟨s, some T.fs.length, noT⟩], fs := T.fs ++ [⟨[], 0⟩] }, 0)) = R at C
  have hR' : S.create s = R := hR
  rw [hR']
  have C' : Calls Try.prog 36 #[ptV F, .bool true, .func (.func 37) #[] #[ptV w.heap.size, ptV w1.heap.size], .slice (some ⟨w2.heap.size, 0, none⟩) 1 1] w3 (VPost base w K F R) := C.mono fun e w' hp => hp.after hw3 (fun _ e => e.elim) hb
  rw [s2, s1] at C'
  have E1 := Lib.hid e1
  have E2 := Lib.hid e2
  have E3 := Lib.hid e3
  clear hR hR' C hall h hok b1 hw1 v1 e1 b2 b12 hw2 v2 e2 s1 s2 b13 b23 hw3 v3 rd3 e3
  have hmf : ∀ (fn : Fn) (first cap : Array Value) (w : World), (Instr.makeFunc fn first cap).run Try.prog w = .ok (.func fn first cap) w := fun _ _ _ _ => rfl
  go_enter Try.func12, Try.ntmps12
  go_wp2_with fail
  rw [E1.out, E2.out, E3.out]
  refine C'.mono ?_
  rintro e w' ⟨rfl, hQ⟩
  go_wp2_with fail
  go_ret
  exact ⟨rfl, hQ⟩
end Go.Proofs.Ytdjmmdhjjdnbdaa

/- Layer 4: Fuse, Fault, On, Ops, Size. -/
namespace Go.Proofs.Ytdjmmdhjjdnbdaa
open Go.RowKit

section
variable {base F : Nat} {w : World} {K : Nat → Prop} {S : VSt} {m : VMem}
set_option maxRecDepth 100000 in
set_option maxHeartbeats 1000000 in
theorem vfFuse (h : Vf base w K F S m) (n : Int) :
    Calls Try.prog 24 #[ptV F, .int .i64 n] w (VPost base w K F (S.setFuse n, 0)) := by
  have cN := vfNone h
  have c6 : w.cell? ⟨F, 6, none⟩ = some (.int .i64 S.fuse) := by rw [h.blk.cell 6]; rfl
  have f6 := h.blk.frozen 6
  have V : ∀ a, a = max (-1) n → VPost base w K F (S.setFuse n, 0) (.returned (.int .i64 (0 : Nat))) (w.setCell ⟨F, 6, none⟩ (.int .i64 a)) := fun a ha => by
    subst ha
    exact VPost.of h rfl (h.stored (S' := S.setFuse n) 6 _ (by simp [fsC, VSt.setFuse]) rfl rfl rfl) (FrK.set w F 6 _) fun b e => e ▸ h.kF
  have HV := Lib.hid V
  clear V h
  go_enter Try.func24, Try.ntmps24
  go_wp2_with fail
  refine cN.mono ?_
  rintro e w' ⟨rfl, rfl⟩
  go_wp2_with fail
  all_goals go_ret
  all_goals exact HV.out _ (by omega)
set_option maxRecDepth 100000 in
theorem vfOn_ (h : Vf base w K F S m) :
    Calls Try.prog 25 #[ptV F] w fun e w' => e = .returned (.bool (!S.off)) ∧ w' = w := by
  have cN := vfNone h
  have c5 : w.cell? ⟨F, 5, none⟩ = some (.bool S.off) := by rw [h.blk.cell 5]; rfl
  clear h
  go_enter Try.func25, Try.ntmps25
  go_wp2_with fail
  refine cN.mono ?_
  rintro e w' ⟨rfl, rfl⟩
  go_wp2_with fail
  go_ret
  exact ⟨rfl, rfl⟩
set_option maxRecDepth 100000 in
theorem vfOps (h : Vf base w K F S m) :
    Calls Try.prog 35 #[ptV F] w fun e w' => e = .returned (.int .i64 (S.ops : Nat)) ∧ w' = w := by
  have cN := vfNone h
  have c9 : w.cell? ⟨F, 9, none⟩ = some (.int .i64 (S.ops : Nat)) := by rw [h.blk.cell 9]; rfl
  clear h
  go_enter Try.func35, Try.ntmps35
  go_wp2_with fail
  refine cN.mono ?_
  rintro e w' ⟨rfl, rfl⟩
  go_wp2_with fail
  go_ret
  exact ⟨rfl, rfl⟩
set_option maxRecDepth 100000 in
set_option maxHeartbeats 1000000 in
theorem vfSize (h : Vf base w K F S m) (hok : S.Ok) (s : ByteArray) :
    Calls Try.prog 18 #[ptV F, .string s] w fun e w' => e = .returned (.int .i64 (S.size s)) ∧ w' = w := by
  have cN := vfNone h
  have c3 : w.cell? ⟨F, 2, none⟩ = some (maV m.db) := by rw [h.blk.cell 2]; rfl
  have hlk := h.look s true
  simp only [if_true] at hlk
  cases hg : S.get s with
  | none =>
    rw [hg] at hlk
    simp only [Option.map_none, Option.getD_none, Option.isSome_none] at hlk
    have hsz : S.size s = -1 := by unfold VSt.size; rw [hg]
    rw [hsz]
    clear h hok hg hsz
    go_enter Try.func18, Try.ntmps18
    go_wp2_with fail
    refine cN.mono ?_
    rintro e w' ⟨rfl, rfl⟩
    go_wp2_with fail
    go_ret
    exact ⟨rfl, rfl⟩
  | some i =>
    rw [hg] at hlk
    simp only [Option.map_some, Option.getD_some, Option.isSome_some] at hlk
    have hi := hok.get_lt hg
    have hf := h.file i _ (file_at hi)
    obtain ⟨A, c, hv, -, -⟩ := own_form (h.row i _ (file_at hi))
    have c0 : w.cell? ⟨m.fb i, 0, none⟩ = some (.slice A (S.file i).b.length c) := by rw [hf.cell 0, ← hv]; rfl
    have hsz : S.size s = ((S.file i).b.length : Int) := by unfold VSt.size; rw [hg]
    rw [hsz]
    clear h hok hg hsz hf hv
    go_enter Try.func18, Try.ntmps18
    go_wp2_with fail
    refine cN.mono ?_
    rintro e w' ⟨rfl, rfl⟩
    go_wp2_with fail
    go_ret
    exact ⟨rfl, rfl⟩
end
end Go.Proofs.Ytdjmmdhjjdnbdaa

/- Layer 4: Fault. -/
namespace Go.Proofs.Ytdjmmdhjjdnbdaa
open Go.RowKit

set_option maxRecDepth 100000 in
set_option maxHeartbeats 1000000 in
theorem vfFault {base F : Nat} {w : World} {K : Nat → Prop} {S : VSt} {m : VMem} (h : Vf base w K F S m) (n e : Int) :
    Calls Try.prog 26 #[ptV F, .int .i64 n, .int .i64 e] w (VPost base w K F (S.setFault n e)) := by
  have cN := vfNone h
  by_cases h7 : e ≠ 7 ∧ e ≠ 8
  · have a7 : (e != 7) = true := by simp; exact h7.1
    have a8 : (e != 8) = true := by simp; exact h7.2
    have hR : S.setFault n e = (S, 2) := by unfold VSt.setFault; rw [if_pos h7]
    rw [hR]
    have V := VPost.of (r := 2) h rfl h (FrK.refl w Kno) fun _ e => e.elim
    clear h h7 hR
    go_enter Try.func26, Try.ntmps26
    go_wp2_with fail
    refine cN.mono ?_
    rintro e' w' ⟨rfl, rfl⟩
    go_wp2_with fail
    go_ret
    exact V
  · have hR : S.setFault n e = ({ S with fault := max (-1) n, err := e.toNat }, 0) := by unfold VSt.setFault; rw [if_neg h7]
    have he : e = 7 ∨ e = 8 := by omega
    have c7 : w.cell? ⟨F, 7, none⟩ = some (.int .i64 S.fault) := by rw [h.blk.cell 7]; rfl
    have c8 : w.cell? ⟨F, 8, none⟩ = some (.int .i64 (S.err : Nat)) := by rw [h.blk.cell 8]; rfl
    have f7 := h.blk.frozen 7
    have f8 := h.blk.frozen 8
    have V : ∀ a, a = max (-1) n → VPost base w K F (S.setFault n e) (.returned (.int .i64 (0 : Nat))) ((w.setCell ⟨F, 7, none⟩ (.int .i64 a)).setCell ⟨F, 8, none⟩ (.int .i64 e)) := fun a ha => by
      subst ha
      have he' : e = (e.toNat : Int) := by omega
      rw [hR]
      have v1 := h.stored (S' := { S with fault := max (-1) n }) 7 (.int .i64 (max (-1) n)) (by simp [fsC]) rfl rfl rfl
      have v2 := v1.stored (S' := { S with fault := max (-1) n, err := e.toNat }) 8 (.int .i64 e) (by simp [fsC]; omega) rfl rfl rfl
      exact VPost.of h rfl v2 ((FrK.set w F 7 _).trans (FrK.set _ F 8 _) fun _ _ x => x) fun b x => x ▸ h.kF
    have HV := Lib.hid V
    clear V h h7 hR
    rcases he with rfl | rfl
    · go_enter Try.func26, Try.ntmps26
      go_wp2_with fail
      refine cN.mono ?_
      rintro e' w' ⟨rfl, rfl⟩
      go_wp2_with fail
      all_goals go_ret
      all_goals exact HV.out _ (by omega)
    · go_enter Try.func26, Try.ntmps26
      go_wp2_with fail
      refine cN.mono ?_
      rintro e' w' ⟨rfl, rfl⟩
      go_wp2_with fail
      all_goals go_ret
      all_goals exact HV.out _ (by omega)
end Go.Proofs.Ytdjmmdhjjdnbdaa
