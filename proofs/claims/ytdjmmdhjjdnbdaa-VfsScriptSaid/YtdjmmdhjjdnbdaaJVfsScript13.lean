/- Texts of the proof of VfsScriptSaid, joined: VrC VrD VrE VrF VrG VrH VrI VrJ. -/
import Derived.Test.YtdjmmdhjjdnbdaaJVfsScript12
/- Layer 4: the document's directory behind its first n changes: the walk. -/
namespace Go.Proofs.Ytdjmmdhjjdnbdaa
open Go.RowKit
theorem loadRch_shutC (a : Addr) : loadVar 99 a = loadK 99 a := rfl
attribute [local go_sem ↓] loadRch_shutC

/-- What dir answers. -/
def DirPost (w : World) (fb : Nat → Nat) (L : List (ByteArray × Nat)) (e : Ending) (w' : World) : Prop :=
  ∃ d D, e = .returned (maV d) ∧ Mh strV (fiV fb) w' d D ∧ D.Perm L ∧ w.heap.size ≤ d ∧ Below w.heap.size w w'
theorem strEmpty {s : ByteArray} : s.toList.isEmpty = decide (s = noT) := by
  have h := strEqV (s := s) (t := noT)
  have h0 : noT.toList = [] := by decide +kernel
  rw [h0] at h
  rw [← h]
  cases s.toList <;> rfl
theorem perm_del {κ ν : Type} [DecidableEq κ] {k : κ} {L M : List (κ × ν)} (h : L.Perm M) : (mgDel k L).Perm (mgDel k M) := h.filter _
set_option maxRecDepth 100000 in
set_option maxHeartbeats 4000000 in
theorem rvDir {base F : Nat} {w : World} {K : Nat → Prop} {S : VSt} {m : RMem} (h : Rf base w K F S m) (hok : S.Ok) (hlen : S.chg.length ≤ 1000000) (n : Nat) (hn : n ≤ S.chg.length) :
    Calls Try.prog 78 #[ptV F, .int .i64 n] w (DirPost w m.fb (S.dirN n)) := by
  have hmm := @run_makeMap Try.prog
  have c1 : w.cell? ⟨F, 1, none⟩ = some (maV m.sb) := by rw [h.blk.cell 1]; rfl
  have c2 : w.cell? ⟨F, 2, none⟩ = some m.cv := by rw [h.blk.cell 2]; rfl
  have hFl := h.blk.lt
  have d0 := Mh.new (kv := strV) (vv := fiV m.fb) w
  have b0 : Below w.heap.size w (w.alloc (.map #[] 0)) := (Below.refl _ w).alloc (Nat.le_refl _) _
  have y0 := h.syn.alloc (.map #[] 0)
  obtain ⟨w1, hw1⟩ : ∃ w1, w.alloc (.map #[] 0) = w1 := ⟨_, rfl⟩
  have s1 : w1.heap.size = w.heap.size + 1 := by rw [← hw1]; simp
  rw [hw1] at d0 b0 y0
  obtain ⟨c0, hrange, rg0⟩ := Rh.start y0
  have hrg := hrange (P := Try.prog) Try.underlying79
  have d1 := d0.alloc (.mapIter (some m.sb) c0 #[] c0)
  have b1 : Below w.heap.size w (w1.alloc (.mapIter (some m.sb) c0 #[] c0)) := b0.alloc (by omega) _
  have k1 : w1.cell? ⟨F, 1, none⟩ = some (maV m.sb) := by rw [b0.cell (by exact hFl)]; exact c1
  obtain ⟨w2, hw2⟩ : ∃ w2, w1.alloc (.mapIter (some m.sb) c0 #[] c0) = w2 := ⟨_, rfl⟩
  have s2 : w2.heap.size = w1.heap.size + 1 := by rw [← hw2]; simp
  obtain ⟨d, hd⟩ : ∃ d, w.heap.size = d := ⟨_, rfl⟩
  obtain ⟨r, hr⟩ : ∃ r, w1.heap.size = r := ⟨_, rfl⟩
  have hsl := h.syn.lt
  have hne : m.sb ≠ d := by omega
  have hrd : r ≠ d := by omega
  have hrge : d ≤ r := by omega
  have hdl : d < w2.heap.size := by omega
  rw [hw2] at rg0 hrg d1 b1
  rw [hd] at d1
  rw [hr] at rg0 hrg
  have H := Lib.hid h
  have HOK := Lib.hid hok
  have D1 := Lib.hid d1
  have B1 := Lib.hid b1
  have RG := Lib.hid rg0
  have HW1 := Lib.hid hw1
  have HW2 := Lib.hid hw2
  have HD := Lib.hid hd
  have HR := Lib.hid hr
  have C2 := Lib.hid c2
  have HN := Lib.hid h.syn.nodup
  have HYP := Lib.hid h.synP
  have HY := Lib.hid hsl
  have HFL := Lib.hid hFl
  clear h hok d0 b0 y0 d1 b1 rg0 hw1 hw2 hd hr c2 hrange hsl s1 s2 hFl
  go_enter Try.func78, Try.ntmps78
  go_upto_region 2 with fail
  rw [HW1.out, HD.out]
  go_wp2_with fail
  go_loopw [6, 7] (fun _ _ wr => ∃ Z, Hid (Rh strV (fiV m.fb) wr m.sb r m.Y Z) ∧ Hid (Mh strV (fiV m.fb) wr d Z) ∧ Hid (Below w.heap.size w wr)) (fun _ _ wr => m.Y.length - itN wr r)
  case atStart => exact ⟨[], RG, D1, B1⟩
  case round =>
    obtain ⟨Z, RG1, HD1, HB1⟩ := hrel
    rcases RG1.out.next (P := Try.prog) 0 with ⟨hperm, hrun⟩ | ⟨k, v, w3, hmem, hnm, hrun, hrg2, hlenZ, hgr, hsz⟩
    · have hnx : ∀ ty, (Instr.next (.pointer (some ⟨r, 0, none⟩)) false ty).run Try.prog wr = _ := fun _ => hrun
      have HP := Lib.hid (hperm.trans HYP.out)
      clear hperm RG1 RG D1 B1
      go_wp2_with fail
      go_loopw [8] (fun i_ wx => ∃ (j : Nat) (D : List (ByteArray × Nat)), j ≤ n ∧ i_ = .int .i64 j ∧ Hid (Mh strV (fiV m.fb) wx d D) ∧ Hid (D.Perm (S.dirN j)) ∧ Hid (Below w.heap.size w wx)) (fun i_ _ => n - (intOf i_).toNat)
      case atStart => exact ⟨0, Z, Nat.zero_le _, rfl, HD1, HP, HB1⟩
      case round =>
        obtain ⟨j, D, hjn, rfl, HD2, HP2, HB2⟩ := hrel
        by_cases hlt : j < n
        · have hlt' : (j : Int) < (n : Int) := by omega
          have hjc : j < S.chg.length := by omega
          obtain ⟨g, cap, hv, -, hcc, hld⟩ := H.out.chgAt (K' := Kno) hjc
          have hsucc := dirN_succ (S := S) hjc
          obtain ⟨c, hc⟩ : ∃ c, S.chg[j] = c := ⟨_, rfl⟩
          rw [hc] at hld hsucc
          obtain ⟨N, hNN⟩ : ∃ N, S.chg.length = N := ⟨_, rfl⟩
          have C2N := C2.out
          rw [hv, hNN] at C2N
          have hjN : (j : Int) < (N : Int) := by omega
          obtain ⟨nm, f, gn⟩ := c
          have HS := Lib.hid hsucc
          have HNN := Lib.hid hNN
          clear hsucc
          rcases f with _ | x
          · have F9 : Hid (∀ W, Below w.heap.size w W → W.cell? ⟨F, 2, none⟩ = some (.slice (some ⟨g, 0, none⟩) N cap) ∧ (loadK 99 ⟨g, j * 3, none⟩).run Try.prog W = .ok (.agg #[.string nm, .pointer none, .string gn]) W) := Lib.hid fun W hW => ⟨by rw [hW.cell (by exact HFL.out)]; exact C2N, hld W (FrK.of_below hW (Nat.le_refl _) Kno) id⟩
            obtain ⟨l2, l9⟩ := F9.out _ HB2.out
            have bk5 := Bk.new wr 99 #[.string nm, .pointer none, .string gn]
            have hd5 := HD2.out.alloc (.cells #[.string nm, .pointer none, .string gn] 99)
            have hb5 : Below w.heap.size w (wr.alloc (.cells #[.string nm, .pointer none, .string gn] 99)) := HB2.out.alloc HB2.out.size _
            obtain ⟨w5, hw5⟩ : ∃ w5, wr.alloc (.cells #[.string nm, .pointer none, .string gn] 99) = w5 := ⟨_, rfl⟩
            obtain ⟨q, hq⟩ : ∃ q, wr.heap.size = q := ⟨_, rfl⟩
            have hqd : some q ≠ some d := fun e => by
              have h1 := HD2.out.lt
              have h2 := Option.some.inj e
              omega
            have hdk : ∀ z, some d = some z → w.heap.size ≤ z := fun z e => by
              have h1 := HD.out
              have h2 := Option.some.inj e
              omega
            rw [hw5] at bk5 hd5 hb5
            rw [hq] at bk5
            have y0 := bk5.cell 0
            have y1 := bk5.cell 1
            have y2 := bk5.cell 2
            simp at y0 y1 y2
            have hcp := chgOn_perm (c := ⟨nm, none, gn⟩) HP2.out HD2.out.nodup
            have HCP := Lib.hid hcp
            have BK5 := Lib.hid bk5
            have HD5 := Lib.hid hd5
            have HB5 := Lib.hid hb5
            have HW5 := Lib.hid hw5
            have HQ := Lib.hid hq
            have hadd : IntKind.i64.wrap ((j : Int) + 1) = (j : Int) + 1 := IntWalk.i64_in _ ⟨by omega, by omega⟩
            clear hv hcc hld hc C2N hNN bk5 hd5 hb5 hw5 hq hcp
            go_upto_region 10 with fail
            rw [HW5.out, HQ.out]
            clear l2 l9
            by_cases hgn : gn = noT
            · have hg1 : gn.toList.isEmpty = true := by rw [strEmpty]; exact decide_eq_true hgn
              have HGN := Lib.hid hgn
              clear hgn
              go_wp2_with (first
                | fail)
              have hch : chgOn D ⟨nm, none, gn⟩ = D := by
                unfold chgOn
                simp only
                rw [if_pos HGN.out]
              exact ⟨⟨j + 1, _, by omega, by go_num, Lib.hid HD5.out, Lib.hid (by rw [HS.out]; exact (hch ▸ HCP.out : List.Perm _ _)), Lib.hid HB5.out⟩, by simp only [intOf]; omega⟩
            · have hg1 : gn.toList.isEmpty = false := by rw [strEmpty]; exact decide_eq_false hgn
              go_wp2_with (first
                | (refine wpList_mhDel _ rfl (.tmp 39) (.tmp 41) 79 9 rfl (strRun Try.underlying9) Try.underlying79 d _ rfl HD5.out gn rfl ?_
                   rintro w6 hm6 hg6 hs6
                   have bk6 := BK5.out.grown hg6 hqd
                   have z0 := bk6.cell 0
                   have z1 := bk6.cell 1
                   simp at z0 z1
                   have HM6 := Lib.hid hm6)
                | fail)
              have hch : chgOn D ⟨nm, none, gn⟩ = (mgDel gn D) := by
                unfold chgOn
                simp only
                rw [if_neg hgn]
                rfl
              exact ⟨⟨j + 1, _, by omega, by go_num, Lib.hid hm6, Lib.hid (by rw [HS.out]; exact (hch ▸ HCP.out : List.Perm _ _)), Lib.hid (HB5.out.grown hg6 HB5.out.size hdk)⟩, by simp only [intOf]; omega⟩
          · have F9 : Hid (∀ W, Below w.heap.size w W → W.cell? ⟨F, 2, none⟩ = some (.slice (some ⟨g, 0, none⟩) N cap) ∧ (loadK 99 ⟨g, j * 3, none⟩).run Try.prog W = .ok (.agg #[.string nm, ptV (m.fb x), .string gn]) W) := Lib.hid fun W hW => ⟨by rw [hW.cell (by exact HFL.out)]; exact C2N, hld W (FrK.of_below hW (Nat.le_refl _) Kno) id⟩
            obtain ⟨l2, l9⟩ := F9.out _ HB2.out
            have bk5 := Bk.new wr 99 #[.string nm, ptV (m.fb x), .string gn]
            have hd5 := HD2.out.alloc (.cells #[.string nm, ptV (m.fb x), .string gn] 99)
            have hb5 : Below w.heap.size w (wr.alloc (.cells #[.string nm, ptV (m.fb x), .string gn] 99)) := HB2.out.alloc HB2.out.size _
            obtain ⟨w5, hw5⟩ : ∃ w5, wr.alloc (.cells #[.string nm, ptV (m.fb x), .string gn] 99) = w5 := ⟨_, rfl⟩
            obtain ⟨q, hq⟩ : ∃ q, wr.heap.size = q := ⟨_, rfl⟩
            have hqd : some q ≠ some d := fun e => by
              have h1 := HD2.out.lt
              have h2 := Option.some.inj e
              omega
            have hdk : ∀ z, some d = some z → w.heap.size ≤ z := fun z e => by
              have h1 := HD.out
              have h2 := Option.some.inj e
              omega
            rw [hw5] at bk5 hd5 hb5
            rw [hq] at bk5
            have y0 := bk5.cell 0
            have y1 := bk5.cell 1
            have y2 := bk5.cell 2
            simp at y0 y1 y2
            have hcp := chgOn_perm (c := ⟨nm, some x, gn⟩) HP2.out HD2.out.nodup
            have HCP := Lib.hid hcp
            have BK5 := Lib.hid bk5
            have HD5 := Lib.hid hd5
            have HB5 := Lib.hid hb5
            have HW5 := Lib.hid hw5
            have HQ := Lib.hid hq
            have hadd : IntKind.i64.wrap ((j : Int) + 1) = (j : Int) + 1 := IntWalk.i64_in _ ⟨by omega, by omega⟩
            clear hv hcc hld hc C2N hNN bk5 hd5 hb5 hw5 hq hcp
            go_upto_region 10 with fail
            rw [HW5.out, HQ.out]
            clear l2 l9
            by_cases hgn : gn = noT
            · have hg1 : gn.toList.isEmpty = true := by rw [strEmpty]; exact decide_eq_true hgn
              have HGN := Lib.hid hgn
              clear hgn
              go_wp2_with (first
                | (refine wpList_mhPut _ rfl (.tmp 45) (.tmp 47) (.tmp 49) 79 rfl (strRun Try.underlying9) Try.underlying79 d _ rfl HD5.out nm x rfl rfl ?_
                   rintro w7 hm7 hg7 hs7)
                | fail)
              have hch : chgOn D ⟨nm, some x, gn⟩ = mgPut nm x D := by
                unfold chgOn
                simp only
                rw [if_pos HGN.out]
              exact ⟨⟨j + 1, _, by omega, by go_num, Lib.hid hm7, Lib.hid (by rw [HS.out]; exact (hch ▸ HCP.out : List.Perm _ _)), Lib.hid (HB5.out.grown hg7 (HB5.out.size) hdk)⟩, by simp only [intOf]; omega⟩
            · have hg1 : gn.toList.isEmpty = false := by rw [strEmpty]; exact decide_eq_false hgn
              go_wp2_with (first
                | (refine wpList_mhDel _ rfl (.tmp 39) (.tmp 41) 79 9 rfl (strRun Try.underlying9) Try.underlying79 d _ rfl HD5.out gn rfl ?_
                   rintro w6 hm6 hg6 hs6
                   have bk6 := BK5.out.grown hg6 hqd
                   have z0 := bk6.cell 0
                   have z1 := bk6.cell 1
                   simp at z0 z1
                   have HM6 := Lib.hid hm6)
                | (refine wpList_mhPut _ rfl (.tmp 45) (.tmp 47) (.tmp 49) 79 rfl (strRun Try.underlying9) Try.underlying79 d _ rfl HM6.out nm x rfl rfl ?_
                   rintro w7 hm7 hg7 hs7)
                | fail)
              have hch : chgOn D ⟨nm, some x, gn⟩ = mgPut nm x (mgDel gn D) := by
                unfold chgOn
                simp only
                rw [if_neg hgn]
                rfl
              exact ⟨⟨j + 1, _, by omega, by go_num, Lib.hid hm7, Lib.hid (by rw [HS.out]; exact (hch ▸ HCP.out : List.Perm _ _)), Lib.hid ((HB5.out.grown hg6 HB5.out.size hdk).grown hg7 ((HB5.out.grown hg6 HB5.out.size hdk).size) hdk)⟩, by simp only [intOf]; omega⟩
        · have hjn2 : j = n := by omega
          have hlt' : ¬ (j : Int) < (n : Int) := by omega
          go_wp2_with fail
          go_ret
          exact ⟨d, D, rfl, HD2.out, by rw [← hjn2]; exact HP2.out, by rw [HD.out]; exact Nat.le_refl _, HB2.out⟩
    · have hnx : ∀ ty, (Instr.next (.pointer (some ⟨r, 0, none⟩)) false ty).run Try.prog wr = _ := fun _ => hrun
      have hen : (Instr.entry (.pointer (some ⟨r, 0, none⟩))).run Try.prog w3 = .ok (.tuple #[.string k, ptV (m.fb v)]) w3 := hrg2.entry (P := Try.prog)
      have hD2 := HD1.out.grown hgr (fun e => hrd (Option.some.inj e).symm)
      have hB2 : Below w.heap.size w w3 := HB1.out.grown hgr HB1.out.size fun q e => by
        have h1 := HR.out
        have h2 := HD.out
        have h3 := Option.some.inj e
        omega
      have hsb : some m.sb ≠ some d := fun e => hne (Option.some.inj e)
      have hrb : some r ≠ some d := fun e => hrd (Option.some.inj e)
      have hend := mgPut_end HN.out hmem hnm fun p hp => RG1.out.sub hp
      have hZ := RG1.out.itN
      have RG2 := Lib.hid hrg2
      have HD2 := Lib.hid hD2
      have HB2 := Lib.hid hB2
      have HE := Lib.hid hend
      clear hrg2 hD2 hB2 hend hrun RG1 HD1 HB1 RG D1 B1
      go_wp2_with (first
        | (refine wpList_mhPut _ rfl (.tmp 21) (.tmp 22) (.tmp 23) 79 rfl (strRun Try.underlying9) Try.underlying79 d _ rfl HD2.out k v rfl rfl ?_
           rintro w4 hm4 hg4 hs4)
        | fail)
      rw [HE.out] at hm4
      have hB4 : Below w.heap.size w w4 := HB2.out.grown hg4 HB2.out.size fun q e => by
        have h2 := HD.out
        have h3 := Option.some.inj e
        omega
      refine ⟨⟨_, _, _, _, _, _, _, _, _, _, ⟨Z ++ [(k, v)], Lib.hid (RG2.out.grown hg4 hsb hrb), Lib.hid hm4, Lib.hid hB4⟩, rfl⟩, ?_⟩
      have h9 := (RG2.out.grown hg4 hsb hrb).itN
      rw [List.length_append, List.length_singleton] at h9
      omega
end Go.Proofs.Ytdjmmdhjjdnbdaa

/- Layer 4: the document's now, and what strikes an operation (printed by genVrD.py). -/
namespace Go.Proofs.Ytdjmmdhjjdnbdaa
open Go.RowKit

set_option maxRecDepth 100000 in
theorem rvNow {base F : Nat} {w : World} {K : Nat → Prop} {S : VSt} {m : RMem} (h : Rf base w K F S m) (hok : S.Ok) (hlen : S.chg.length ≤ 1000000) :
    Calls Try.prog 76 #[ptV F] w (DirPost w m.fb S.now) := by
  obtain ⟨A, c, hv, -, -⟩ := own_form h.chg
  have c2 : w.cell? ⟨F, 2, none⟩ = some m.cv := by rw [h.blk.cell 2]; rfl
  rw [hv] at c2
  have C := Lib.hid (rvDir h hok hlen S.chg.length (Nat.le_refl _))
  clear h hok hv
  go_enter Try.func76, Try.ntmps76
  go_wp2_with fail
  refine C.out.mono ?_
  rintro e w' ⟨d, D, rfl, h1, h2, h3, h4⟩
  go_wp2_with fail
  go_ret
  exact ⟨d, D, rfl, h1, h2, h3, h4⟩
theorem max_dec {x : Int} (h : 0 ≤ x) : max (-1) (x - 1) = x - 1 := by omega
set_option maxRecDepth 100000 in
set_option maxHeartbeats 4000000 in
theorem rvOp {base F : Nat} {w : World} {K : Nat → Prop} {S : VSt} {m : RMem} (h : Rf base w K F S m) (hok : S.Ok) (hops : S.ops ≤ 4611686018427387904) :
    Calls Try.prog 77 #[ptV F] w fun e w' => e = .returned (.int .i64 (S.strike.2 : Nat)) ∧ Rf base w' K F S.strike.1 m ∧ FrK w w' (Kis F) := by
  have hb := h.blk
  have c3 : w.cell? ⟨F, 3, none⟩ = some (.bool S.off) := by rw [hb.cell 3]; rfl
  have c7 : w.cell? ⟨F, 7, none⟩ = some (.int .i64 (S.ops : Nat)) := by rw [hb.cell 7]; rfl
  have f7 := hb.frozen 7
  have hw9 : IntKind.i64.wrap ((S.ops : Int) + 1) = ((S.ops + 1 : Nat) : Int) := by
    rw [show ((S.ops : Int) + 1) = ((S.ops + 1 : Nat) : Int) by omega]
    exact IntWalk.i64_in _ ⟨by omega, by omega⟩
  have hfu := hok.fuse
  have hfa := hok.fault
  obtain ⟨T, e, hT⟩ : ∃ T e, S.strike = (T, e) := ⟨_, _, rfl⟩
  rw [hT]
  have b1 := hb.set 7 (.int .i64 ((S.ops : Int) + 1))
  have v1 : Rf base (w.setCell ⟨F, 7, none⟩ (.int .i64 ((S.ops : Int) + 1))) K F { S with ops := S.ops + 1 } m := h.stored (S' := { S with ops := S.ops + 1 }) 7 _ (by simp [rfC]) rfl rfl rfl
  have k1 := FrK.set w F 7 (.int .i64 ((S.ops : Int) + 1))
  obtain ⟨w1, hw1⟩ : ∃ w1, w.setCell ⟨F, 7, none⟩ (.int .i64 ((S.ops : Int) + 1)) = w1 := ⟨_, rfl⟩
  rw [hw1] at b1 v1 k1
  have d3 : w1.cell? ⟨F, 3, none⟩ = some (.bool S.off) := by rw [b1.cell 3]; rfl
  have d4 : w1.cell? ⟨F, 4, none⟩ = some (.int .i64 S.fuse) := by rw [b1.cell 4]; rfl
  have d5 : w1.cell? ⟨F, 5, none⟩ = some (.int .i64 S.fault) := by rw [b1.cell 5]; rfl
  have d6 : w1.cell? ⟨F, 6, none⟩ = some (.int .i64 (S.err : Nat)) := by rw [b1.cell 6]; rfl
  have g3 := b1.frozen 3
  have g4 := b1.frozen 4
  have g5 := b1.frozen 5
  have HT := Lib.hid hT
  have H := Lib.hid h
  have HW := Lib.hid hw1
  have V1 := Lib.hid v1
  have K1 := Lib.hid k1
  clear hb hok hT h hw1 v1 k1 b1
  go_enter Try.func77, Try.ntmps77
  cases hoff : S.off with
  | true =>
    rw [hoff] at c3
    clear d3 d4 d5 d6
    go_wp2_with fail
    go_ret
    have h1 : S.strike = (S, 9) := by unfold VSt.strike; rw [if_pos hoff]
    rw [h1] at HT
    obtain ⟨rfl, rfl⟩ := Prod.mk.inj HT.out
    exact ⟨rfl, H.out, FrK.refl _ _⟩
  | false =>
    rw [hoff] at c3 d3
    have h0 : ¬ S.off = true := by rw [hoff]; simp
    have H0 := Lib.hid h0
    clear h0

    rcases (show S.fuse = -1 ∨ S.fuse = 0 ∨ 0 < S.fuse by omega) with ha | ha | ha
    · rcases (show S.fault = -1 ∨ S.fault = 0 ∨ 0 < S.fault by omega) with hb | hb | hb
      · rw [ha] at d4
        rw [hb] at d5
        have h1 : S.strike = ({ S with ops := S.ops + 1, fuse := -1, fault := -1 }, 0) := by
          unfold VSt.strike
          rw [if_neg H0.out, if_neg (by omega), if_neg (by omega)]
          have e1 : max (-1) (S.fuse - 1) = -1 := by omega
          have e2 : max (-1) (S.fault - 1) = -1 := by omega
          rw [e1, e2]
        rw [h1] at HT
        have HE := Lib.hid (Prod.mk.inj HT.out)
        clear h1 HT hfu hfa
        have HA := Lib.hid ha
        clear ha
        have HB := Lib.hid hb
        clear hb
        have GV : ∀ n : Nat, Rf base (w1.drewN n) K F { S with ops := S.ops + 1, fuse := -1, fault := -1 } m ∧ FrK w (w1.drewN n) (Kis F) := fun n => by
          have v0 := V1.out.drewN n
          have k0 := K1.out.drewN n
          have e0 : { S with ops := S.ops + 1, fuse := -1, fault := -1 } = ({ S with ops := S.ops + 1, fuse := S.fuse, fault := S.fault, off := S.off } : VSt) := by
            rw [HA.out, HB.out]
          rw [e0]
          exact ⟨v0, k0⟩
        have GVH := Lib.hid GV
        clear GV
        go_wp2_with fail
        rw [HW.out]
        go_quiet (fail)
        go_wp2_with fail
        all_goals go_ret
        all_goals obtain ⟨rfl, rfl⟩ := HE.out
        all_goals refine ⟨rfl, GVH.out nq⟩
      · rw [ha] at d4
        rw [hb] at d5
        have h1 : S.strike = ({ S with ops := S.ops + 1, fuse := -1, fault := -1 }, S.err) := by
          unfold VSt.strike
          rw [if_neg H0.out, if_neg (by omega), if_pos hb]
          have e1 : max (-1) (S.fuse - 1) = -1 := by omega
          have e2 : max (-1) (S.fault - 1) = -1 := by omega
          rw [e1, e2]
        rw [h1] at HT
        have HE := Lib.hid (Prod.mk.inj HT.out)
        clear h1 HT hfu hfa
        have HA := Lib.hid ha
        clear ha
        have HB := Lib.hid hb
        clear hb
        have GV : ∀ n : Nat, Rf base ((w1.drewN n).setCell ⟨F, 5, none⟩ (.int .i64 (-1))) K F { S with ops := S.ops + 1, fuse := -1, fault := -1 } m ∧ FrK w ((w1.drewN n).setCell ⟨F, 5, none⟩ (.int .i64 (-1))) (Kis F) := fun n => by
          have v0 := V1.out.drewN n
          have k0 := K1.out.drewN n
          have v1 := v0.stored (S' := { S with ops := S.ops + 1, fuse := S.fuse, fault := -1, off := S.off }) 5 (.int .i64 (-1)) (by simp [rfC]) rfl rfl rfl
          have k1 := k0.trans (FrK.set _ F 5 (.int .i64 (-1))) fun _ _ h => h
          have e0 : { S with ops := S.ops + 1, fuse := -1, fault := -1 } = ({ S with ops := S.ops + 1, fuse := S.fuse, fault := -1, off := S.off } : VSt) := by
            rw [HA.out]
          rw [e0]
          exact ⟨v1, k1⟩
        have GVH := Lib.hid GV
        clear GV
        go_wp2_with fail
        rw [HW.out]
        go_quiet (fail)
        go_wp2_with fail
        all_goals go_ret
        all_goals obtain ⟨rfl, rfl⟩ := HE.out
        all_goals refine ⟨rfl, GVH.out nq⟩
      · rw [ha] at d4
        have eb1 : (S.fault == 0) = false := by simp; omega
        have eb2 : (0 : Int) ≤ S.fault := by omega
        have hw5 : IntKind.i64.wrap (S.fault - 1) = S.fault - 1 := IntWalk.i64_in _ ⟨by omega, by omega⟩
        have h1 : S.strike = ({ S with ops := S.ops + 1, fuse := -1, fault := S.fault - 1 }, 0) := by
          unfold VSt.strike
          rw [if_neg H0.out, if_neg (by omega), if_neg (by omega)]
          have e1 : max (-1) (S.fuse - 1) = -1 := by omega
          have e2 : max (-1) (S.fault - 1) = S.fault - 1 := by omega
          rw [e1, e2]
        rw [h1] at HT
        have HE := Lib.hid (Prod.mk.inj HT.out)
        clear h1 HT hfu hfa
        have HA := Lib.hid ha
        clear ha
        have HB := Lib.hid hb
        clear hb
        have GV : ∀ n : Nat, Rf base ((w1.drewN n).setCell ⟨F, 5, none⟩ (.int .i64 (S.fault - 1))) K F { S with ops := S.ops + 1, fuse := -1, fault := S.fault - 1 } m ∧ FrK w ((w1.drewN n).setCell ⟨F, 5, none⟩ (.int .i64 (S.fault - 1))) (Kis F) := fun n => by
          have v0 := V1.out.drewN n
          have k0 := K1.out.drewN n
          have v1 := v0.stored (S' := { S with ops := S.ops + 1, fuse := S.fuse, fault := S.fault - 1, off := S.off }) 5 (.int .i64 (S.fault - 1)) (by simp [rfC]) rfl rfl rfl
          have k1 := k0.trans (FrK.set _ F 5 (.int .i64 (S.fault - 1))) fun _ _ h => h
          have e0 : { S with ops := S.ops + 1, fuse := -1, fault := S.fault - 1 } = ({ S with ops := S.ops + 1, fuse := S.fuse, fault := S.fault - 1, off := S.off } : VSt) := by
            rw [HA.out]
          rw [e0]
          exact ⟨v1, k1⟩
        have GVH := Lib.hid GV
        clear GV
        go_wp2_with fail
        rw [HW.out]
        go_quiet (fail)
        go_wp2_with fail
        all_goals go_ret
        all_goals obtain ⟨rfl, rfl⟩ := HE.out
        all_goals refine ⟨rfl, GVH.out nq⟩
    · rcases (show S.fault = -1 ∨ S.fault = 0 ∨ 0 < S.fault by omega) with hb | hb | hb
      · rw [ha] at d4
        rw [hb] at d5
        have h1 : S.strike = ({ S with ops := S.ops + 1, fuse := -1, fault := -1, off := true }, 9) := by
          unfold VSt.strike
          rw [if_neg H0.out, if_pos ha]
          have e1 : max (-1) (S.fuse - 1) = -1 := by omega
          have e2 : max (-1) (S.fault - 1) = -1 := by omega
          rw [e1, e2]
        rw [h1] at HT
        have HE := Lib.hid (Prod.mk.inj HT.out)
        clear h1 HT hfu hfa
        have HA := Lib.hid ha
        clear ha
        have HB := Lib.hid hb
        clear hb
        have GV : ∀ n : Nat, Rf base (((w1.drewN n).setCell ⟨F, 4, none⟩ (.int .i64 (-1))).setCell ⟨F, 3, none⟩ (.bool true)) K F { S with ops := S.ops + 1, fuse := -1, fault := -1, off := true } m ∧ FrK w (((w1.drewN n).setCell ⟨F, 4, none⟩ (.int .i64 (-1))).setCell ⟨F, 3, none⟩ (.bool true)) (Kis F) := fun n => by
          have v0 := V1.out.drewN n
          have k0 := K1.out.drewN n
          have v1 := v0.stored (S' := { S with ops := S.ops + 1, fuse := -1, fault := S.fault, off := S.off }) 4 (.int .i64 (-1)) (by simp [rfC]) rfl rfl rfl
          have k1 := k0.trans (FrK.set _ F 4 (.int .i64 (-1))) fun _ _ h => h
          have v2 := v1.stored (S' := { S with ops := S.ops + 1, fuse := -1, fault := S.fault, off := true }) 3 (.bool true) (by simp [rfC]) rfl rfl rfl
          have k2 := k1.trans (FrK.set _ F 3 (.bool true)) fun _ _ h => h
          have e0 : { S with ops := S.ops + 1, fuse := -1, fault := -1, off := true } = ({ S with ops := S.ops + 1, fuse := -1, fault := S.fault, off := true } : VSt) := by
            rw [HB.out]
          rw [e0]
          exact ⟨v2, k2⟩
        have GVH := Lib.hid GV
        clear GV
        go_wp2_with fail
        rw [HW.out]
        go_quiet (fail)
        go_wp2_with fail
        all_goals go_ret
        all_goals obtain ⟨rfl, rfl⟩ := HE.out
        all_goals refine ⟨rfl, GVH.out nq⟩
      · rw [ha] at d4
        rw [hb] at d5
        have h1 : S.strike = ({ S with ops := S.ops + 1, fuse := -1, fault := -1, off := true }, 9) := by
          unfold VSt.strike
          rw [if_neg H0.out, if_pos ha]
          have e1 : max (-1) (S.fuse - 1) = -1 := by omega
          have e2 : max (-1) (S.fault - 1) = -1 := by omega
          rw [e1, e2]
        rw [h1] at HT
        have HE := Lib.hid (Prod.mk.inj HT.out)
        clear h1 HT hfu hfa
        have HA := Lib.hid ha
        clear ha
        have HB := Lib.hid hb
        clear hb
        have GV : ∀ n : Nat, Rf base ((((w1.drewN n).setCell ⟨F, 4, none⟩ (.int .i64 (-1))).setCell ⟨F, 5, none⟩ (.int .i64 (-1))).setCell ⟨F, 3, none⟩ (.bool true)) K F { S with ops := S.ops + 1, fuse := -1, fault := -1, off := true } m ∧ FrK w ((((w1.drewN n).setCell ⟨F, 4, none⟩ (.int .i64 (-1))).setCell ⟨F, 5, none⟩ (.int .i64 (-1))).setCell ⟨F, 3, none⟩ (.bool true)) (Kis F) := fun n => by
          have v0 := V1.out.drewN n
          have k0 := K1.out.drewN n
          have v1 := v0.stored (S' := { S with ops := S.ops + 1, fuse := -1, fault := S.fault, off := S.off }) 4 (.int .i64 (-1)) (by simp [rfC]) rfl rfl rfl
          have k1 := k0.trans (FrK.set _ F 4 (.int .i64 (-1))) fun _ _ h => h
          have v2 := v1.stored (S' := { S with ops := S.ops + 1, fuse := -1, fault := -1, off := S.off }) 5 (.int .i64 (-1)) (by simp [rfC]) rfl rfl rfl
          have k2 := k1.trans (FrK.set _ F 5 (.int .i64 (-1))) fun _ _ h => h
          have v3 := v2.stored (S' := { S with ops := S.ops + 1, fuse := -1, fault := -1, off := true }) 3 (.bool true) (by simp [rfC]) rfl rfl rfl
          have k3 := k2.trans (FrK.set _ F 3 (.bool true)) fun _ _ h => h
          have e0 : { S with ops := S.ops + 1, fuse := -1, fault := -1, off := true } = ({ S with ops := S.ops + 1, fuse := -1, fault := -1, off := true } : VSt) := by
            rfl
          rw [e0]
          exact ⟨v3, k3⟩
        have GVH := Lib.hid GV
        clear GV
        go_wp2_with fail
        rw [HW.out]
        go_quiet (fail)
        go_wp2_with fail
        all_goals go_ret
        all_goals obtain ⟨rfl, rfl⟩ := HE.out
        all_goals refine ⟨rfl, GVH.out nq⟩
      · rw [ha] at d4
        have eb1 : (S.fault == 0) = false := by simp; omega
        have eb2 : (0 : Int) ≤ S.fault := by omega
        have hw5 : IntKind.i64.wrap (S.fault - 1) = S.fault - 1 := IntWalk.i64_in _ ⟨by omega, by omega⟩
        have h1 : S.strike = ({ S with ops := S.ops + 1, fuse := -1, fault := S.fault - 1, off := true }, 9) := by
          unfold VSt.strike
          rw [if_neg H0.out, if_pos ha]
          have e1 : max (-1) (S.fuse - 1) = -1 := by omega
          have e2 : max (-1) (S.fault - 1) = S.fault - 1 := by omega
          rw [e1, e2]
        rw [h1] at HT
        have HE := Lib.hid (Prod.mk.inj HT.out)
        clear h1 HT hfu hfa
        have HA := Lib.hid ha
        clear ha
        have HB := Lib.hid hb
        clear hb
        have GV : ∀ n : Nat, Rf base ((((w1.drewN n).setCell ⟨F, 4, none⟩ (.int .i64 (-1))).setCell ⟨F, 5, none⟩ (.int .i64 (S.fault - 1))).setCell ⟨F, 3, none⟩ (.bool true)) K F { S with ops := S.ops + 1, fuse := -1, fault := S.fault - 1, off := true } m ∧ FrK w ((((w1.drewN n).setCell ⟨F, 4, none⟩ (.int .i64 (-1))).setCell ⟨F, 5, none⟩ (.int .i64 (S.fault - 1))).setCell ⟨F, 3, none⟩ (.bool true)) (Kis F) := fun n => by
          have v0 := V1.out.drewN n
          have k0 := K1.out.drewN n
          have v1 := v0.stored (S' := { S with ops := S.ops + 1, fuse := -1, fault := S.fault, off := S.off }) 4 (.int .i64 (-1)) (by simp [rfC]) rfl rfl rfl
          have k1 := k0.trans (FrK.set _ F 4 (.int .i64 (-1))) fun _ _ h => h
          have v2 := v1.stored (S' := { S with ops := S.ops + 1, fuse := -1, fault := S.fault - 1, off := S.off }) 5 (.int .i64 (S.fault - 1)) (by simp [rfC]) rfl rfl rfl
          have k2 := k1.trans (FrK.set _ F 5 (.int .i64 (S.fault - 1))) fun _ _ h => h
          have v3 := v2.stored (S' := { S with ops := S.ops + 1, fuse := -1, fault := S.fault - 1, off := true }) 3 (.bool true) (by simp [rfC]) rfl rfl rfl
          have k3 := k2.trans (FrK.set _ F 3 (.bool true)) fun _ _ h => h
          have e0 : { S with ops := S.ops + 1, fuse := -1, fault := S.fault - 1, off := true } = ({ S with ops := S.ops + 1, fuse := -1, fault := S.fault - 1, off := true } : VSt) := by
            rfl
          rw [e0]
          exact ⟨v3, k3⟩
        have GVH := Lib.hid GV
        clear GV
        go_wp2_with fail
        rw [HW.out]
        go_quiet (fail)
        go_wp2_with fail
        all_goals go_ret
        all_goals obtain ⟨rfl, rfl⟩ := HE.out
        all_goals refine ⟨rfl, GVH.out nq⟩
    · rcases (show S.fault = -1 ∨ S.fault = 0 ∨ 0 < S.fault by omega) with hb | hb | hb
      · rw [hb] at d5
        have ea1 : (S.fuse == 0) = false := by simp; omega
        have ea2 : (0 : Int) ≤ S.fuse := by omega
        have hw4 : IntKind.i64.wrap (S.fuse - 1) = S.fuse - 1 := IntWalk.i64_in _ ⟨by omega, by omega⟩
        have h1 : S.strike = ({ S with ops := S.ops + 1, fuse := S.fuse - 1, fault := -1 }, 0) := by
          unfold VSt.strike
          rw [if_neg H0.out, if_neg (by omega), if_neg (by omega)]
          have e1 : max (-1) (S.fuse - 1) = S.fuse - 1 := by omega
          have e2 : max (-1) (S.fault - 1) = -1 := by omega
          rw [e1, e2]
        rw [h1] at HT
        have HE := Lib.hid (Prod.mk.inj HT.out)
        clear h1 HT hfu hfa
        have HA := Lib.hid ha
        clear ha
        have HB := Lib.hid hb
        clear hb
        have GV : ∀ n : Nat, Rf base ((w1.drewN n).setCell ⟨F, 4, none⟩ (.int .i64 (S.fuse - 1))) K F { S with ops := S.ops + 1, fuse := S.fuse - 1, fault := -1 } m ∧ FrK w ((w1.drewN n).setCell ⟨F, 4, none⟩ (.int .i64 (S.fuse - 1))) (Kis F) := fun n => by
          have v0 := V1.out.drewN n
          have k0 := K1.out.drewN n
          have v1 := v0.stored (S' := { S with ops := S.ops + 1, fuse := S.fuse - 1, fault := S.fault, off := S.off }) 4 (.int .i64 (S.fuse - 1)) (by simp [rfC]) rfl rfl rfl
          have k1 := k0.trans (FrK.set _ F 4 (.int .i64 (S.fuse - 1))) fun _ _ h => h
          have e0 : { S with ops := S.ops + 1, fuse := S.fuse - 1, fault := -1 } = ({ S with ops := S.ops + 1, fuse := S.fuse - 1, fault := S.fault, off := S.off } : VSt) := by
            rw [HB.out]
          rw [e0]
          exact ⟨v1, k1⟩
        have GVH := Lib.hid GV
        clear GV
        go_wp2_with fail
        rw [HW.out]
        go_quiet (fail)
        go_wp2_with fail
        all_goals go_ret
        all_goals obtain ⟨rfl, rfl⟩ := HE.out
        all_goals refine ⟨rfl, GVH.out nq⟩
      · rw [hb] at d5
        have ea1 : (S.fuse == 0) = false := by simp; omega
        have ea2 : (0 : Int) ≤ S.fuse := by omega
        have hw4 : IntKind.i64.wrap (S.fuse - 1) = S.fuse - 1 := IntWalk.i64_in _ ⟨by omega, by omega⟩
        have h1 : S.strike = ({ S with ops := S.ops + 1, fuse := S.fuse - 1, fault := -1 }, S.err) := by
          unfold VSt.strike
          rw [if_neg H0.out, if_neg (by omega), if_pos hb]
          have e1 : max (-1) (S.fuse - 1) = S.fuse - 1 := by omega
          have e2 : max (-1) (S.fault - 1) = -1 := by omega
          rw [e1, e2]
        rw [h1] at HT
        have HE := Lib.hid (Prod.mk.inj HT.out)
        clear h1 HT hfu hfa
        have HA := Lib.hid ha
        clear ha
        have HB := Lib.hid hb
        clear hb
        have GV : ∀ n : Nat, Rf base (((w1.drewN n).setCell ⟨F, 4, none⟩ (.int .i64 (S.fuse - 1))).setCell ⟨F, 5, none⟩ (.int .i64 (-1))) K F { S with ops := S.ops + 1, fuse := S.fuse - 1, fault := -1 } m ∧ FrK w (((w1.drewN n).setCell ⟨F, 4, none⟩ (.int .i64 (S.fuse - 1))).setCell ⟨F, 5, none⟩ (.int .i64 (-1))) (Kis F) := fun n => by
          have v0 := V1.out.drewN n
          have k0 := K1.out.drewN n
          have v1 := v0.stored (S' := { S with ops := S.ops + 1, fuse := S.fuse - 1, fault := S.fault, off := S.off }) 4 (.int .i64 (S.fuse - 1)) (by simp [rfC]) rfl rfl rfl
          have k1 := k0.trans (FrK.set _ F 4 (.int .i64 (S.fuse - 1))) fun _ _ h => h
          have v2 := v1.stored (S' := { S with ops := S.ops + 1, fuse := S.fuse - 1, fault := -1, off := S.off }) 5 (.int .i64 (-1)) (by simp [rfC]) rfl rfl rfl
          have k2 := k1.trans (FrK.set _ F 5 (.int .i64 (-1))) fun _ _ h => h
          have e0 : { S with ops := S.ops + 1, fuse := S.fuse - 1, fault := -1 } = ({ S with ops := S.ops + 1, fuse := S.fuse - 1, fault := -1, off := S.off } : VSt) := by
            rfl
          rw [e0]
          exact ⟨v2, k2⟩
        have GVH := Lib.hid GV
        clear GV
        go_wp2_with fail
        rw [HW.out]
        go_quiet (fail)
        go_wp2_with fail
        all_goals go_ret
        all_goals obtain ⟨rfl, rfl⟩ := HE.out
        all_goals refine ⟨rfl, GVH.out nq⟩
      · have ea1 : (S.fuse == 0) = false := by simp; omega
        have ea2 : (0 : Int) ≤ S.fuse := by omega
        have hw4 : IntKind.i64.wrap (S.fuse - 1) = S.fuse - 1 := IntWalk.i64_in _ ⟨by omega, by omega⟩
        have eb1 : (S.fault == 0) = false := by simp; omega
        have eb2 : (0 : Int) ≤ S.fault := by omega
        have hw5 : IntKind.i64.wrap (S.fault - 1) = S.fault - 1 := IntWalk.i64_in _ ⟨by omega, by omega⟩
        have h1 : S.strike = ({ S with ops := S.ops + 1, fuse := S.fuse - 1, fault := S.fault - 1 }, 0) := by
          unfold VSt.strike
          rw [if_neg H0.out, if_neg (by omega), if_neg (by omega)]
          have e1 : max (-1) (S.fuse - 1) = S.fuse - 1 := by omega
          have e2 : max (-1) (S.fault - 1) = S.fault - 1 := by omega
          rw [e1, e2]
        rw [h1] at HT
        have HE := Lib.hid (Prod.mk.inj HT.out)
        clear h1 HT hfu hfa
        have HA := Lib.hid ha
        clear ha
        have HB := Lib.hid hb
        clear hb
        have GV : ∀ n : Nat, Rf base (((w1.drewN n).setCell ⟨F, 4, none⟩ (.int .i64 (S.fuse - 1))).setCell ⟨F, 5, none⟩ (.int .i64 (S.fault - 1))) K F { S with ops := S.ops + 1, fuse := S.fuse - 1, fault := S.fault - 1 } m ∧ FrK w (((w1.drewN n).setCell ⟨F, 4, none⟩ (.int .i64 (S.fuse - 1))).setCell ⟨F, 5, none⟩ (.int .i64 (S.fault - 1))) (Kis F) := fun n => by
          have v0 := V1.out.drewN n
          have k0 := K1.out.drewN n
          have v1 := v0.stored (S' := { S with ops := S.ops + 1, fuse := S.fuse - 1, fault := S.fault, off := S.off }) 4 (.int .i64 (S.fuse - 1)) (by simp [rfC]) rfl rfl rfl
          have k1 := k0.trans (FrK.set _ F 4 (.int .i64 (S.fuse - 1))) fun _ _ h => h
          have v2 := v1.stored (S' := { S with ops := S.ops + 1, fuse := S.fuse - 1, fault := S.fault - 1, off := S.off }) 5 (.int .i64 (S.fault - 1)) (by simp [rfC]) rfl rfl rfl
          have k2 := k1.trans (FrK.set _ F 5 (.int .i64 (S.fault - 1))) fun _ _ h => h
          have e0 : { S with ops := S.ops + 1, fuse := S.fuse - 1, fault := S.fault - 1 } = ({ S with ops := S.ops + 1, fuse := S.fuse - 1, fault := S.fault - 1, off := S.off } : VSt) := by
            rfl
          rw [e0]
          exact ⟨v2, k2⟩
        have GVH := Lib.hid GV
        clear GV
        go_wp2_with fail
        rw [HW.out]
        go_quiet (fail)
        go_wp2_with fail
        all_goals go_ret
        all_goals obtain ⟨rfl, rfl⟩ := HE.out
        all_goals refine ⟨rfl, GVH.out nq⟩
end Go.Proofs.Ytdjmmdhjjdnbdaa

/- Layer 4: the document's begin, a lookup in a directory, New. -/
namespace Go.Proofs.Ytdjmmdhjjdnbdaa
open Go.RowKit

/-- An operation's beginning: what state, what error. -/
def VSt.start (S : VSt) (ok : Bool) : VSt × Nat := if ok then S.strike else (S, 2)
theorem VSt.start_same (S : VSt) (ok : Bool) : (S.start ok).1.syn = S.syn ∧ (S.start ok).1.chg = S.chg ∧ (S.start ok).1.fs = S.fs ∧ (S.start ok).1.limit = S.limit ∧ (S.start ok).1.err = S.err := by
  cases ok
  · exact ⟨rfl, rfl, rfl, rfl, rfl⟩
  · exact strike_same S
theorem VSt.Ok.start {S : VSt} (h : S.Ok) (ok : Bool) : (S.start ok).1.Ok := by
  cases ok
  · exact h
  · exact h.strike
theorem op_start_bad {S : VSt} {ok : Bool} {do_ : VSt → VSt × Nat} (h : (S.start ok).2 ≠ 0) : S.op ok do_ = ((S.start ok).1, (S.start ok).2) := by
  cases ok
  · rfl
  · exact op_struck h
theorem op_start_good {S : VSt} {ok : Bool} {do_ : VSt → VSt × Nat} (h : (S.start ok).2 = 0) : S.op ok do_ = do_ (S.start ok).1 := by
  cases ok
  · exact absurd h (by simp [VSt.start])
  · exact op_done h
/-- A lookup in a directory. -/
theorem rvLook {w : World} {d : Nat} {fb : Nat → Nat} {D : List (ByteArray × Nat)} {T : VSt} (hm : Mh strV (fiV fb) w d D) (hp : D.Perm T.now) (s : ByteArray) :
    (Instr.lookup 79 (maV d) (.string s) false).run Try.prog w = .ok (match T.get s with | some i => ptV (fb i) | none => .pointer none) w := by
  have h := run_mhLook (z := .pointer none) (e := 94) (strRun Try.underlying9) Try.underlying79 (by simp [Try.zeroValue94]) hm s false
  rw [mgGet_perm hp hm.nodup s] at h
  unfold VSt.get
  cases hg : mgGet s T.now with
  | none => rw [hg] at h; exact h
  | some i => rw [hg] at h; exact h
set_option maxRecDepth 100000 in
set_option maxHeartbeats 1000000 in
theorem rvBegin {base F B n c : Nat} {A : Option Addr} {ns : List ByteArray} {w : World} {K : Nat → Prop} {S : VSt} {m : RMem} (h : Rf base w K F S m) (hok : S.Ok) (hops : S.ops ≤ 4611686018427387904)
    (hr : Rd w B A (ns.map strV)) (hn : ns.length = n) (hns : ∀ s ∈ ns, s.size ≤ 9223372036854775806) (hn2 : n ≤ 1000) :
    Calls Try.prog 75 #[ptV F, .slice A n c] w fun e w' => e = .returned (.int .i64 ((S.start (ns.all vName)).2 : Nat)) ∧ Rf base w' K F (S.start (ns.all vName)).1 m ∧ FrK w w' (Kis F) := by
  have CO := Lib.hid (rvOp h hok hops)
  have H := Lib.hid h
  have HR := Lib.hid hr
  have HN := Lib.hid hn
  have HNS := Lib.hid hns
  obtain ⟨R, hR⟩ : ∃ R, S.start (ns.all vName) = R := ⟨_, rfl⟩
  rw [hR]
  have HRR := Lib.hid hR
  clear h hok hr hn hns hR
  go_enter Try.func75, Try.ntmps75
  go_wp2_with fail
  go_loopw [5] (fun i_ wr => ∃ k : Nat, k ≤ n ∧ i_ = .int .i64 k ∧ wr = w ∧ Hid ((ns.take k).all vName = true)) (fun i_ _ => n - (intOf i_).toNat)
  case atStart => exact ⟨0, Nat.zero_le _, rfl, rfl, Lib.hid (by rw [List.take_zero]; rfl)⟩
  case round =>
    obtain ⟨k, hk, rfl, rfl, HA⟩ := hrel
    by_cases hlt : k < n
    · have hlt' : (k : Int) < (n : Int) := by omega
      obtain ⟨s, hs⟩ : ∃ s, ns[k]? = some s := ⟨_, List.getElem?_eq_getElem (by rw [HN.out]; exact hlt)⟩
      obtain ⟨b, o, rfl, hcell⟩ := Rs.get HR.out hs
      have cN := rVfName wr s (HNS.out s (List.mem_of_getElem? hs))
      obtain ⟨q, hq⟩ : ∃ q, vName s = q := ⟨_, rfl⟩
      rw [hq] at cN
      have CN := Lib.hid cN
      have HS := Lib.hid hs
      have HQ := Lib.hid hq
      clear cN hs hq
      go_wp2_with fail
      refine CN.out.mono ?_
      rintro e w' ⟨rfl, rfl⟩
      cases q with
      | true =>
        have hadd : IntKind.i64.wrap ((k : Int) + 1) = (k : Int) + 1 := IntWalk.i64_in _ ⟨by omega, by omega⟩
        go_wp2_with fail
        exact ⟨⟨k + 1, by omega, by go_num, trivial, Lib.hid (by rw [take_snoc HS.out, List.all_append, HA.out]; simp [HQ.out])⟩, by simp only [intOf]; omega⟩
      | false =>
        have hall : ns.all vName = false := by
          rw [Bool.eq_false_iff]
          intro e
          rw [List.all_eq_true.1 e s (List.mem_of_getElem? HS.out)] at HQ
          cases HQ.out
        have hRR := HRR.out
        rw [hall] at hRR
        subst hRR
        go_wp2_with fail
        go_ret
        exact ⟨rfl, H.out, FrK.refl _ _⟩
    · have hlt' : ¬(k : Int) < (n : Int) := by omega
      have hall : ns.all vName = true := by
        have := HA.out
        rwa [List.take_of_length_le (by rw [HN.out]; omega)] at this
      have hRR := HRR.out
      rw [hall] at hRR
      subst hRR
      clear hall
      go_wp2_with fail
      refine CO.out.mono ?_
      rintro e w' ⟨rfl, h1, h2⟩
      go_wp2_with fail
      go_ret
      exact ⟨rfl, h1, h2⟩
set_option maxRecDepth 100000 in
set_option maxHeartbeats 1000000 in
theorem rvNewBad (w : World) (limit : Int) (h : limit < 0 ∨ 1073741824 < limit) :
    Calls Try.prog 28 #[.int .i64 limit] w fun e w' => e = .returned (.tuple #[.pointer none, .int .i64 2]) ∧ w = w' := by
  by_cases h0 : limit < 0
  · go_enter Try.func28, Try.ntmps28
    go_wp2_with fail
    go_ret2
    exact ⟨rfl, rfl⟩
  · have h1 : 1073741824 < limit := by omega
    have h0' : decide (limit < 0) = false := by simp; omega
    go_enter Try.func28, Try.ntmps28
    go_wp2_with fail
    go_ret2
    exact ⟨rfl, rfl⟩
set_option maxRecDepth 100000 in
set_option maxHeartbeats 1000000 in
theorem rvNew {base : Nat} (w : World) (limit : Int) (h : 0 ≤ limit ∧ limit ≤ 1073741824) (hb : base ≤ w.heap.size) :
    Calls Try.prog 28 #[.int .i64 limit] w fun e w' => ∃ F, e = .returned (.tuple #[ptV F, .int .i64 0]) ∧ (∃ m, Rf base w' (Kn Kno w.heap.size w'.heap.size) F (VSt.new limit) m) ∧ FrK w w' Kno := by
  have h0 : ¬ limit < 0 := by omega
  have h0' : decide (limit < 0) = false := by simp; omega
  have h1 : ¬ 1073741824 < limit := by omega
  have h1' : decide (1073741824 < limit) = false := by simp; omega
  have hmm := @run_makeMap Try.prog
  have m1 := Mh.new (kv := strV) (vv := fiV fun _ => 0) w
  have fr1 := (FrK.refl w Kno).alloc (.map #[] 0)
  obtain ⟨w1, e1⟩ : ∃ w1, w.alloc (.map #[] 0) = w1 := ⟨_, rfl⟩
  have s1 : w1.heap.size = w.heap.size + 1 := by rw [← e1]; simp
  rw [e1] at m1 fr1
  obtain ⟨M, hM⟩ : ∃ M : RMem, M = ⟨w.heap.size, .slice none 0 0, fun _ => 0, fun _ => .slice none 0 0, []⟩ := ⟨_, rfl⟩
  have m13 := m1.alloc (.cells (rfC (VSt.new limit) M) 82)
  have fr3 := fr1.alloc (.cells (rfC (VSt.new limit) M) 82)
  have b3 := Bk.new w1 82 (rfC (VSt.new limit) M)
  have HE : rfC (VSt.new limit) M = #[.int .i64 limit, .map (some w.heap.size), .slice none 0 0, .bool false, .int .i64 (-1), .int .i64 (-1), .int .i64 0, .int .i64 0] := by
    rw [hM]
    rfl
  obtain ⟨w3, e3⟩ : ∃ w3, w1.alloc (.cells (rfC (VSt.new limit) M) 82) = w3 := ⟨_, rfl⟩
  have s3 : w3.heap.size = w1.heap.size + 1 := by rw [← e3]; simp
  rw [e3] at m13 fr3 b3
  have V : Rf base w3 (Kn Kno w.heap.size w3.heap.size) w1.heap.size (VSt.new limit) M := by
    have hk1 : w.heap.size ≤ w1.heap.size ∧ w1.heap.size < w3.heap.size := ⟨by omega, by omega⟩
    have hk2 : w.heap.size < w3.heap.size := by omega
    subst hM
    refine { blk := b3, syn := m13, synP := List.Perm.refl _, chg := ⟨rfl, .inl ⟨rfl, rfl⟩⟩, file := (fun i x hx => by simp [VSt.new] at hx), row := (fun i x hx => by simp [VSt.new] at hx), inj := (fun i j hi => by simp [VSt.new] at hi), kF := .inr hk1, kS := .inr ⟨Nat.le_refl _, hk2⟩, kC := (fun g e => by simp [Value.ownBlock] at e), kB := (fun i hi => by simp [VSt.new] at hi), kR := (fun i hi => by simp [VSt.new] at hi), lo := fun b e => ?_ }
    rcases e with e | ⟨h1, h2⟩
    · exact e.elim
    · exact ⟨by omega, h2⟩
  have S1 := Lib.hid s1
  have HV := Lib.hid V
  have HF := Lib.hid fr3
  have E1 := Lib.hid e1
  rw [HE] at e3
  have E3 := Lib.hid e3
  clear V fr3 e1 e3 m1 m13 fr1 b3 hM HE h hb
  go_enter Try.func28, Try.ntmps28
  go_wp2_with fail
  go_ret2
  rw [E1.out, E3.out]
  refine ⟨w1.heap.size, ?_, ⟨M, HV.out⟩, HF.out⟩
  rw [S1.out]
  rfl
end Go.Proofs.Ytdjmmdhjjdnbdaa

/- Layer 4: the document's file changes; Sync. -/
namespace Go.Proofs.Ytdjmmdhjjdnbdaa
open Go.RowKit

section
variable {base F : Nat} {w w1 w' : World} {K K1 : Nat → Prop} {S : VSt} {m : RMem}
theorem RPost.of {R : VSt × Nat} {r : Nat} {T : VSt} (h : Rf base w K F S m) (hR : R = (T, r)) (hv : Rf base w' K F T m) (hf : FrK w w' K1) (hk : ∀ b, K1 b → K b) : RPost base w K F R (.returned (.int .i64 (r : Nat))) w' := by
  subst hR
  exact ⟨rfl, m, hv.kn h.baseLe, hf.mono fun b _ hb => hk b hb⟩
theorem RPost.after {R : VSt × Nat} {e : Ending} (h : RPost base w1 K F R e w') (hf : FrK w w1 K1) (hk : ∀ b, K1 b → K b) (hb : base ≤ w.heap.size) : RPost base w K F R e w' := by
  obtain ⟨h1, m', h2, h3⟩ := h
  have hs := hf.size
  have hs3 := h3.size
  refine ⟨h1, m', h2.bigger (fun b e => e.elim .inl fun ⟨h4, h5⟩ => .inr ⟨by omega, h5⟩) fun b e => ?_, (hf.mono fun b _ e => hk b e).trans h3 fun _ _ e => e⟩
  rcases e with e | ⟨h4, h5⟩
  · exact h2.lo b (.inl e)
  · exact ⟨by omega, h5⟩
theorem Rf.putFile (h : Rf base w K F S m) {i : Nat} {x x' : VFile} {v' : Value} (hx : S.fs[i]? = some x) (hf : FrK w w' (Kis (m.fb i)))
    (hb : Bk w' (m.fb i) 97 #[v', .int .i64 (x'.s : Nat)]) (hr : w'.ownsRow base 5 1 v' x'.b.length (bv x'.b)) (ho : ∀ g, v'.ownBlock = some g → (m.bv i).ownBlock = some g ∨ w.heap.size ≤ g) :
    Rf base w' (Kn K w.heap.size w'.heap.size) F (S.setFile i x') { m with bv := fun j => if j = i then v' else m.bv j } := by
  have hil := (List.getElem?_eq_some_iff.1 hx).1
  have hfi := h.file i x hx
  have hmap : ∀ (b : Nat) (es : Array MapEntry) (c : Nat), w.heap[b]? = some (.map es c) → w'.heap[b]? = w.heap[b]? := fun b es c he => hf.block b (Array.getElem?_eq_some_iff.1 he).1 (by
    rintro rfl
    rw [show w.heap[m.fb i]? = _ from hfi] at he
    cases he)
  have hcell : ∀ {b : Nat} {t : TypeId} {cs : Array Value}, Bk w b t cs → t ≠ 97 → w'.heap[b]? = w.heap[b]? := fun {b t cs} hB h1 => hf.block b hB.lt fun e => ne_of_type hB hfi h1 e
  have hlen : (S.setFile i x').fs.length = S.fs.length := by simp [VSt.setFile]
  have hget : ∀ (j : Nat) (y : VFile), (S.setFile i x').fs[j]? = some y → (j = i ∧ y = x') ∨ (j ≠ i ∧ S.fs[j]? = some y) := fun j y hy => by
    by_cases hji : j = i
    · subst hji
      simp [VSt.setFile, hil] at hy
      exact .inl ⟨rfl, hy.symm⟩
    · simp only [VSt.setFile, List.getElem?_set] at hy
      rw [if_neg (fun e => hji e.symm)] at hy
      exact .inr ⟨hji, hy⟩
  have hcv : ∀ g, m.cv.ownBlock = some g → w'.heap[g]? = w.heap[g]? := fun g hg => by
    obtain ⟨cur, hc⟩ := own_bk h.chg hg
    exact hcell hc (by decide)
  have hv'lt : ∀ g, v'.ownBlock = some g → g < w'.heap.size := fun g hg => (hr.lt g hg).2
  refine { blk := (hcell h.blk (by decide)).trans h.blk, syn := ?_, synP := h.synP, chg := own_of h.chg hcv, file := ?_, row := ?_, inj := by rw [hlen]; exact h.inj, kF := .inl h.kF, kS := .inl h.kS, kC := fun g e => .inl (h.kC g e), kB := fun j e => .inl (h.kB j (by rw [hlen] at e; exact e)), kR := ?_, lo := ?_ }
  · obtain ⟨es, c, he⟩ := h.syn.obj
    exact h.syn.of (hmap _ es c he)
  · intro j y hy
    rcases hget j y hy with ⟨rfl, rfl⟩ | ⟨hji, hy'⟩
    · simp only [if_true]
      exact hb
    · simp only [if_neg hji]
      have hfj := h.file j y hy'
      exact (hf.block _ hfj.lt fun e => hji (h.inj j i (List.getElem?_eq_some_iff.1 hy').1 hil e)).trans hfj
  · intro j y hy
    rcases hget j y hy with ⟨rfl, rfl⟩ | ⟨hji, hy'⟩
    · simp only [if_true]
      exact hr
    · simp only [if_neg hji]
      refine own_of (h.row j y hy') fun g hg => ?_
      obtain ⟨cur, hc⟩ := own_bk (h.row j y hy') hg
      exact hcell hc (by decide)
  · intro j hj g hg
    rw [hlen] at hj
    by_cases hji : j = i
    · subst hji
      simp only [if_true] at hg
      rcases ho g hg with h5 | h5
      · exact .inl (h.kR j hj g h5)
      · exact .inr ⟨h5, hv'lt g hg⟩
    · simp only [if_neg hji] at hg
      exact .inl (h.kR j hj g hg)
  · have hs := hf.size
    intro b e
    rcases e with e | ⟨h4, h5⟩
    · have := h.lo b e
      exact ⟨this.1, by omega⟩
    · exact ⟨Nat.le_trans h.baseLe h4, h5⟩
theorem rvBegin1 (h : Rf base w K F S m) (hok : S.Ok) (hops : S.ops ≤ 4611686018427387904) (s : ByteArray) (hs : s.size ≤ 9223372036854775806) :
    Calls Try.prog 75 #[ptV F, .slice (some ⟨w.heap.size, 0, none⟩) 1 1] (w.alloc (.cells #[.string s] 9)) fun e w' => e = .returned (.int .i64 ((S.start (vName s)).2 : Nat)) ∧ Rf base w' K F (S.start (vName s)).1 m ∧ FrK w w' (Kis F) := by
  have hr : Rd (w.alloc (.cells #[.string s] 9)) (w.heap.size + 1) (some ⟨w.heap.size, 0, none⟩) ([s].map strV) := Rd.lit w #[.string s] 9
  have C := rvBegin (c := 1) (n := 1) (ns := [s]) (h.alloc (.cells #[.string s] 9)) hok hops hr rfl (fun x hx => by rw [List.mem_singleton.1 hx]; exact hs) (by omega)
  have e : [s].all vName = vName s := by simp
  rw [e] at C
  refine C.mono ?_
  rintro e w' ⟨h1, h2, h3⟩
  exact ⟨h1, h2, (((FrK.refl w Kno).alloc _).mono (K' := Kis F) fun _ _ e => e.elim).trans h3 fun _ _ e => e⟩
end
set_option maxRecDepth 100000 in
set_option maxHeartbeats 1000000 in
theorem rvSync {base F : Nat} {w : World} {K : Nat → Prop} {S : VSt} {m : RMem} (h : Rf base w K F S m) (hok : S.Ok) (hops : S.ops ≤ 4611686018427387904) (hlen : S.chg.length ≤ 1000000) (s : ByteArray) (hs : s.size ≤ 9223372036854775806) :
    Calls Try.prog 53 #[ptV F, .string s] w (RPost base w K F (S.sync s)) := by
  have cB := rvBegin1 h hok hops s hs
  have hTo := hok.start (vName s)
  have hTl : (S.start (vName s)).1.chg.length ≤ 1000000 := by rw [(S.start_same (vName s)).2.1]; exact hlen
  have hbad := op_start_bad (S := S) (ok := vName s) (do_ := fun T => match T.get s with | none => (T, 6) | some i => (T.setFile i ⟨(T.file i).b, (T.file i).b.length⟩, 0))
  have hgood := op_start_good (S := S) (ok := vName s) (do_ := fun T => match T.get s with | none => (T, 6) | some i => (T.setFile i ⟨(T.file i).b, (T.file i).b.length⟩, 0))
  obtain ⟨R, hR⟩ : ∃ R, S.sync s = R := ⟨_, rfl⟩
  rw [show (S.op (vName s) fun T => match T.get s with | none => (T, 6) | some i => (T.setFile i ⟨(T.file i).b, (T.file i).b.length⟩, 0)) = R from hR] at hbad hgood
  rw [hR]
  obtain ⟨T, e0, hT⟩ : ∃ T e0, S.start (vName s) = (T, e0) := ⟨_, _, rfl⟩
  rw [hT] at cB hTo hTl hbad hgood
  have CB := Lib.hid cB
  have H := Lib.hid h
  have HTO := Lib.hid hTo
  have HBAD := Lib.hid hbad
  have HGOOD := Lib.hid hgood
  clear cB h hTo hbad hgood hR hT hok
  go_enter Try.func53, Try.ntmps53
  go_wp2_with fail
  refine CB.out.mono ?_
  rintro e w1 ⟨rfl, h1, f1⟩
  by_cases he : e0 = 0
  · subst he
    have HR := Lib.hid (HGOOD.out rfl)
    have CN := Lib.hid (rvNow h1 HTO.out hTl)
    have H1 := Lib.hid h1
    have F1 := Lib.hid f1
    clear h1 f1 HBAD HGOOD
    go_wp2_with fail
    refine CN.out.mono ?_
    rintro e w2 ⟨d, D, rfl, hm, hp, hd, hb2⟩
    have hlk := rvLook hm hp s
    have H2 := Lib.hid (H1.out.below hb2)
    have F2 := Lib.hid (F1.out.trans (FrK.of_below hb2 (Nat.le_refl _) (Kis F)) fun _ _ e => e)
    clear hm hp hd hb2
    cases hg : T.get s with
    | none =>
      rw [hg] at hlk
      have hR := HR.out
      simp only [hg] at hR
      have HRR := Lib.hid hR
      clear hR hg
      go_wp2_with fail
      go_ret
      exact RPost.of (r := 6) H.out HRR.out H2.out F2.out fun b hb => hb ▸ H.out.kF
    | some i =>
      rw [hg] at hlk
      have hR := HR.out
      simp only [hg] at hR
      have hil := HTO.out.get_lt hg
      have hx := file_at hil
      have hf := H2.out.file i _ hx
      obtain ⟨A, c, hv, hc, -⟩ := own_form (H2.out.row i _ hx)
      have c0 : w2.cell? ⟨m.fb i, 0, none⟩ = some (.slice A (T.file i).b.length c) := by rw [hf.cell 0, ← hv]; rfl
      have c1 : w2.cell? ⟨m.fb i, 1, none⟩ = some (.int .i64 ((T.file i).s : Nat)) := by rw [hf.cell 1]; rfl
      have f1 := hf.frozen 1
      have HRR := Lib.hid hR
      have HF := Lib.hid hf
      have HX := Lib.hid hx
      have HIL := Lib.hid hil
      clear hR hg hf hx hil hv hc
      go_wp2_with fail
      go_ret
      have hfr := FrK.set w2 (m.fb i) 1 (.int .i64 ((T.file i).b.length : Nat))
      have hP : RPost base w2 K F R (.returned (.int .i64 (0 : Nat))) (w2.setCell ⟨m.fb i, 1, none⟩ (.int .i64 ((T.file i).b.length : Nat))) := by
        rw [HRR.out]
        refine ⟨rfl, _, H2.out.putFile (v' := m.bv i) (x' := ⟨(T.file i).b, (T.file i).b.length⟩) HX.out hfr (HF.out.set 1 _) (own_of (H2.out.row i (T.file i) HX.out) fun g hg => ?_) (fun g hg => .inl hg), hfr.mono fun b _ e => by rw [e]; exact H2.out.kB i HIL.out⟩
        obtain ⟨cur, hcur⟩ := own_bk (H2.out.row i (T.file i) HX.out) hg
        exact hfr.block g hcur.lt (ne_of_type hcur HF.out (by decide))
      exact hP.after F2.out (fun b hb => hb ▸ H.out.kF) H.out.baseLe
  · have hne : ((e0 : Int) != 0) = true := by simp; omega
    have HRR := Lib.hid (HBAD.out he)
    have H1 := Lib.hid h1
    have F1 := Lib.hid f1
    clear h1 f1 HBAD HGOOD
    go_wp2_with fail
    go_ret
    exact RPost.of H.out HRR.out H1.out F1.out fun b hb => hb ▸ H.out.kF
end Go.Proofs.Ytdjmmdhjjdnbdaa

/- Layer 4: the document notes a change; a new file; Remove. -/
namespace Go.Proofs.Ytdjmmdhjjdnbdaa
open Go.RowKit

theorem rchinfo : (Try.prog.info? 99).map (fun i => (i.zero, i.size, i.bytes)) = some (some (.agg #[.string ⟨#[]⟩, .pointer none, .string ⟨#[]⟩]), 3, 40) := by kernel_rfl
theorem rchC_one (fb : Nat → Nat) (c : VChg) : ∀ u ∈ rchC fb c, u.oneCell' = true := fun u hu => by
  rcases c with ⟨a, f, b⟩
  cases f <;> simp [rchC, fiO] at hu <;> rcases hu with rfl | rfl | rfl <;> rfl
def RMem.more (m : RMem) (n b : Nat) : RMem := { m with fb := fun j => if j = n then b else m.fb j, bv := fun j => if j = n then .slice none 0 0 else m.bv j }
section
variable {base F : Nat} {w w1 w' : World} {K K1 : Nat → Prop} {S : VSt} {m : RMem}
theorem Rf.noted (h : Rf base w K F S m) {c : VChg} {v' : Value} (hown : w'.ownsRow base 99 3 v' (S.chg.length + 1) (flatR (rchC m.fb) S.chg ++ rchC m.fb c)) (hf : FrK w w' fun b => b = F ∨ m.cv.ownBlock = some b)
    (hb : Bk w' F 82 (rfC S { m with cv := v' })) (ho : ∀ g, v'.ownBlock = some g → m.cv.ownBlock = some g ∨ w.heap.size ≤ g) :
    Rf base w' (Kn K w.heap.size w'.heap.size) F { S with chg := S.chg ++ [c] } { m with cv := v' } := by
  have hcell : ∀ {b : Nat} {t : TypeId} {cs : Array Value}, Bk w b t cs → t ≠ 82 → t ≠ 99 → w'.heap[b]? = w.heap[b]? := fun {b t cs} hB h1 h2 => hf.block b hB.lt (by
    rintro (e | hg)
    · exact ne_of_type hB h.blk h1 e
    · obtain ⟨cur, hc⟩ := own_bk h.chg hg
      exact ne_of_type hB hc h2 rfl)
  have hfl : flatR (rchC m.fb) (S.chg ++ [c]) = flatR (rchC m.fb) S.chg ++ rchC m.fb c := by
    rw [flatR_append]
    simp [flatR]
  refine { blk := hb, syn := ?_, synP := h.synP, chg := ?_, file := fun j y hy => (hcell (h.file j y hy) (by decide) (by decide)).trans (h.file j y hy), row := fun j y hy => own_of (h.row j y hy) fun g hg => ?_, inj := h.inj, kF := .inl h.kF, kS := .inl h.kS, kC := fun g e => (ho g e).elim (fun e2 => .inl (h.kC g e2)) fun e2 => .inr ⟨e2, (hown.lt g e).2⟩, kB := fun j e => .inl (h.kB j e), kR := fun j e g e2 => .inl (h.kR j e g e2), lo := ?_ }
  · obtain ⟨es, q, he⟩ := h.syn.obj
    refine h.syn.of (hf.block _ h.syn.lt ?_)
    rintro (e | hg)
    · exact h.neS e
    · obtain ⟨cur, hc⟩ := own_bk h.chg hg
      rw [show w.heap[m.sb]? = _ from hc] at he
      cases he
  · show w'.ownsRow base _ 3 v' (S.chg ++ [c]).length (flatR (rchC m.fb) (S.chg ++ [c]))
    rw [hfl, List.length_append, List.length_singleton]
    exact hown
  · obtain ⟨cur, hc⟩ := own_bk (h.row j y hy) hg
    exact hcell hc (by decide) (by decide)
  · have hs := hf.size
    intro b e
    rcases e with e | ⟨h4, h5⟩
    · have := h.lo b e
      exact ⟨this.1, by omega⟩
    · exact ⟨Nat.le_trans h.baseLe h4, h5⟩
/-- What the append and the store leave. -/
theorem Rf.appended (h : Rf base w K F S m) {c : VChg} {o : Obj} {A2 : Option Addr} {c2 : Nat} (hown : w'.ownsRow base 99 3 (.slice A2 (S.chg.length + 1) c2) (S.chg.length + 1) (flatR (rchC m.fb) S.chg ++ rchC m.fb c))
    (hg : (w.alloc o).grownBy w' m.cv.ownBlock) (hbl : (Value.slice A2 (S.chg.length + 1) c2).ownBlock = m.cv.ownBlock ∨ (Value.slice A2 (S.chg.length + 1) c2).ownBlock = some (w.heap.size + 1)) :
    (w'.cell? ⟨F, 2, none⟩ = some m.cv ∧ w'.frozen? ⟨F, 2, none⟩ = false) ∧ ∃ m', m'.fb = m.fb ∧ m'.bv = m.bv ∧ Rf base (w'.setCell ⟨F, 2, none⟩ (.slice A2 (S.chg.length + 1) c2)) (Kn K w.heap.size w'.heap.size) F { S with chg := S.chg ++ [c] } m' ∧ FrK w (w'.setCell ⟨F, 2, none⟩ (.slice A2 (S.chg.length + 1) c2)) K := by
  have hFl := h.blk.lt
  have hne : m.cv.ownBlock ≠ some F := fun e => by
    obtain ⟨cur, hc⟩ := own_bk h.chg e
    exact ne_of_type hc h.blk (by decide) rfl
  have hb1 := (h.blk.alloc o).grown hg fun e => hne e.symm
  have st := FrK.set w' F 2 (.slice A2 (S.chg.length + 1) c2)
  have f1 : FrK w w' fun b => m.cv.ownBlock = some b := (((FrK.refl w Kno).alloc o).mono (K' := fun b => m.cv.ownBlock = some b) fun _ _ e => e.elim).trans (FrK.of_grown hg fun b _ e => e) fun _ _ e => e
  have f2 : FrK w (w'.setCell ⟨F, 2, none⟩ (.slice A2 (S.chg.length + 1) c2)) fun b => b = F ∨ m.cv.ownBlock = some b := (f1.mono fun _ _ e => .inr e).trans st fun _ _ e => .inl e
  have hs : (w'.setCell ⟨F, 2, none⟩ (.slice A2 (S.chg.length + 1) c2)).heap.size = w'.heap.size := by simp [World.setCell]
  refine ⟨⟨by rw [hb1.cell 2]; rfl, hb1.frozen 2⟩, { m with cv := .slice A2 (S.chg.length + 1) c2 }, rfl, rfl, ?_, f2.mono fun b _ e => e.elim (fun e => e ▸ h.kF) fun e => h.kC b e⟩
  rw [← hs]
  refine h.noted (own_of hown fun g hg2 => ?_) f2 (hb1.set 2 _) fun g e => ?_
  · obtain ⟨cur, hc⟩ := own_bk hown hg2
    exact st.block g hc.lt (ne_of_type hc hb1 (by decide))
  · rcases hbl with e2 | e2
    · exact .inl (by rw [← e2]; exact e)
    · rw [e2] at e
      injection e with e
      exact .inr (by omega)
end
end Go.Proofs.Ytdjmmdhjjdnbdaa

/- Layer 4: the document's Remove. -/
namespace Go.Proofs.Ytdjmmdhjjdnbdaa
open Go.RowKit

set_option maxRecDepth 100000 in
set_option maxHeartbeats 1000000 in
theorem rvRemove {base F : Nat} {w : World} {K : Nat → Prop} {S : VSt} {m : RMem} (h : Rf base w K F S m) (hok : S.Ok) (hops : S.ops ≤ 4611686018427387904) (hlen : S.chg.length ≤ 1000000) (s : ByteArray) (hs : s.size ≤ 9223372036854775806) :
    Calls Try.prog 56 #[ptV F, .string s] w (RPost base w K F (S.remove s)) := by
  have cB := rvBegin1 h hok hops s hs
  have hTo := hok.start (vName s)
  have hTl : (S.start (vName s)).1.chg.length ≤ 1000000 := by rw [(S.start_same (vName s)).2.1]; exact hlen
  have hbad := op_start_bad (S := S) (ok := vName s) (do_ := fun T => match T.get s with | none => (T, 6) | some _ => ({ T with chg := T.chg ++ [⟨noT, none, s⟩] }, 0))
  have hgood := op_start_good (S := S) (ok := vName s) (do_ := fun T => match T.get s with | none => (T, 6) | some _ => ({ T with chg := T.chg ++ [⟨noT, none, s⟩] }, 0))
  obtain ⟨R, hR⟩ : ∃ R, S.remove s = R := ⟨_, rfl⟩
  rw [show (S.op (vName s) fun T => match T.get s with | none => (T, 6) | some _ => ({ T with chg := T.chg ++ [⟨noT, none, s⟩] }, 0)) = R from hR] at hbad hgood
  rw [hR]
  obtain ⟨T, e0, hT⟩ : ∃ T e0, S.start (vName s) = (T, e0) := ⟨_, _, rfl⟩
  rw [hT] at cB hTo hTl hbad hgood
  have CB := Lib.hid cB
  have H := Lib.hid h
  have HTO := Lib.hid hTo
  have HBAD := Lib.hid hbad
  have HGOOD := Lib.hid hgood
  clear cB h hTo hbad hgood hR hT hok
  go_enter Try.func56, Try.ntmps56
  go_wp2_with fail
  refine CB.out.mono ?_
  rintro e w1 ⟨rfl, h1, f1⟩
  by_cases he : e0 = 0
  · subst he
    have HR := Lib.hid (HGOOD.out rfl)
    have CN := Lib.hid (rvNow h1 HTO.out hTl)
    have H1 := Lib.hid h1
    have F1 := Lib.hid f1
    clear h1 f1 HBAD HGOOD
    go_wp2_with fail
    refine CN.out.mono ?_
    rintro e w2 ⟨d, D, rfl, hm, hp, hd, hb2⟩
    have hlk := rvLook hm hp s
    have h2 := H1.out.below hb2
    have F2 := Lib.hid (F1.out.trans (FrK.of_below hb2 (Nat.le_refl _) (Kis F)) fun _ _ e => e)
    clear hm hp hd hb2
    cases hg : T.get s with
    | none =>
      rw [hg] at hlk
      have hR := HR.out
      simp only [hg] at hR
      have HRR := Lib.hid hR
      have H2 := Lib.hid h2
      clear hR hg h2
      go_wp2_with fail
      go_ret
      exact RPost.of (r := 6) H.out HRR.out H2.out F2.out fun b hb => hb ▸ H.out.kF
    | some i =>
      rw [hg] at hlk
      have hR := HR.out
      simp only [hg] at hR
      obtain ⟨A, c0, hcv, hc0, -⟩ := own_form h2.chg
      have k2 : w2.cell? ⟨F, 2, none⟩ = some (.slice A T.chg.length c0) := by rw [h2.blk.cell 2, ← hcv]; rfl
      have rd1 : Rd (w2.alloc (.cells #[.string ⟨#[]⟩, .pointer none, .string s] 99)) (w2.heap.size + 1) (some ⟨w2.heap.size, 0, none⟩) (rchC m.fb ⟨noT, none, s⟩) := Rd.lit w2 #[.string ⟨#[]⟩, .pointer none, .string s] 99
      have own1 := h2.chg.alloc (.cells #[.string ⟨#[]⟩, .pointer none, .string s] 99)
      obtain ⟨i0, hi0, hz0, hz1, hz2⟩ := info_parts rchinfo
      have hbase := h2.baseLe
      have HRR := Lib.hid hR
      have H2 := Lib.hid h2
      have RD1 := Lib.hid rd1
      have OWN1 := Lib.hid own1
      have HCV := Lib.hid hcv
      have HI := Lib.hid (And.intro hi0 (And.intro hz0 (And.intro hz1 hz2)))
      clear hR hg h2 rd1 own1 hcv hi0 hz0 hz1 hz2
      go_wp2_with (at_builtin; go_loud (refine wpList_app _ rfl (.tmp 22) (.tmp 25) 80 rfl base 99 i0 _ 3 40 Try.underlying80 HI.out.1 HI.out.2.1 HI.out.2.2.1 HI.out.2.2.2 rfl (by omega) m.cv T.chg.length _ HCV.out.symm OWN1.out _ (some ⟨w2.heap.size, 0, none⟩) 1 1 (rchC m.fb ⟨noT, none, s⟩) rfl rfl RD1.out (rchC_one _ _) (by simp only [maxLen]; omega) (by omega) (by simp; omega) ?_))
      intro A2 c2 w3 hown2 hgr2 hblk2 hnil2
      obtain ⟨⟨z0, z1⟩, m', -, -, hv3, hf3⟩ := H2.out.appended hown2 hgr2 hblk2
      rw [HCV.out] at z0
      have V3 := Lib.hid hv3
      have F3 := Lib.hid hf3
      clear hown2 hgr2 hblk2 hnil2 hv3 hf3
      go_wp2_with fail
      go_ret
      have hP : RPost base w2 K F R (.returned (.int .i64 (0 : Nat))) (w3.setCell ⟨F, 2, none⟩ (.slice A2 (T.chg.length + 1) c2)) := by
        rw [HRR.out]
        exact ⟨rfl, m', by simpa [World.setCell] using V3.out, F3.out⟩
      exact hP.after F2.out (fun b hb => hb ▸ H.out.kF) H.out.baseLe
  · have hne : ((e0 : Int) != 0) = true := by simp; omega
    have HRR := Lib.hid (HBAD.out he)
    have H1 := Lib.hid h1
    have F1 := Lib.hid f1
    clear h1 f1 HBAD HGOOD
    go_wp2_with fail
    go_ret
    exact RPost.of H.out HRR.out H1.out F1.out fun b hb => hb ▸ H.out.kF
end Go.Proofs.Ytdjmmdhjjdnbdaa

/- Layer 4: the document's Rename. -/
namespace Go.Proofs.Ytdjmmdhjjdnbdaa
open Go.RowKit

theorem rvBegin2 {base F : Nat} {w : World} {K : Nat → Prop} {S : VSt} {m : RMem} (h : Rf base w K F S m) (hok : S.Ok) (hops : S.ops ≤ 4611686018427387904) (s t : ByteArray) (hs : s.size ≤ 9223372036854775806) (ht : t.size ≤ 9223372036854775806) :
    Calls Try.prog 75 #[ptV F, .slice (some ⟨w.heap.size, 0, none⟩) 2 2] (w.alloc (.cells #[.string s, .string t] 9)) fun e w' => e = .returned (.int .i64 ((S.start (vName s && vName t)).2 : Nat)) ∧ Rf base w' K F (S.start (vName s && vName t)).1 m ∧ FrK w w' (Kis F) := by
  have hr : Rd (w.alloc (.cells #[.string s, .string t] 9)) (w.heap.size + 1) (some ⟨w.heap.size, 0, none⟩) ([s, t].map strV) := Rd.lit w #[.string s, .string t] 9
  have C := rvBegin (c := 2) (n := 2) (ns := [s, t]) (h.alloc (.cells #[.string s, .string t] 9)) hok hops hr rfl (fun x hx => by
    rcases List.mem_cons.1 hx with rfl | hx
    · exact hs
    · rw [List.mem_singleton.1 hx]; exact ht) (by omega)
  have e : [s, t].all vName = (vName s && vName t) := by simp
  rw [e] at C
  refine C.mono ?_
  rintro e w' ⟨h1, h2, h3⟩
  exact ⟨h1, h2, (((FrK.refl w Kno).alloc _).mono (K' := Kis F) fun _ _ e => e.elim).trans h3 fun _ _ e => e⟩
set_option maxRecDepth 100000 in
set_option maxHeartbeats 1000000 in
theorem rvRename {base F : Nat} {w : World} {K : Nat → Prop} {S : VSt} {m : RMem} (h : Rf base w K F S m) (hok : S.Ok) (hops : S.ops ≤ 4611686018427387904) (hlen : S.chg.length ≤ 1000000) (s t : ByteArray) (hs : s.size ≤ 9223372036854775806) (ht : t.size ≤ 9223372036854775806) :
    Calls Try.prog 55 #[ptV F, .string s, .string t] w (RPost base w K F (S.rename s t)) := by
  have cB := rvBegin2 h hok hops s t hs ht
  have hTo := hok.start (vName s && vName t)
  have hTl : (S.start (vName s && vName t)).1.chg.length ≤ 1000000 := by rw [(S.start_same (vName s && vName t)).2.1]; exact hlen
  have hbad := op_start_bad (S := S) (ok := (vName s && vName t)) (do_ := fun T => match T.get s with | none => (T, 6) | some i => if s = t then (T, 0) else ({ T with chg := T.chg ++ [⟨t, some i, s⟩] }, 0))
  have hgood := op_start_good (S := S) (ok := (vName s && vName t)) (do_ := fun T => match T.get s with | none => (T, 6) | some i => if s = t then (T, 0) else ({ T with chg := T.chg ++ [⟨t, some i, s⟩] }, 0))
  obtain ⟨R, hR⟩ : ∃ R, S.rename s t = R := ⟨_, rfl⟩
  rw [show (S.op (vName s && vName t) fun T => match T.get s with | none => (T, 6) | some i => if s = t then (T, 0) else ({ T with chg := T.chg ++ [⟨t, some i, s⟩] }, 0)) = R from hR] at hbad hgood
  rw [hR]
  obtain ⟨T, e0, hT⟩ : ∃ T e0, S.start (vName s && vName t) = (T, e0) := ⟨_, _, rfl⟩
  rw [hT] at cB hTo hTl hbad hgood
  have CB := Lib.hid cB
  have H := Lib.hid h
  have HTO := Lib.hid hTo
  have HBAD := Lib.hid hbad
  have HGOOD := Lib.hid hgood
  clear cB h hTo hbad hgood hR hT hok
  go_enter Try.func55, Try.ntmps55
  go_wp2_with fail
  refine CB.out.mono ?_
  rintro e w1 ⟨rfl, h1, f1⟩
  by_cases he : e0 = 0
  · subst he
    have HR := Lib.hid (HGOOD.out rfl)
    have CN := Lib.hid (rvNow h1 HTO.out hTl)
    have H1 := Lib.hid h1
    have F1 := Lib.hid f1
    clear h1 f1 HBAD HGOOD
    go_wp2_with fail
    refine CN.out.mono ?_
    rintro e w2 ⟨d, D, rfl, hm, hp, hd, hb2⟩
    have hlk := rvLook hm hp s
    have h2 := H1.out.below hb2
    have F2 := Lib.hid (F1.out.trans (FrK.of_below hb2 (Nat.le_refl _) (Kis F)) fun _ _ e => e)
    clear hm hp hd hb2
    cases hg : T.get s with
    | none =>
      rw [hg] at hlk
      have hR := HR.out
      simp only [hg] at hR
      have HRR := Lib.hid hR
      have H2 := Lib.hid h2
      clear hR hg h2
      go_wp2_with fail
      go_ret
      exact RPost.of (r := 6) H.out HRR.out H2.out F2.out fun b hb => hb ▸ H.out.kF
    | some i =>
      rw [hg] at hlk
      have hR := HR.out
      simp only [hg] at hR
      by_cases hst : s = t
      · rw [if_pos hst] at hR
        have he1 : (s.toList == t.toList) = true := by rw [strEqV]; exact decide_eq_true hst
        have HRR := Lib.hid hR
        have H2 := Lib.hid h2
        clear hR hg h2 hst
        go_wp2_with fail
        go_ret
        exact RPost.of (r := 0) H.out HRR.out H2.out F2.out fun b hb => hb ▸ H.out.kF
      · rw [if_neg hst] at hR
        have he1 : (s.toList == t.toList) = false := by rw [strEqV]; exact decide_eq_false hst
        clear hst
        obtain ⟨A, c0, hcv, hc0, -⟩ := own_form h2.chg
        have k2 : w2.cell? ⟨F, 2, none⟩ = some (.slice A T.chg.length c0) := by rw [h2.blk.cell 2, ← hcv]; rfl
        have rd1 : Rd (w2.alloc (.cells #[.string t, ptV (m.fb i), .string s] 99)) (w2.heap.size + 1) (some ⟨w2.heap.size, 0, none⟩) (rchC m.fb ⟨t, some i, s⟩) := Rd.lit w2 #[.string t, ptV (m.fb i), .string s] 99
        have own1 := h2.chg.alloc (.cells #[.string t, ptV (m.fb i), .string s] 99)
        obtain ⟨i0, hi0, hz0, hz1, hz2⟩ := info_parts rchinfo
        have hbase := h2.baseLe
        have HRR := Lib.hid hR
        have H2 := Lib.hid h2
        have RD1 := Lib.hid rd1
        have OWN1 := Lib.hid own1
        have HCV := Lib.hid hcv
        have HI := Lib.hid (And.intro hi0 (And.intro hz0 (And.intro hz1 hz2)))
        clear hR hg h2 rd1 own1 hcv hi0 hz0 hz1 hz2
        go_wp2_with (at_builtin; go_loud (refine wpList_app _ rfl (.tmp 30) (.tmp 35) 80 rfl base 99 i0 _ 3 40 Try.underlying80 HI.out.1 HI.out.2.1 HI.out.2.2.1 HI.out.2.2.2 rfl (by omega) m.cv T.chg.length _ HCV.out.symm OWN1.out _ (some ⟨w2.heap.size, 0, none⟩) 1 1 (rchC m.fb ⟨t, some i, s⟩) rfl rfl RD1.out (rchC_one _ _) (by simp only [maxLen]; omega) (by omega) (by simp; omega) ?_))
        intro A2 c2 w3 hown2 hgr2 hblk2 hnil2
        obtain ⟨⟨z0, z1⟩, m', -, -, hv3, hf3⟩ := H2.out.appended hown2 hgr2 hblk2
        rw [HCV.out] at z0
        have V3 := Lib.hid hv3
        have F3 := Lib.hid hf3
        clear hown2 hgr2 hblk2 hnil2 hv3 hf3
        go_wp2_with fail
        go_ret
        have hP : RPost base w2 K F R (.returned (.int .i64 (0 : Nat))) (w3.setCell ⟨F, 2, none⟩ (.slice A2 (T.chg.length + 1) c2)) := by
          rw [HRR.out]
          exact ⟨rfl, m', by simpa [World.setCell] using V3.out, F3.out⟩
        exact hP.after F2.out (fun b hb => hb ▸ H.out.kF) H.out.baseLe
  · have hne : ((e0 : Int) != 0) = true := by simp; omega
    have HRR := Lib.hid (HBAD.out he)
    have H1 := Lib.hid h1
    have F1 := Lib.hid f1
    clear h1 f1 HBAD HGOOD
    go_wp2_with fail
    go_ret
    exact RPost.of H.out HRR.out H1.out F1.out fun b hb => hb ▸ H.out.kF
end Go.Proofs.Ytdjmmdhjjdnbdaa

/- Layer 4: the document's new file; Create. -/
namespace Go.Proofs.Ytdjmmdhjjdnbdaa
open Go.RowKit

theorem flatR_congr {α : Type} {f g : α → List Value} : ∀ {l : List α}, (∀ x ∈ l, f x = g x) → flatR f l = flatR g l
  | [], _ => rfl
  | x :: l, h => by rw [flatR_cons, flatR_cons, h x (List.mem_cons_self ..), flatR_congr fun y hy => h y (List.mem_cons_of_mem _ hy)]
theorem Rf.addFile {base F : Nat} {w : World} {K : Nat → Prop} {S : VSt} {m : RMem} (h : Rf base w K F S m) (hok : S.Ok) :
    Rf base (w.alloc (.cells #[.slice none 0 0, .int .i64 0] 97)) (Kn K w.heap.size (w.heap.size + 1)) F { S with fs := S.fs ++ [⟨[], 0⟩] } (m.more S.fs.length w.heap.size) := by
  have ha := h.alloc (.cells #[.slice none 0 0, .int .i64 0] 97)
  have hsz : (w.alloc (.cells #[.slice none 0 0, .int .i64 0] 97)).heap.size = w.heap.size + 1 := by simp
  have hget : ∀ (j : Nat) (y : VFile), (S.fs ++ [⟨[], 0⟩])[j]? = some y → (j = S.fs.length ∧ y = ⟨[], 0⟩) ∨ (j ≠ S.fs.length ∧ S.fs[j]? = some y) := fun j y hy => by
    rcases Nat.lt_or_ge j S.fs.length with hj | hj
    · rw [List.getElem?_append_left hj] at hy
      exact .inr ⟨by omega, hy⟩
    · have hj1 : j = S.fs.length := by
        have := (List.getElem?_eq_some_iff.1 hy).1
        simp at this
        omega
      subst hj1
      rw [List.getElem?_append_right (Nat.le_refl _), Nat.sub_self] at hy
      simp at hy
      exact .inl ⟨rfl, hy.symm⟩
  have hfb : ∀ i, i < S.fs.length → (m.more S.fs.length w.heap.size).fb i = m.fb i := fun i hi => by
    simp only [RMem.more]
    rw [if_neg (by omega)]
  have hfn : (m.more S.fs.length w.heap.size).fb S.fs.length = w.heap.size := by simp [RMem.more]
  have hlo : ∀ i, i < S.fs.length → m.fb i < w.heap.size := fun i hi => (h.lo _ (h.kB i hi)).2
  have hfl : flatR (rchC (m.more S.fs.length w.heap.size).fb) S.chg = flatR (rchC m.fb) S.chg := by
    refine flatR_congr fun c hc => ?_
    have h1 := hok.chg c hc
    unfold rchC
    cases hf : c.f with
    | none => rfl
    | some i => simp only [fiO, hfb i (h1.1 i hf).1]
  refine { blk := ha.blk, syn := ha.syn.congr fun p hp => ?_, synP := h.synP, chg := ?_, file := ?_, row := ?_, inj := ?_, kF := .inl h.kF, kS := .inl h.kS, kC := fun g e => .inl (h.kC g e), kB := ?_, kR := ?_, lo := ?_ }
  · simp only [fiV, hfb _ (hok.syn p (h.synP.mem_iff.1 hp))]
  · show World.ownsRow _ base _ 3 m.cv S.chg.length (flatR (rchC (m.more S.fs.length w.heap.size).fb) S.chg)
    rw [hfl]
    exact ha.chg
  · intro j y hy
    rcases hget j y hy with ⟨rfl, rfl⟩ | ⟨hji, hy'⟩
    · simp only [RMem.more, if_true]
      exact Bk.new w _ _
    · simp only [RMem.more, if_neg hji]
      exact ha.file j y hy'
  · intro j y hy
    rcases hget j y hy with ⟨rfl, rfl⟩ | ⟨hji, hy'⟩
    · simp only [RMem.more, if_true]
      exact ⟨rfl, .inl ⟨rfl, rfl⟩⟩
    · simp only [RMem.more, if_neg hji]
      exact ha.row j y hy'
  · intro i j hi hj he
    simp at hi hj
    rcases Nat.lt_or_ge i S.fs.length with h1 | h1 <;> rcases Nat.lt_or_ge j S.fs.length with h2 | h2
    · rw [hfb i h1, hfb j h2] at he
      exact h.inj i j h1 h2 he
    · have : j = S.fs.length := by omega
      subst this
      rw [hfb i h1, hfn] at he
      have := hlo i h1
      omega
    · have : i = S.fs.length := by omega
      subst this
      rw [hfb j h2, hfn] at he
      have := hlo j h2
      omega
    · omega
  · intro i hi
    simp at hi
    rcases Nat.lt_or_ge i S.fs.length with h1 | h1
    · rw [hfb i h1]
      exact .inl (h.kB i h1)
    · have : i = S.fs.length := by omega
      subst this
      rw [hfn]
      exact .inr ⟨Nat.le_refl _, by omega⟩
  · intro i hi g hg
    simp at hi
    rcases Nat.lt_or_ge i S.fs.length with h1 | h1
    · simp only [RMem.more, if_neg (show ¬ i = S.fs.length by omega)] at hg
      exact .inl (h.kR i h1 g hg)
    · simp only [RMem.more, if_pos (show i = S.fs.length by omega)] at hg
      simp [Value.ownBlock] at hg
  · intro b e
    rw [hsz]
    rcases e with e | ⟨h4, h5⟩
    · have := h.lo b e
      exact ⟨this.1, by omega⟩
    · exact ⟨Nat.le_trans h.baseLe h4, h5⟩
set_option maxRecDepth 100000 in
set_option maxHeartbeats 1000000 in
theorem rvCreate {base F : Nat} {w : World} {K : Nat → Prop} {S : VSt} {m : RMem} (h : Rf base w K F S m) (hok : S.Ok) (hops : S.ops ≤ 4611686018427387904) (hlen : S.chg.length ≤ 1000000) (s : ByteArray) (hs : s.size ≤ 9223372036854775806) :
    Calls Try.prog 52 #[ptV F, .string s] w (RPost base w K F (S.create s)) := by
  have cB := rvBegin1 h hok hops s hs
  have hTo := hok.start (vName s)
  have hTl : (S.start (vName s)).1.chg.length ≤ 1000000 := by rw [(S.start_same (vName s)).2.1]; exact hlen
  have hbad := op_start_bad (S := S) (ok := vName s) (do_ := fun T => match T.get s with | some _ => (T, 5) | none => ({ T with chg := T.chg ++ [⟨s, some T.fs.length, noT⟩], fs := T.fs ++ [⟨[], 0⟩] }, 0))
  have hgood := op_start_good (S := S) (ok := vName s) (do_ := fun T => match T.get s with | some _ => (T, 5) | none => ({ T with chg := T.chg ++ [⟨s, some T.fs.length, noT⟩], fs := T.fs ++ [⟨[], 0⟩] }, 0))
  obtain ⟨R, hR⟩ : ∃ R, S.create s = R := ⟨_, rfl⟩
  rw [show (S.op (vName s) fun T => match T.get s with | some _ => (T, 5) | none => ({ T with chg := T.chg ++ [⟨s, some T.fs.length, noT⟩], fs := T.fs ++ [⟨[], 0⟩] }, 0)) = R from hR] at hbad hgood
  rw [hR]
  obtain ⟨T, e0, hT⟩ : ∃ T e0, S.start (vName s) = (T, e0) := ⟨_, _, rfl⟩
  rw [hT] at cB hTo hTl hbad hgood
  have CB := Lib.hid cB
  have H := Lib.hid h
  have HTO := Lib.hid hTo
  have HBAD := Lib.hid hbad
  have HGOOD := Lib.hid hgood
  clear cB h hTo hbad hgood hR hT hok
  go_enter Try.func52, Try.ntmps52
  go_wp2_with fail
  refine CB.out.mono ?_
  rintro e w1 ⟨rfl, h1, f1⟩
  by_cases he : e0 = 0
  · subst he
    have HR := Lib.hid (HGOOD.out rfl)
    have CN := Lib.hid (rvNow h1 HTO.out hTl)
    have H1 := Lib.hid h1
    have F1 := Lib.hid f1
    clear h1 f1 HBAD HGOOD
    go_wp2_with fail
    refine CN.out.mono ?_
    rintro e w2 ⟨d, D, rfl, hm, hp, hd, hb2⟩
    have hlk := rvLook hm hp s
    have h2 := H1.out.below hb2
    have F2 := Lib.hid (F1.out.trans (FrK.of_below hb2 (Nat.le_refl _) (Kis F)) fun _ _ e => e)
    clear hm hp hd hb2
    cases hg : T.get s with
    | some i =>
      rw [hg] at hlk
      have hR := HR.out
      simp only [hg] at hR
      have HRR := Lib.hid hR
      have H2 := Lib.hid h2
      clear hR hg h2
      go_wp2_with fail
      go_ret
      exact RPost.of (r := 5) H.out HRR.out H2.out F2.out fun b hb => hb ▸ H.out.kF
    | none =>
      rw [hg] at hlk
      have hR := HR.out
      simp only [hg] at hR
      have h3 := h2.addFile HTO.out
      have FA := Lib.hid (F2.out.alloc (.cells #[.slice none 0 0, .int .i64 0] 97))
      obtain ⟨wA, eA⟩ : ∃ wA, w2.alloc (.cells #[.slice none 0 0, .int .i64 0] 97) = wA := ⟨_, rfl⟩
      have sA : wA.heap.size = w2.heap.size + 1 := by rw [← eA]; simp
      rw [eA] at h3 FA
      obtain ⟨x, hx⟩ : ∃ x, w2.heap.size = x := ⟨_, rfl⟩
      rw [hx] at h3
      obtain ⟨A, c0, hcv, hc0, -⟩ := own_form h3.chg
      have k2 : w2.cell? ⟨F, 2, none⟩ = some (.slice A T.chg.length c0) := by rw [h2.blk.cell 2, ← show m.cv = _ from hcv]; rfl
      have k3 : wA.cell? ⟨F, 2, none⟩ = some (.slice A T.chg.length c0) := by rw [h3.blk.cell 2, ← hcv]; rfl
      have hfx : (m.more T.fs.length x).fb T.fs.length = x := by simp [RMem.more]
      have rd1 : Rd (wA.alloc (.cells #[.string s, .pointer (some ⟨x, 0, none⟩), .string ⟨#[]⟩] 99)) (wA.heap.size + 1) (some ⟨wA.heap.size, 0, none⟩) (rchC (m.more T.fs.length x).fb ⟨s, some T.fs.length, noT⟩) := by
        have := Rd.lit wA #[.string s, ptV x, .string ⟨#[]⟩] 99
        show Rd _ _ _ [.string s, ptV ((m.more T.fs.length x).fb T.fs.length), .string ⟨#[]⟩]
        rw [hfx]
        exact this
      have own1 := h3.chg.alloc (.cells #[.string s, .pointer (some ⟨x, 0, none⟩), .string ⟨#[]⟩] 99)
      obtain ⟨i0, hi0, hz0, hz1, hz2⟩ := info_parts rchinfo
      have hbase := h3.baseLe
      have HRR := Lib.hid hR
      have H3 := Lib.hid h3
      have RD1 := Lib.hid rd1
      have OWN1 := Lib.hid own1
      have HCV := Lib.hid hcv
      have EA := Lib.hid eA
      have HX := Lib.hid hx
      have SA := Lib.hid sA
      have HI := Lib.hid (And.intro hi0 (And.intro hz0 (And.intro hz1 hz2)))
      clear hR hg h2 h3 rd1 own1 hcv hi0 hz0 hz1 hz2 eA hx sA hfx
      go_wp2_with (at_builtin; go_loud (rw [EA.out, HX.out]; refine wpList_app _ rfl (.tmp 22) (.tmp 27) 80 rfl base 99 i0 _ 3 40 Try.underlying80 HI.out.1 HI.out.2.1 HI.out.2.2.1 HI.out.2.2.2 rfl (by omega) (m.more T.fs.length x).cv T.chg.length _ HCV.out.symm OWN1.out _ (some ⟨wA.heap.size, 0, none⟩) 1 1 (rchC (m.more T.fs.length x).fb ⟨s, some T.fs.length, noT⟩) (by rw [SA.out, HX.out]; rfl) rfl RD1.out (rchC_one _ _) (by simp only [maxLen]; omega) (by omega) (by simp; omega) ?_))
      intro A2 c2 w3 hown2 hgr2 hblk2 hnil2
      obtain ⟨⟨z0, z1⟩, m', -, -, hv3, hf3⟩ := H3.out.appended (c := ⟨s, some T.fs.length, noT⟩) hown2 hgr2 hblk2
      rw [HCV.out] at z0
      have V3 := Lib.hid hv3
      have F3 := Lib.hid hf3
      clear hown2 hgr2 hblk2 hnil2 hv3 hf3
      go_wp2_with fail
      go_ret
      have hs3 : (w3.setCell ⟨F, 2, none⟩ (.slice A2 (T.chg.length + 1) c2)).heap.size = w3.heap.size := by simp [World.setCell]
      have hsz : wA.heap.size ≤ w3.heap.size := by
        have := F3.out.size
        omega
      rw [HRR.out]
      have V4 := V3.out
      rw [SA.out, HX.out] at V4
      refine ⟨rfl, m', ?_, (FA.out.mono (K' := K) fun b _ e => e ▸ H.out.kF).trans F3.out fun b hb e => ?_⟩
      · refine V4.bigger (fun b e => ?_) fun b e => ?_
        · rcases e with (e | ⟨h4, h5⟩) | ⟨h4, h5⟩
          · exact .inl e
          · exact .inr ⟨by have := F2.out.size; have := HX.out; omega, by have := SA.out; have := HX.out; omega⟩
          · exact .inr ⟨by have := F2.out.size; have := HX.out; omega, by omega⟩
        · rcases e with e | ⟨h4, h5⟩
          · exact V4.lo b (.inl (.inl e))
          · exact ⟨Nat.le_trans H.out.baseLe h4, h5⟩
      · rcases e with e | ⟨h4, h5⟩
        · exact e
        · exact absurd hb (by have := F2.out.size; have := HX.out; omega)
  · have hne : ((e0 : Int) != 0) = true := by simp; omega
    have HRR := Lib.hid (HBAD.out he)
    have H1 := Lib.hid h1
    have F1 := Lib.hid f1
    clear h1 f1 HBAD HGOOD
    go_wp2_with fail
    go_ret
    exact RPost.of H.out HRR.out H1.out F1.out fun b hb => hb ▸ H.out.kF
end Go.Proofs.Ytdjmmdhjjdnbdaa
