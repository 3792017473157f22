/- Texts of the proof of VfsScriptSaid, joined: VrK VrL VrM VrN VrO VrP VrQ VrR. -/
import Derived.Test.YtdjmmdhjjdnbdaaJVfsScript13
import Derived.Deep.RegionHeld3
/- Layer 4: the document's Used. -/
namespace Go.Proofs.Ytdjmmdhjjdnbdaa
open Go.RowKit

def VSt.dirHas (S : VSt) (j i : Nat) : Prop := i ∈ (S.dirN j).map (·.2)
theorem mgPut_self {κ ν : Type} [DecidableEq κ] {k : κ} {v : ν} : ∀ (L : List (κ × ν)), (k, v) ∈ mgPut k v L
  | [] => by simp [mgPut]
  | p :: l => by
    rw [mgPut]
    split
    · exact List.mem_cons_self ..
    · exact List.mem_cons_of_mem _ (mgPut_self l)
theorem dirHas_iff {S : VSt} {i : Nat} : (∃ j, j < S.chg.length + 1 ∧ S.dirHas j i) ↔ ∃ j, j < S.chg.length + 2 ∧ S.has j i := by
  constructor
  · rintro ⟨j, -, h2⟩
    obtain ⟨p, hp, rfl⟩ := List.mem_map.1 h2
    rcases fold_mem hp with h3 | ⟨c, hc, hf⟩
    · exact ⟨1, by omega, List.mem_map.2 ⟨p, h3, rfl⟩⟩
    · obtain ⟨k, hk, rfl⟩ := List.mem_iff_getElem.1 (List.mem_of_mem_take hc)
      exact ⟨k + 2, by omega, _, List.getElem?_eq_getElem hk, hf⟩
  · rintro ⟨j, h1, h2⟩
    match j, h2 with
    | 0, h2 => exact ⟨S.chg.length, by omega, h2⟩
    | 1, h2 => exact ⟨0, by omega, h2⟩
    | k + 2, h2 =>
      obtain ⟨c, hc, hf⟩ := h2
      obtain ⟨hk, rfl⟩ := List.getElem?_eq_some_iff.1 hc
      refine ⟨k + 1, by omega, ?_⟩
      unfold VSt.dirHas
      rw [dirN_succ hk]
      unfold chgOn
      rw [hf]
      exact List.mem_map.2 ⟨_, mgPut_self _, rfl⟩
theorem used_dir {S : VSt} (hok : S.Ok) {ks : List Nat} (hn : ks.Nodup) (hm : ∀ i, i ∈ ks ↔ ∃ j, j < S.chg.length + 1 ∧ S.dirHas j i) : (ks.map fun i => (S.file i).b.length).sum = S.used :=
  used_of hok hn fun i => (hm i).trans dirHas_iff
theorem VSt.Ok.dirHas_lt {S : VSt} (h : S.Ok) {j i : Nat} (hi : S.dirHas j i) : i < S.fs.length := by
  obtain ⟨p, hp, rfl⟩ := List.mem_map.1 hi
  exact h.dirN_lt hp
theorem rpinfo : (Try.prog.info? 94).map (fun i => (i.zero, i.size, i.bytes)) = some (some (.pointer none), 1, 8) := by kernel_rfl
theorem rfinfo : ∃ j, Try.prog.info? 97 = some j ∧ j.size ≠ 0 := by
  have h : (Try.prog.info? 97).map (·.size) = some 2 := by kernel_rfl
  cases hq : Try.prog.info? 97 with
  | none => rw [hq] at h; simp at h
  | some j =>
    rw [hq] at h
    simp at h
    exact ⟨j, rfl, by omega⟩
/-- Two pointers to files. -/
theorem run_eqlF {w : World} {a b : Nat} (ha : IsRow w a) (hb : IsRow w b) : (binOp .eql 94 (ptV a) (ptV b)).run Try.prog w = .ok (.bool (decide (a = b))) w := by
  obtain ⟨j, hj, hsz⟩ := rfinfo
  by_cases hab : a = b
  · subst hab
    rw [decide_eq_true rfl]
    exact run_eql_ptr_same w _ Try.underlying94 hj
  · obtain ⟨ca, ta, ha⟩ := ha
    obtain ⟨cb, tb, hb⟩ := hb
    rw [decide_eq_false hab]
    exact run_eql_ptr_other w Try.underlying94 hj hsz (fun e => hab (by injection e)) ha hb
end Go.Proofs.Ytdjmmdhjjdnbdaa

/- Layer 4: the document's Used: the walk. -/
namespace Go.Proofs.Ytdjmmdhjjdnbdaa
open Go.RowKit

def lenSum (S : VSt) (ks : List Nat) : Nat := (ks.map fun i => (S.file i).b.length).sum
theorem lenSum_snoc (S : VSt) (ks : List Nat) (i : Nat) : lenSum S (ks ++ [i]) = lenSum S ks + (S.file i).b.length := by simp [lenSum]
theorem mem_take_snoc {α : Type} [DecidableEq α] {l : List α} {j : Nat} {x y : α} (h : l[j]? = some y) : decide (x ∈ l.take (j + 1)) = (decide (x ∈ l.take j) || decide (y = x)) := by
  have e : x ∈ l.take (j + 1) ↔ (x ∈ l.take j ∨ y = x) := by
    rw [take_snoc h, List.mem_append, List.mem_singleton]
    exact ⟨fun h => h.imp id Eq.symm, fun h => h.imp id Eq.symm⟩
  rw [decide_eq_decide.2 e]
  exact Bool.decide_or _ _
set_option maxRecDepth 100000 in
set_option maxHeartbeats 4000000 in
theorem rvUsed {base F : Nat} {w : World} {K : Nat → Prop} {S : VSt} {m : RMem} (h : Rf base w K F S m) (hok : S.Ok) (hlen : S.chg.length ≤ 1000000) (hfl : S.fs.length ≤ 1000000) (hfb : ∀ x ∈ S.fs, x.b.length ≤ 1000000000) :
    Calls Try.prog 64 #[ptV F] w fun e w' => e = .returned (.int .i64 (S.used : Nat)) ∧ Below w.heap.size w w' := by
  obtain ⟨Ac, cc, hcv, -, -⟩ := own_form h.chg
  obtain ⟨i0, hi0, hz0, hz1, hz2⟩ := info_parts rpinfo
  have own0 : w.ownsRow w.heap.size 94 1 (.slice none 0 0) 0 [] := World.ownsRow_nil _ _ _ _
  have C2 : Hid (∀ W, Below w.heap.size w W → W.cell? ⟨F, 2, none⟩ = some (.slice Ac S.chg.length cc)) := Lib.hid fun W hW => by rw [hW.cell (by exact h.blk.lt), h.blk.cell 2, ← hcv]; rfl
  have H := Lib.hid h
  have HOK := Lib.hid hok
  have HFB := Lib.hid hfb
  have OWN0 := Lib.hid own0
  have HI := Lib.hid (And.intro hi0 (And.intro hz0 (And.intro hz1 hz2)))
  have HSUM : Hid (∀ ks : List Nat, ks.Nodup → (∀ i ∈ ks, i < S.fs.length) → lenSum S ks ≤ 1000000000000000 ∧ ks.length ≤ 1000000) := Lib.hid fun ks hn hi => by
    have h1 := nodup_len_le _ hn hi
    have h2 := sum_bound (f := fun i => (S.file i).b.length) (B := 1000000000) (l := ks) fun i hk => hfb _ (List.mem_of_getElem? (file_at (hi i hk)))
    unfold lenSum
    have h3 : ks.length * 1000000000 ≤ 1000000 * 1000000000 := Nat.mul_le_mul_right _ (by omega)
    omega
  have HFI : Hid (∀ W, Below w.heap.size w W → ∀ i, i < S.fs.length → Bk W (m.fb i) 97 #[m.bv i, .int .i64 ((S.file i).s : Nat)]) := Lib.hid fun W hW i hi => by
    have h1 := h.file i _ (file_at hi)
    exact (hW.block _ h1.lt).trans h1
  have HRW : Hid (∀ i, i < S.fs.length → ∃ A c, m.bv i = .slice A (S.file i).b.length c) := Lib.hid fun i hi => by
    obtain ⟨A, c, e, -, -⟩ := own_form (h.row i _ (file_at hi))
    exact ⟨A, c, e⟩
  clear h hok hfb own0 hcv hi0 hz0 hz1 hz2
  go_enter Try.func64, Try.ntmps64
  go_wp2_with fail
  go_loopw [3, 4, 5] (fun l_ n_ i_ wr => ∃ (k : Nat) (ks : List Nat) (A : Option Addr) (c : Nat), k ≤ S.chg.length + 1 ∧ l_ = .slice A ks.length c ∧ n_ = .int .i64 (lenSum S ks : Nat) ∧ i_ = .int .i64 k ∧ Hid (wr.ownsRow w.heap.size 94 1 (.slice A ks.length c) ks.length (ks.map (fiV m.fb))) ∧ Hid (ks.Nodup ∧ ∀ i, i ∈ ks ↔ ∃ j, j < k ∧ S.dirHas j i) ∧ Hid (Below w.heap.size w wr)) (fun _ _ i_ _ => S.chg.length + 1 - (intOf i_).toNat)
  case atStart => exact ⟨0, [], none, 0, Nat.zero_le _, rfl, rfl, rfl, OWN0, Lib.hid ⟨List.nodup_nil, fun i => ⟨fun e => (by cases e), fun ⟨j, e, _⟩ => (by omega)⟩⟩, Lib.hid (Below.refl _ w)⟩
  case round =>
    obtain ⟨k, ks, A, c, hk, rfl, rfl, rfl, HO, HM, HB⟩ := hrel
    have c2 := C2.out _ HB.out
    have hki : ∀ i ∈ ks, i < S.fs.length := fun i hi => by
      obtain ⟨j, -, h2⟩ := (HM.out.2 i).1 hi
      exact HOK.out.dirHas_lt h2
    by_cases hlt : k ≤ S.chg.length
    · have hlt' : (k : Int) ≤ (S.chg.length : Int) := by omega
      have h1 := (H.out.keep (FrK.of_below HB.out (Nat.le_refl _) Kno) fun _ _ e => e)
      have CD := Lib.hid (rvDir h1 HOK.out hlen k hlt)
      have HKI := Lib.hid hki
      clear h1 hki
      go_wp2_with fail
      refine CD.out.mono ?_
      rintro e w2 ⟨d, D, rfl, hm, hp, hd, hb2⟩
      clear CD
      have own2 := own_of (w' := w2) HO.out fun g hg => hb2.block g (HO.out.lt g hg).2
      obtain ⟨c0, hrange, rg0⟩ := Rh.start hm
      have hrg := hrange (P := Try.prog) Try.underlying79
      have b2 : Below w.heap.size w w2 := HB.out.trans (hb2.mono HB.out.size)
      have own3 := own2.alloc (.mapIter (some d) c0 #[] c0)
      have b3 : Below w.heap.size w (w2.alloc (.mapIter (some d) c0 #[] c0)) := b2.alloc b2.size _
      obtain ⟨w3, hw3⟩ : ∃ w3, w2.alloc (.mapIter (some d) c0 #[] c0) = w3 := ⟨_, rfl⟩
      obtain ⟨r, hr⟩ : ∃ r, w2.heap.size = r := ⟨_, rfl⟩
      have hrge : w.heap.size ≤ r := by have := b2.size; omega
      rw [hw3] at rg0 hrg own3 b3
      rw [hr] at rg0 hrg
      have RG := Lib.hid rg0
      have OWN3 := Lib.hid own3
      have B3 := Lib.hid b3
      have HP := Lib.hid hp
      have hdge : w.heap.size ≤ d := by have := HB.out.size; omega
      clear rg0 own3 b3 hp hm hb2 own2 b2 hrange hw3 hr hd HO HB c2
      go_wp2_with fail
      go_loopw [3, 4, 8] (fun l_ n_ _ wx => ∃ (Z : List (ByteArray × Nat)) (zs : List Nat) (A : Option Addr) (c : Nat), l_ = .slice A zs.length c ∧ n_ = .int .i64 (lenSum S zs : Nat) ∧ Hid (Rh strV (fiV m.fb) wx d r D Z) ∧ Hid (wx.ownsRow w.heap.size 94 1 (.slice A zs.length c) zs.length (zs.map (fiV m.fb))) ∧ Hid (zs.Nodup ∧ ∀ i, i ∈ zs ↔ (i ∈ ks ∨ ∃ s, (s, i) ∈ Z)) ∧ Hid (Below w.heap.size w wx)) (fun _ _ _ wx => D.length - itN wx r)
      case atStart => exact ⟨[], ks, A, c, rfl, rfl, RG, OWN3, Lib.hid ⟨HM.out.1, fun i => ⟨.inl, fun e => e.elim id fun ⟨s, hs⟩ => (by cases hs)⟩⟩, B3⟩
      case round =>
        obtain ⟨Z, zs, A, c, rfl, rfl, RG1, HO, HZ, HB⟩ := hrel
        rcases RG1.out.next (P := Try.prog) 0 with ⟨hperm, hrun⟩ | ⟨s, x, w6, hmem, -, hrun, hrg2, hlenD, hgr, hsz⟩
        · have hnx : ∀ ty, (Instr.next (.pointer (some ⟨r, 0, none⟩)) false ty).run Try.prog wr = _ := fun _ => hrun
          have hpp := hperm.trans HP.out
          have HX : Hid (zs.Nodup ∧ ∀ i, i ∈ zs ↔ ∃ j, j < k + 1 ∧ S.dirHas j i) := Lib.hid ⟨HZ.out.1, fun i => by
            rw [HZ.out.2, HM.out.2]
            constructor
            · rintro (⟨j, h1, h2⟩ | ⟨s, hs⟩)
              · exact ⟨j, by omega, h2⟩
              · exact ⟨k, by omega, List.mem_map.2 ⟨_, hpp.mem_iff.1 hs, rfl⟩⟩
            · rintro ⟨j, h1, h2⟩
              rcases Nat.lt_or_ge j k with h3 | h3
              · exact .inl ⟨j, h3, h2⟩
              · have : j = k := by omega
                subst this
                obtain ⟨p, hp, rfl⟩ := List.mem_map.1 h2
                exact .inr ⟨p.1, hpp.mem_iff.2 hp⟩⟩
          have hadd : IntKind.i64.wrap ((k : Int) + 1) = (k : Int) + 1 := IntWalk.i64_in _ ⟨by omega, by omega⟩
          clear hrun hperm hpp RG1 RG
          go_wp2_with fail
          exact ⟨⟨k + 1, zs, A, c, by omega, rfl, rfl, by go_num, HO, HX, HB⟩, by simp only [intOf]; omega⟩
        · have hnx : ∀ ty, (Instr.next (.pointer (some ⟨r, 0, none⟩)) false ty).run Try.prog wr = _ := fun _ => hrun
          have hen : (Instr.entry (.pointer (some ⟨r, 0, none⟩))).run Try.prog w6 = .ok (.tuple #[.string s, ptV (m.fb x)]) w6 := hrg2.entry (P := Try.prog)
          have hnr : ∀ g, (Value.slice A zs.length c).ownBlock = some g → g ≠ r ∧ g ≠ d := fun g hg => by
            obtain ⟨cur, hcur⟩ := own_bk HO.out hg
            refine ⟨fun e => ?_, fun e => ?_⟩
            · obtain ⟨_, _, _, _, h9⟩ := RG1.out.isIter
              rw [← e, show wr.heap[g]? = _ from hcur] at h9
              cases h9
            · obtain ⟨_, _, h9⟩ := RG1.out.map.obj
              rw [← e, show wr.heap[g]? = _ from hcur] at h9
              cases h9
          have own6 := own_of (w' := w6) HO.out fun g hg => hgr.block g (HO.out.lt g hg).2 fun e => (hnr g hg).1 (Option.some.inj e)
          have b6 : Below w.heap.size w w6 := HB.out.grown hgr HB.out.size fun q e => by
            have := Option.some.inj e
            omega
          have hxl : x < S.fs.length := HOK.out.dirN_lt (HP.out.mem_iff.1 hmem)
          have hzl : ∀ i ∈ zs, i < S.fs.length := fun i hi => by
            rcases (HZ.out.2 i).1 hi with h1 | ⟨s', h1⟩
            · exact HKI.out i h1
            · exact HOK.out.dirN_lt (HP.out.mem_iff.1 (RG1.out.sub h1))
          have hm9 := RG1.out.itN
          obtain ⟨hsum, hzn⟩ := HSUM.out zs HZ.out.1 hzl
          have RG2 := Lib.hid hrg2
          have OWN6 := Lib.hid own6
          have B6 := Lib.hid b6
          have HNR := Lib.hid hnr
          have HZL := Lib.hid hzl
          have HS := Lib.hid hsum
          clear hrg2 own6 b6 hnr hzl hsum hrun HO HB RG1 RG hmem hsz hgr
          go_wp2_with fail
          go_loopw [9, 10] (fun kn_ j_ wy => ∃ j : Nat, j ≤ zs.length ∧ kn_ = .bool (decide (x ∈ zs.take j)) ∧ j_ = .int .i64 j ∧ wy = w6) (fun _ j_ _ => zs.length - (intOf j_).toNat)
          case atStart => exact ⟨0, Nat.zero_le _, by simp, rfl, rfl⟩
          case round =>
            obtain ⟨j, hj, rfl, rfl, rfl⟩ := hrel
            by_cases hjl : j < zs.length
            · have hjl' : (j : Int) < (zs.length : Int) := by omega
              have hadd : IntKind.i64.wrap ((j : Int) + 1) = (j : Int) + 1 := IntWalk.i64_in _ ⟨by omega, by omega⟩
              obtain ⟨y, hy⟩ : ∃ y, zs[j]? = some y := ⟨_, List.getElem?_eq_getElem hjl⟩
              have hnext := mem_take_snoc (x := x) hy
              obtain ⟨q0, hq0⟩ : ∃ q, decide (x ∈ zs.take j) = q := ⟨_, rfl⟩
              rw [hq0] at hnext ⊢
              cases q0 with
              | true =>
                have HX := Lib.hid hnext
                clear hnext hq0 hy
                go_wp2_with fail
                exact ⟨⟨j + 1, by omega, by rw [HX.out]; rfl, by go_num, trivial⟩, by simp only [intOf]; omega⟩
              | false =>
                obtain ⟨q, hq⟩ : ∃ q, decide (y = x) = q := ⟨_, rfl⟩
                have hyl := HZL.out y (List.mem_of_getElem? hy)
                have he := run_eqlF (w := wr) ⟨_, _, HFI.out _ B6.out y hyl⟩ ⟨_, _, HFI.out _ B6.out x hxl⟩
                have hde : decide (m.fb y = m.fb x) = q := by
                  rw [← hq]
                  exact decide_eq_decide.2 ⟨fun e => H.out.inj y x hyl hxl e, fun e => by rw [e]⟩
                rw [hde] at he
                obtain ⟨g, cap, hv, hg0, hglt⟩ := OWN6.out.form (by omega)
                injection hv with hA hnn hcc
                subst hA
                have hcell := OWN6.out.cells (g := g) rfl j (ptV (m.fb y)) (by rw [List.getElem?_map, hy]; rfl)
                rw [Addr.add_lit, Nat.zero_add] at hcell
                rw [hq] at hnext
                have HX := Lib.hid hnext
                clear hnext hq0 hy hde hq hnn hcc hyl
                go_wp2_with fail
                exact ⟨⟨j + 1, by omega, by rw [HX.out]; rfl, by go_num, trivial⟩, by simp only [intOf]; omega⟩
            · have hjl' : ¬ (j : Int) < (zs.length : Int) := by omega
              have htk : zs.take j = zs := List.take_of_length_le (by omega)
              rw [htk]
              obtain ⟨q, hq⟩ : ∃ q, decide (x ∈ zs) = q := ⟨_, rfl⟩
              rw [hq]
              clear htk
              cases q with
              | true =>
                have HQ := Lib.hid (of_decide_eq_true hq)
                clear hq
                have h9 := RG2.out.itN
                rw [List.length_append, List.length_singleton] at h9
                have H9 := Lib.hid h9
                clear h9
                go_wp2_with fail
                refine ⟨⟨Z ++ [(s, x)], zs, A, c, rfl, rfl, RG2, OWN6, Lib.hid ⟨HZ.out.1, fun i => ?_⟩, B6⟩, by have := H9.out; omega⟩
                rw [HZ.out.2]
                simp only [List.mem_append, List.mem_singleton, Prod.mk.injEq]
                constructor
                · rintro (h1 | ⟨s', h1⟩)
                  · exact .inl h1
                  · exact .inr ⟨s', .inl h1⟩
                · rintro (h1 | ⟨s', h1 | ⟨-, rfl⟩⟩)
                  · exact .inl h1
                  · exact .inr ⟨s', h1⟩
                  · exact (HZ.out.2 _).1 HQ.out
              | false =>
                have hqn : x ∉ zs := of_decide_eq_false hq
                clear hq
                have hnd : (zs ++ [x]).Nodup := by
                  rw [List.nodup_append]
                  exact ⟨HZ.out.1, by simp, fun a ha b hb e => by
                    rw [List.mem_singleton.1 hb] at e
                    exact hqn (e ▸ ha)⟩
                have hlt2 : ∀ i ∈ zs ++ [x], i < S.fs.length := fun i hi => by
                  rcases List.mem_append.1 hi with h1 | h1
                  · exact HZL.out i h1
                  · rw [List.mem_singleton.1 h1]; exact hxl
                have hs2 := (HSUM.out _ hnd hlt2).1
                rw [lenSum_snoc] at hs2
                have rd1 : Rd (wr.alloc (.cells #[ptV (m.fb x)] 94)) (wr.heap.size + 1) (some ⟨wr.heap.size, 0, none⟩) [ptV (m.fb x)] := Rd.lit wr #[ptV (m.fb x)] 94
                have own1 := OWN6.out.alloc (.cells #[ptV (m.fb x)] 94)
                have b7 : Below w.heap.size w (wr.alloc (.cells #[ptV (m.fb x)] 94)) := B6.out.alloc B6.out.size _
                have rg7 : Rh strV (fiV m.fb) (wr.alloc (.cells #[ptV (m.fb x)] 94)) d r D (Z ++ [(s, x)]) := RG2.out.of (Below.heap_alloc wr _ d RG2.out.map.lt) (Below.heap_alloc wr _ r RG2.out.ltr)
                have hws := B6.out.size
                have RD1 := Lib.hid rd1
                have OWN1 := Lib.hid own1
                have B7 := Lib.hid b7
                have RG7 := Lib.hid rg7
                have HND := Lib.hid hnd
                have HQN := Lib.hid hqn
                clear rd1 own1 b7 rg7 hnd hqn hlt2
                go_wp2_with (at_builtin; go_loud (refine wpList_app _ rfl (.tmp 46) (.tmp 48) 102 rfl w.heap.size 94 i0 _ 1 8 Try.underlying102 HI.out.1 HI.out.2.1 HI.out.2.2.1 HI.out.2.2.2 rfl (by omega) (.slice A zs.length c) zs.length _ rfl OWN1.out _ (some ⟨wr.heap.size, 0, none⟩) 1 1 [ptV (m.fb x)] rfl rfl RD1.out (fun u hu => by simp at hu; subst hu; rfl) (by simp only [maxLen]; omega) (by omega) (by simp; omega) ?_))
                intro A' c' w7 hown7 hgr7 hbl7 hnil7
                have hgl : ∀ g, (Value.slice A zs.length c).ownBlock = some g → w.heap.size ≤ g := fun g hg => (OWN6.out.lt g hg).1
                have b8 : Below w.heap.size w w7 := B7.out.grown hgr7 B7.out.size hgl
                have rg8 := RG7.out.grown hgr7 (fun e => (HNR.out _ e.symm).2 rfl) (fun e => (HNR.out _ e.symm).1 rfl)
                have hfc := (HFI.out _ b8 x hxl).cell 0
                obtain ⟨Ax, cx, hbx⟩ := HRW.out x hxl
                have y0 : w7.cell? ⟨m.fb x, 0, none⟩ = some (.slice Ax (S.file x).b.length cx) := by rw [hfc, ← hbx]; rfl
                have hadd : IntKind.i64.wrap (((lenSum S zs : Nat) : Int) + ((S.file x).b.length : Nat)) = ((lenSum S (zs ++ [x]) : Nat) : Int) := by
                  rw [lenSum_snoc, Int.natCast_add]
                  exact IntWalk.i64_in _ ⟨by omega, by omega⟩
                have hle : (zs ++ [x]).length = zs.length + 1 := by simp
                have HO8 : Hid (w7.ownsRow w.heap.size 94 1 (.slice A' (zs ++ [x]).length c') (zs ++ [x]).length ((zs ++ [x]).map (fiV m.fb))) := Lib.hid (by rw [hle, List.map_append]; exact hown7)
                have B8 := Lib.hid b8
                have RG8 := Lib.hid rg8
                have h9 := rg8.itN
                rw [List.length_append, List.length_singleton] at h9
                have H9 := Lib.hid h9
                have HLE := Lib.hid hle
                clear hown7 hgr7 hbl7 hnil7 hgl b8 rg8 hfc hbx hle h9
                go_wp2_with fail
                refine ⟨⟨Z ++ [(s, x)], zs ++ [x], A', c', by rw [HLE.out], rfl, RG8, HO8, Lib.hid ⟨HND.out, fun i => ?_⟩, B8⟩, by have := H9.out; omega⟩
                rw [List.mem_append, List.mem_singleton, HZ.out.2]
                simp only [List.mem_append, List.mem_singleton, Prod.mk.injEq]
                constructor
                · rintro ((h1 | ⟨s', h1⟩) | rfl)
                  · exact .inl h1
                  · exact .inr ⟨s', .inl h1⟩
                  · exact .inr ⟨s, .inr ⟨rfl, rfl⟩⟩
                · rintro (h1 | ⟨s', h1 | ⟨-, rfl⟩⟩)
                  · exact .inl (.inl h1)
                  · exact .inl (.inr ⟨s', h1⟩)
                  · exact .inr rfl
    · have hlt' : ¬ (k : Int) ≤ (S.chg.length : Int) := by omega
      have hused := used_dir HOK.out HM.out.1 fun i => by
        rw [HM.out.2, show k = S.chg.length + 1 by omega]
      have hsum : lenSum S ks = S.used := hused
      rw [hsum]
      clear hsum hused hki
      go_wp2_with fail
      go_ret
      exact ⟨rfl, HB.out⟩
end Go.Proofs.Ytdjmmdhjjdnbdaa

/- Layer 4: the document's Append. -/
namespace Go.Proofs.Ytdjmmdhjjdnbdaa
open Go.RowKit

set_option maxRecDepth 100000 in
set_option maxHeartbeats 1000000 in
theorem rvAppend {base F : Nat} {w : World} {K : Nat → Prop} {S : VSt} {m : RMem} {B n c : Nat} {A : Option Addr} {zs : List Int} (h : Rf base w K F S m) (hok : S.Ok) (hops : S.ops ≤ 4611686018427387904) (hlen : S.chg.length ≤ 1000000) (hfl : S.fs.length ≤ 1000000) (hfb : ∀ x ∈ S.fs, x.b.length ≤ 1000000000) (hlim : 0 ≤ S.limit ∧ S.limit ≤ 4611686018427387904) (hz : Rb w B A zs) (hAF : zs ≠ [] → ∀ a, A = some a → a.block ≠ F) (hzl : zs.length = n) (hBw : B ≤ w.heap.size) (hn : n ≤ 1000000000000) (s : ByteArray) (hs : s.size ≤ 9223372036854775806) :
    Calls Try.prog 62 #[ptV F, .string s, .slice A n c] w (RPost base w K F (S.append s zs)) := by
  have cB := rvBegin1 h hok hops s hs
  have hTo := hok.start (vName s)
  have hTl : (S.start (vName s)).1.chg.length ≤ 1000000 := by rw [(S.start_same (vName s)).2.1]; exact hlen
  have hbad := op_start_bad (S := S) (ok := vName s) (do_ := fun T => match T.get s with | none => (T, 6) | some i => if T.limit < (T.used : Int) + (zs.length : Int) then (T, 7) else (T.setFile i ⟨(T.file i).b ++ zs, (T.file i).s⟩, 0))
  have hgood := op_start_good (S := S) (ok := vName s) (do_ := fun T => match T.get s with | none => (T, 6) | some i => if T.limit < (T.used : Int) + (zs.length : Int) then (T, 7) else (T.setFile i ⟨(T.file i).b ++ zs, (T.file i).s⟩, 0))
  obtain ⟨R, hR⟩ : ∃ R, S.append s zs = R := ⟨_, rfl⟩
  rw [show (S.op (vName s) fun T => match T.get s with | none => (T, 6) | some i => if T.limit < (T.used : Int) + (zs.length : Int) then (T, 7) else (T.setFile i ⟨(T.file i).b ++ zs, (T.file i).s⟩, 0)) = R from hR] at hbad hgood
  rw [hR]
  obtain ⟨T, e0, hT⟩ : ∃ T e0, S.start (vName s) = (T, e0) := ⟨_, _, rfl⟩
  rw [hT] at cB hTo hTl hbad hgood
  obtain ⟨hs1, hs2, hs3, hs4, -⟩ := S.start_same (vName s)
  rw [hT] at hs1 hs2 hs3 hs4
  have hfl2 : T.fs.length ≤ 1000000 := by rw [show T.fs = S.fs from hs3]; exact hfl
  have hfb2 : ∀ x ∈ T.fs, x.b.length ≤ 1000000000 := by rw [show T.fs = S.fs from hs3]; exact hfb
  have hlim2 : 0 ≤ T.limit ∧ T.limit ≤ 4611686018427387904 := by rw [show T.limit = S.limit from hs4]; exact hlim
  have HFB := Lib.hid hfb2
  have HZ := Lib.hid hz
  have HAF := Lib.hid hAF
  have HZL := Lib.hid hzl
  clear hs1 hs2 hs3 hs4 hfl hfb hfb2 hlim hz hAF hzl
  have CB := Lib.hid cB
  have H := Lib.hid h
  have HTO := Lib.hid hTo
  have HBAD := Lib.hid hbad
  have HGOOD := Lib.hid hgood
  clear cB h hTo hbad hgood hR hT hok
  go_enter Try.func62, Try.ntmps62
  go_wp2_with fail
  refine CB.out.mono ?_
  rintro e w1 ⟨rfl, h1, f1⟩
  by_cases he : e0 = 0
  · subst he
    have HR := Lib.hid (HGOOD.out rfl)
    have CN := Lib.hid (rvNow h1 HTO.out hTl)
    have H1 := Lib.hid h1
    have F1 := Lib.hid f1
    clear h1 f1 HBAD HGOOD
    go_wp2_with fail
    refine CN.out.mono ?_
    rintro e w2 ⟨d, D, rfl, hm, hp, hd, hb2⟩
    have hlk := rvLook hm hp s
    have H2 := Lib.hid (H1.out.below hb2)
    have F2 := Lib.hid (F1.out.trans (FrK.of_below hb2 (Nat.le_refl _) (Kis F)) fun _ _ e => e)
    clear hm hp hd hb2
    cases hg : T.get s with
    | none =>
      rw [hg] at hlk
      have hR := HR.out
      simp only [hg] at hR
      have HRR := Lib.hid hR
      clear hR hg
      go_wp2_with fail
      go_ret
      exact RPost.of (r := 6) H.out HRR.out H2.out F2.out fun b hb => hb ▸ H.out.kF
    | some i =>
      rw [hg] at hlk
      have hR := HR.out
      simp only [hg] at hR
      have hil := HTO.out.get_lt hg
      have hx := file_at hil
      have c0 : ∀ W, Below w2.heap.size w2 W → W.cell? ⟨F, 0, none⟩ = some (.int .i64 T.limit) := fun W hW => by rw [hW.cell (by exact H2.out.blk.lt), H2.out.blk.cell 0]; rfl
      have C0 := Lib.hid c0
      have cu := rvUsed H2.out.drew HTO.out hTl hfl2 HFB.out
      have hBD : Below w2.heap.size w2 w2.drew := (Below.refl _ w2).drew
      have BD := Lib.hid hBD
      obtain ⟨u, hu⟩ : ∃ u, T.used = u := ⟨_, rfl⟩
      have hub := used_bound hfl2 HFB.out
      rw [hu] at hR hub
      have HU := Lib.hid hu
      have HRR := Lib.hid hR
      have HX := Lib.hid hx
      have HIL := Lib.hid hil
      have hadd : IntKind.i64.wrap ((u : Int) + (n : Int)) = ((u + n : Nat) : Int) := by
        rw [show ((u : Int) + (n : Int)) = ((u + n : Nat) : Int) by omega]
        exact IntWalk.i64_in _ ⟨by omega, by omega⟩
      rw [hu] at cu
      have CU := Lib.hid cu
      clear hR hg hx hil hu c0 cu hBD
      go_wp2_with fail
      go_region_held3 (fun W => W.cell? ⟨F, 0, none⟩ = some (.int .i64 T.limit)) (first | exact C0.out _ BD.out | exact C0.out _ hb3)
        (first
          | (go_at_call 64
             refine CU.out.mono ?_
             rintro e w3 ⟨rfl, hb3'⟩
             have hb3 := BD.out.trans hb3')
          | fail)
      have B3 := Lib.hid hb3
      have H3 := Lib.hid (H2.out.below hb3)
      have F3 := Lib.hid (F2.out.trans (FrK.of_below hb3 (Nat.le_refl _) (Kis F)) fun _ _ e => e)
      rename_i hH
      clear hH hb3 hb3' CU C0 BD
      by_cases hcmp : T.limit < (u : Int) + (n : Int)
      · have hd : decide (T.limit < (u : Int) + (n : Int)) = true := decide_eq_true hcmp
        have hR := HRR.out
        rw [if_pos (by rw [HZL.out]; exact hcmp)] at hR
        have HR7 := Lib.hid hR
        clear hR
        go_wp2_with fail
        go_ret
        exact RPost.of (r := 7) H.out HR7.out H3.out F3.out fun b hb => hb ▸ H.out.kF
      · have hd : decide (T.limit < (u : Int) + (n : Int)) = false := decide_eq_false hcmp
        have hR := HRR.out
        rw [if_neg (by rw [HZL.out]; exact hcmp)] at hR
        have HR0 := Lib.hid hR
        obtain ⟨x, hx⟩ : ∃ x, T.file i = x := ⟨_, rfl⟩
        have hf := H3.out.file i _ HX.out
        have hrow := H3.out.row i _ HX.out
        rw [hx] at hf hrow
        obtain ⟨Ax, cx, hv, hc, -⟩ := own_form hrow
        have hxr : Rb w3 w3.heap.size Ax x.b := by rw [hv] at hrow; exact Rd.of_own hrow
        have hxl : x.b.length ≤ 1000000000 := by rw [← hx]; exact HFB.out _ (List.mem_of_getElem? HX.out)
        have c0 : w3.cell? ⟨m.fb i, 0, none⟩ = some (.slice Ax x.b.length cx) := by rw [hf.cell 0, ← hv]; rfl
        have c0a : (w3.alloc (.cells #[] 5)).cell? ⟨m.fb i, 0, none⟩ = some (.slice Ax x.b.length cx) := by rw [(hf.alloc _).cell 0, ← hv]; rfl
        have hnw : m.fb i ≠ w3.heap.size := Nat.ne_of_lt hf.lt
        have hnw2 : w3.heap.size ≠ m.fb i := fun e => hnw e.symm
        have hzr : Rb w3 B A zs := fun hn => Rd.frK HZ.out F3.out (fun a e => HAF.out (fun e0 => hn (by rw [e0]; rfl)) a e) hBw hn
        have hbs : base ≤ w3.heap.size := H3.out.baseLe
        have hBs : B ≤ w3.heap.size := Nat.le_trans hBw F3.out.size
        have HXR := Lib.hid hxr
        have HF := Lib.hid hf
        have HZR := Lib.hid hzr
        have HXX := Lib.hid hx
        clear hR hrow hv hxr hf hzr hx
        go_wp2_with (at_builtin; go_loud (refine wpList_appb _ rfl (.tmp 33) (.tmp 37) rfl w3.heap.size _ 0 [] rfl (World.ownsRow_lit w3 #[] 0 (Nat.le_refl _) (by simp [maxLen]) rfl) w3.heap.size Ax x.b.length cx x.b rfl rfl (HXR.out.alloc (Nat.le_refl _) _) (by omega) (by simp) ?_))
        intro A4 c4 w4 happ1 hne1
        have hap1 := happ1.fresh1
        have hb4 := hap1.below0
        have hzr4 := HZR.out.below (hb4.mono hBs)
        have HA1 := Lib.hid hap1
        have HZ4 := Lib.hid hzr4
        have hB4 := hb4.size
        clear happ1 hap1 hb4 hzr4 hne1
        go_wp2_with (at_builtin; go_loud (refine wpList_appb _ rfl (.tmp 38) (.tmp 39) rfl w3.heap.size _ _ _ rfl HA1.out.own B A n c zs rfl HZL.out HZ4.out (by omega) (by omega) ?_))
        intro A5 c5 w5 happ2 hne2
        have hap2 := HA1.out.trans happ2
        have hb5 := hap2.below0
        have hfF : Bk w5 (m.fb i) 97 #[m.bv i, .int .i64 (x.s : Nat)] := (hb5.block _ HF.out.lt).trans HF.out
        have z0 : w5.cell? ⟨m.fb i, 0, none⟩ = some (m.bv i) := by rw [hfF.cell 0]; rfl
        have z1 := hfF.frozen 0
        have HA2 := Lib.hid hap2
        have HB5 := Lib.hid hb5
        have HF5 := Lib.hid hfF
        clear happ2 hap2 hb5 hfF hne2
        go_wp2_with fail
        go_ret
        have st := FrK.set w5 (m.fb i) 0 (.slice A5 (x.b.length + n) c5)
        have f5 : FrK w3 (w5.setCell ⟨m.fb i, 0, none⟩ (.slice A5 (x.b.length + n) c5)) (Kis (m.fb i)) := (FrK.of_below HB5.out (Nat.le_refl _) (Kis (m.fb i))).trans st fun _ _ e => e
        have hlo : ∀ g, (Value.slice A5 (x.b.length + n) c5).ownBlock = some g → w3.heap.size ≤ g := fun g hg => (HA2.out.own.lt g hg).1
        have hP : RPost base w3 K F R (.returned (.int .i64 (0 : Nat))) (w5.setCell ⟨m.fb i, 0, none⟩ (.slice A5 (x.b.length + n) c5)) := by
          rw [HR0.out, HXX.out]
          refine ⟨rfl, _, H3.out.putFile (v' := .slice A5 (x.b.length + n) c5) (x' := ⟨x.b ++ zs, x.s⟩) HX.out f5 (HF5.out.set 0 _) ?_ (fun g hg => .inr (hlo g hg)), f5.mono fun b _ e => by rw [e]; exact H3.out.kB i HIL.out⟩
          have ho := HA2.out.own
          have hl : (x.b ++ zs).length = x.b.length + n := by rw [List.length_append, HZL.out]
          show World.ownsRow _ base _ 1 _ (x.b ++ zs).length _
          rw [hl]
          refine own_of (World.ownsRow.mono (base' := base) ho hbs) fun g hg => ?_
          obtain ⟨cur, hcur⟩ := own_bk ho hg
          exact st.block g hcur.lt (ne_of_type hcur HF5.out (by decide))
        exact hP.after F3.out (fun b hb => hb ▸ H.out.kF) H.out.baseLe
  · have hne : ((e0 : Int) != 0) = true := by simp; omega
    have HRR := Lib.hid (HBAD.out he)
    have H1 := Lib.hid h1
    have F1 := Lib.hid f1
    clear h1 f1 HBAD HGOOD
    go_wp2_with fail
    go_ret
    exact RPost.of H.out HRR.out H1.out F1.out fun b hb => hb ▸ H.out.kF
end Go.Proofs.Ytdjmmdhjjdnbdaa

/- Layer 4: the document's Size, Fuse, Fault, SyncDir. -/
namespace Go.Proofs.Ytdjmmdhjjdnbdaa
open Go.RowKit

section
variable {base F : Nat} {w w' : World} {K : Nat → Prop} {S : VSt} {m : RMem}
set_option maxRecDepth 100000 in
set_option maxHeartbeats 1000000 in
theorem rvSize (h : Rf base w K F S m) (hok : S.Ok) (hlen : S.chg.length ≤ 1000000) (s : ByteArray) :
    Calls Try.prog 65 #[ptV F, .string s] w fun e w' => e = .returned (.int .i64 (S.size s)) ∧ Below w.heap.size w w' := by
  have CN := Lib.hid (rvNow h hok hlen)
  have H := Lib.hid h
  have HOK := Lib.hid hok
  obtain ⟨z, hz⟩ : ∃ z, S.size s = z := ⟨_, rfl⟩
  rw [hz]
  unfold VSt.size at hz
  have HZ := Lib.hid hz
  clear h hok hz
  go_enter Try.func65, Try.ntmps65
  go_wp2_with fail
  refine CN.out.mono ?_
  rintro e w2 ⟨d, D, rfl, hm, hp, hd, hb2⟩
  have hlk := rvLook hm hp s
  have B2 := Lib.hid hb2
  clear hm hp hd CN
  cases hg : S.get s with
  | none =>
    rw [hg] at hlk
    have hz := HZ.out
    rw [hg] at hz
    have HZ2 := Lib.hid hz
    clear hg hz
    go_wp2_with fail
    go_ret
    exact ⟨by rw [← HZ2.out]; rfl, B2.out⟩
  | some i =>
    rw [hg] at hlk
    have h2 := H.out.below hb2
    have hx := file_at (HOK.out.get_lt hg)
    have hf := h2.file i _ hx
    obtain ⟨A, c, hv, hc, -⟩ := own_form (h2.row i _ hx)
    have c0 : w2.cell? ⟨m.fb i, 0, none⟩ = some (.slice A (S.file i).b.length c) := by rw [hf.cell 0, ← hv]; rfl
    have hz := HZ.out
    rw [hg] at hz
    have HZ2 := Lib.hid hz
    clear hg h2 hx hf hv hc hb2 hz
    go_wp2_with fail
    go_ret
    exact ⟨by rw [← HZ2.out]; rfl, B2.out⟩
set_option maxRecDepth 100000 in
set_option maxHeartbeats 1000000 in
theorem rvFuse (h : Rf base w K F S m) (n : Int) :
    Calls Try.prog 58 #[ptV F, .int .i64 n] w fun e w' => e = .returned (.tuple #[]) ∧ Rf base w' K F (S.setFuse n) m ∧ FrK w w' (Kis F) := by
  have c4 : w.cell? ⟨F, 4, none⟩ = some (.int .i64 S.fuse) := by rw [h.blk.cell 4]; rfl
  have f4 := h.blk.frozen 4
  have V : ∀ a, a = max (-1) n → Rf base (w.setCell ⟨F, 4, none⟩ (.int .i64 a)) K F (S.setFuse n) m ∧ FrK w (w.setCell ⟨F, 4, none⟩ (.int .i64 a)) (Kis F) := fun a ha => by
    subst ha
    exact ⟨h.stored (S' := S.setFuse n) 4 _ (by simp [rfC, VSt.setFuse]) rfl rfl rfl, FrK.set w F 4 _⟩
  have HV := Lib.hid V
  clear V h
  go_enter Try.func58, Try.ntmps58
  go_wp2_with fail
  all_goals go_end0
  all_goals exact ⟨rfl, HV.out _ (by omega)⟩
set_option maxRecDepth 100000 in
set_option maxHeartbeats 1000000 in
theorem rvFault (h : Rf base w K F S m) (n e : Int) :
    Calls Try.prog 59 #[ptV F, .int .i64 n, .int .i64 e] w (RPost base w K F (S.setFault n e)) := by
  by_cases h7 : e ≠ 7 ∧ e ≠ 8
  · have a7 : (e != 7) = true := by simp; exact h7.1
    have a8 : (e != 8) = true := by simp; exact h7.2
    have hR : S.setFault n e = (S, 2) := by unfold VSt.setFault; rw [if_pos h7]
    rw [hR]
    have V := RPost.of (r := 2) h rfl h (FrK.refl w Kno) fun _ e => e.elim
    clear h h7 hR
    go_enter Try.func59, Try.ntmps59
    go_wp2_with fail
    go_ret
    exact V
  · have hR : S.setFault n e = ({ S with fault := max (-1) n, err := e.toNat }, 0) := by unfold VSt.setFault; rw [if_neg h7]
    have he : e = 7 ∨ e = 8 := by omega
    have c5 : w.cell? ⟨F, 5, none⟩ = some (.int .i64 S.fault) := by rw [h.blk.cell 5]; rfl
    have c6 : w.cell? ⟨F, 6, none⟩ = some (.int .i64 (S.err : Nat)) := by rw [h.blk.cell 6]; rfl
    have f5 := h.blk.frozen 5
    have f6 := h.blk.frozen 6
    have V : ∀ (q : Nat) a, a = max (-1) n → RPost base w K F (S.setFault n e) (.returned (.int .i64 (0 : Nat))) (((w.drewN q).setCell ⟨F, 5, none⟩ (.int .i64 a)).setCell ⟨F, 6, none⟩ (.int .i64 e)) := fun q a ha => by
      subst ha
      have he' : e = (e.toNat : Int) := by omega
      rw [hR]
      have v1 := (h.drewN q).stored (S' := { S with fault := max (-1) n }) 5 (.int .i64 (max (-1) n)) (by simp [rfC]) rfl rfl rfl
      have v2 := v1.stored (S' := { S with fault := max (-1) n, err := e.toNat }) 6 (.int .i64 e) (by simp [rfC]; omega) rfl rfl rfl
      exact RPost.of h rfl v2 ((((FrK.refl w (Kis F)).drewN q).trans (FrK.set _ F 5 _) fun _ _ x => x).trans (FrK.set _ F 6 _) fun _ _ x => x) fun b x => x ▸ h.kF
    have HV := Lib.hid V
    clear V h h7 hR
    rcases he with rfl | rfl
    all_goals
      go_enter Try.func59, Try.ntmps59
      go_wp2_with fail
    all_goals go_ret
    all_goals exact HV.out 0 _ (by omega)
/-- The directory, synced. -/
theorem Rf.synced (h : Rf base w K F S m) {d a : Nat} {D L : List (ByteArray × Nat)} (hm : Mh strV (fiV m.fb) w d D) (hp : D.Perm L) (hd : a ≤ d) (hb : base ≤ a) :
    Rf base ((w.setCell ⟨F, 1, none⟩ (maV d)).setCell ⟨F, 2, none⟩ (.slice none 0 0)) (Kn K a w.heap.size) F { S with syn := L, chg := [] } { m with sb := d, cv := .slice none 0 0, Y := D } := by
  have hf : FrK w ((w.setCell ⟨F, 1, none⟩ (maV d)).setCell ⟨F, 2, none⟩ (.slice none 0 0)) (Kis F) := (FrK.set w F 1 _).trans (FrK.set _ F 2 _) fun _ _ e => e
  have hB := (h.blk.set 1 (maV d)).set 2 (.slice none 0 0)
  have hsz : ((w.setCell ⟨F, 1, none⟩ (maV d)).setCell ⟨F, 2, none⟩ (.slice none 0 0)).heap.size = w.heap.size := by simp [World.setCell]
  have hdF : d ≠ F := fun e => by
    obtain ⟨es, c, h1⟩ := hm.obj
    rw [e, show w.heap[F]? = _ from h.blk] at h1
    cases h1
  refine { blk := ?_, syn := hm.of (hf.block _ hm.lt hdF), synP := hp, chg := World.ownsRow_nil _ _ _ _, file := ?_, row := ?_, inj := h.inj, kF := .inl h.kF, kS := .inr ⟨hd, hm.lt⟩, kC := fun g e => by simp [Value.ownBlock] at e, kB := fun j e => .inl (h.kB j e), kR := fun j e g e2 => .inl (h.kR j e g e2), lo := ?_ }
  · have e : rfC { S with syn := L, chg := [] } { m with sb := d, cv := .slice none 0 0, Y := D } = ((rfC S m).setIfInBounds 1 (maV d)).setIfInBounds 2 (.slice none 0 0) := by simp [rfC]
    rw [e]
    exact hB
  · intro j y hy
    have h4 := h.file j y hy
    exact (hf.block _ h4.lt (ne_of_type h4 h.blk (by decide))).trans h4
  · intro j y hy
    refine own_of (h.row j y hy) fun g hg => ?_
    obtain ⟨cur, hcur⟩ := own_bk (h.row j y hy) hg
    exact hf.block _ hcur.lt (ne_of_type hcur h.blk (by decide))
  · intro b e
    rw [hsz]
    rcases e with e | ⟨h1, h2⟩
    · exact h.lo b e
    · exact ⟨Nat.le_trans hb h1, h2⟩
set_option maxRecDepth 100000 in
set_option maxHeartbeats 1000000 in
theorem rvSyncDir (h : Rf base w K F S m) (hok : S.Ok) (hops : S.ops ≤ 4611686018427387904) (hlen : S.chg.length ≤ 1000000) :
    Calls Try.prog 54 #[ptV F] w (RPost base w K F S.syncDir) := by
  have cB := rvOp h hok hops
  have hTo := hok.strike
  have hTl : S.strike.1.chg.length ≤ 1000000 := by rw [(strike_same S).2.1]; exact hlen
  have hbad := op_struck (S := S) (do_ := fun T => ({ T with syn := T.now, chg := [] }, 0))
  have hgood := op_done (S := S) (do_ := fun T => ({ T with syn := T.now, chg := [] }, 0))
  obtain ⟨R, hR⟩ : ∃ R, S.syncDir = R := ⟨_, rfl⟩
  rw [show (S.op true fun T => ({ T with syn := T.now, chg := [] }, 0)) = R from hR] at hbad hgood
  rw [hR]
  obtain ⟨T, e0, hT⟩ : ∃ T e0, S.strike = (T, e0) := ⟨_, _, rfl⟩
  rw [hT] at cB hTo hTl hbad hgood
  have CB := Lib.hid cB
  have H := Lib.hid h
  have HTO := Lib.hid hTo
  have HBAD := Lib.hid hbad
  have HGOOD := Lib.hid hgood
  clear cB h hTo hbad hgood hR hT hok
  go_enter Try.func54, Try.ntmps54
  go_wp2_with fail
  refine CB.out.mono ?_
  rintro e w1 ⟨rfl, h1, f1⟩
  by_cases he : e0 = 0
  · subst he
    have HR := Lib.hid (HGOOD.out rfl)
    have CN := Lib.hid (rvNow h1 HTO.out hTl)
    have H1 := Lib.hid h1
    have F1 := Lib.hid f1
    clear h1 f1 HBAD HGOOD
    go_wp2_with fail
    refine CN.out.mono ?_
    rintro e w2 ⟨d, D, rfl, hm, hp, hd, hb2⟩
    have h2 := H1.out.below hb2
    have F2 := Lib.hid (F1.out.trans (FrK.of_below hb2 (Nat.le_refl _) (Kis F)) fun _ _ e => e)
    have z1 : w2.cell? ⟨F, 1, none⟩ = some (maV m.sb) := by rw [h2.blk.cell 1]; rfl
    have z2 : w2.cell? ⟨F, 2, none⟩ = some m.cv := by rw [h2.blk.cell 2]; rfl
    have g1 := h2.blk.frozen 1
    have g2 := h2.blk.frozen 2
    have hbl := H.out.baseLe
    have V := Lib.hid (h2.synced hm hp (a := w.heap.size) (Nat.le_trans F1.out.size hd) hbl)
    have hsz : ((w2.setCell ⟨F, 1, none⟩ (maV d)).setCell ⟨F, 2, none⟩ (.slice none 0 0)).heap.size = w2.heap.size := by simp [World.setCell]
    have HSZ := Lib.hid hsz
    clear h2 hm hp hd hb2 hbl hsz
    go_wp2_with fail
    go_ret
    have f3 : FrK w2 ((w2.setCell ⟨F, 1, none⟩ (maV d)).setCell ⟨F, 2, none⟩ (.slice none 0 0)) (Kis F) := (FrK.set w2 F 1 _).trans (FrK.set _ F 2 _) fun _ _ e => e
    rw [HR.out]
    refine ⟨rfl, { m with sb := d, cv := .slice none 0 0, Y := D }, ?_, (F2.out.trans f3 fun _ _ e => e).mono fun b _ e => e ▸ H.out.kF⟩
    rw [show ((w2.setCell ⟨F, 1, none⟩ (.map (some d))).setCell ⟨F, 2, none⟩ (.slice none 0 0)).heap.size = w2.heap.size from HSZ.out]
    exact V.out
  · have hne : ((e0 : Int) != 0) = true := by simp; omega
    have HRR := Lib.hid (HBAD.out he)
    have H1 := Lib.hid h1
    have F1 := Lib.hid f1
    clear h1 f1 HBAD HGOOD
    go_wp2_with fail
    go_ret
    exact RPost.of H.out HRR.out H1.out F1.out fun b hb => hb ▸ H.out.kF
end
end Go.Proofs.Ytdjmmdhjjdnbdaa

/- Layer 4: the document's Turn. -/
namespace Go.Proofs.Ytdjmmdhjjdnbdaa
open Go.RowKit

set_option maxRecDepth 100000 in
set_option maxHeartbeats 1000000 in
theorem rvTurnB {base F : Nat} {w : World} {K : Nat → Prop} {S : VSt} {m : RMem} (h : Rf base w K F S m) (hok : S.Ok) (hlen : S.chg.length ≤ 1000000) (hfb : ∀ x ∈ S.fs, x.b.length ≤ 1000000000) (s : ByteArray) (at_ bits_ : Int) (hbi : 0 ≤ bits_ ∧ bits_ ≤ 255) :
    Calls Try.prog 61 #[ptV F, .string s, .int .i64 at_, .int .u8 bits_] w (RPost base w K F (S.turn s at_ bits_)) := by
  have CN := Lib.hid (rvNow h hok hlen)
  have H := Lib.hid h
  have HOK := Lib.hid hok
  have HFB := Lib.hid hfb
  obtain ⟨R, hR⟩ : ∃ R, S.turn s at_ bits_ = R := ⟨_, rfl⟩
  rw [hR]
  have HR := Lib.hid hR
  clear h hok hR hfb
  cases hg : S.get s with
  | none =>
    have hR : R = (S, 6) := by rw [← HR.out]; unfold VSt.turn; rw [hg]
    have HRR := Lib.hid hR
    have HG := Lib.hid hg
    clear hR hg
    go_enter Try.func61, Try.ntmps61
    go_wp2_with fail
    refine CN.out.mono ?_
    rintro e w2 ⟨d, D, rfl, hm, hp, hd, hb2⟩
    have hlk := rvLook hm hp s
    rw [HG.out] at hlk
    have H2 := Lib.hid (H.out.below hb2)
    have F2 := Lib.hid (FrK.of_below hb2 (Nat.le_refl _) Kno)
    clear hm hp hd hb2
    go_wp2_with fail
    go_ret
    exact RPost.of (r := 6) H.out HRR.out H2.out F2.out fun b hb => hb.elim
  | some i =>
    have hi := HOK.out.get_lt hg
    by_cases hr : at_ < 0 ∨ ((S.file i).b.length : Int) ≤ at_
    · have hR : R = (S, 2) := by
        rw [← HR.out]
        unfold VSt.turn
        rw [hg]
        simp only
        rw [if_pos hr]
      have HRR := Lib.hid hR
      have HG := Lib.hid hg
      clear hR hg
      by_cases h0 : at_ < 0
      · clear hr hi
        go_enter Try.func61, Try.ntmps61
        go_wp2_with fail
        refine CN.out.mono ?_
        rintro e w2 ⟨d, D, rfl, hm, hp, hd, hb2⟩
        have hlk := rvLook hm hp s
        rw [HG.out] at hlk
        have H2 := Lib.hid (H.out.below hb2)
        have F2 := Lib.hid (FrK.of_below hb2 (Nat.le_refl _) Kno)
        clear hm hp hd hb2
        go_wp2_with fail
        go_ret
        exact RPost.of (r := 2) H.out HRR.out H2.out F2.out fun b hb => hb.elim
      · have h1 : ((S.file i).b.length : Int) ≤ at_ := by omega
        have h1' : at_ ≥ ((S.file i).b.length : Int) := h1
        have h1d : decide (at_ < 0) = false := by simp; omega
        have HI := Lib.hid hi
        clear hr hi
        go_enter Try.func61, Try.ntmps61
        go_wp2_with fail
        refine CN.out.mono ?_
        rintro e w2 ⟨d, D, rfl, hm, hp, hd, hb2⟩
        have hlk := rvLook hm hp s
        rw [HG.out] at hlk
        have h2 := H.out.below hb2
        have hf := h2.file i _ (file_at HI.out)
        obtain ⟨A, c, hv, hnc, -⟩ := own_form (h2.row i _ (file_at HI.out))
        have c0 : w2.cell? ⟨m.fb i, 0, none⟩ = some (.slice A (S.file i).b.length c) := by rw [hf.cell 0, ← hv]; rfl
        have H2 := Lib.hid h2
        have F2 := Lib.hid (FrK.of_below hb2 (Nat.le_refl _) Kno)
        clear hm hp hd hb2 h2 hf hv hnc
        go_wp2_with fail
        go_ret
        exact RPost.of (r := 2) H.out HRR.out H2.out F2.out fun b hb => hb.elim
    · obtain ⟨j, rfl⟩ := Int.eq_ofNat_of_zero_le (show 0 ≤ at_ by omega)
      obtain ⟨y, hy⟩ : ∃ y, S.file i = y := ⟨_, rfl⟩
      have hj : j < (S.file i).b.length := by omega
      obtain ⟨x, hx⟩ : ∃ x, (S.file i).b[j]? = some x := ⟨_, List.getElem?_eq_getElem hj⟩
      have hxb := (HOK.out.byt _ (List.mem_of_getElem? (file_at hi))).1 x (List.mem_of_getElem? hx)
      have hxor := (vf_xor hxb hbi).1
      obtain ⟨z, hz⟩ : ∃ z : Int, ((x.toNat ^^^ bits_.toNat : Nat) : Int) = z := ⟨_, rfl⟩
      have hR : R = (S.setFile i ⟨(S.file i).b.set j z, (S.file i).s⟩, 0) := by
        rw [← HR.out, ← hz]
        unfold VSt.turn
        rw [hg]
        simp only
        rw [if_neg hr]
        congr 3
        apply List.ext_getElem?
        intro k
        simp only [Int.toNat_natCast, List.getElem?_modify, List.getElem?_set]
        by_cases hk : j = k
        · subst hk
          have hxe := (List.getElem?_eq_some_iff.1 hx).2
          simp [hj, hxe]
        · simp [hk]
      rw [hz] at hxor
      rw [hy] at hR hj hx hr
      have hyl : y.b.length ≤ 1000000000 := by rw [← hy]; exact HFB.out _ (List.mem_of_getElem? (file_at hi))
      have HRR := Lib.hid hR
      have HG := Lib.hid hg
      have HX := Lib.hid hx
      have HY := Lib.hid hy
      have HI := Lib.hid hi
      have h2' : ¬ (y.b.length : Int) ≤ (j : Int) := by omega
      have h2d : decide ((j : Int) ≥ (y.b.length : Int)) = false := by simp; omega
      have h1d : decide ((j : Int) < 0) = false := by simp
      have hj' : (j : Int) < (y.b.length : Int) := by omega
      clear hR hg hx hy hi hr hxb hz
      go_enter Try.func61, Try.ntmps61
      go_wp2_with fail
      refine CN.out.mono ?_
      rintro e w2 ⟨d, D, rfl, hm, hp, hd, hb2⟩
      have hlk := rvLook hm hp s
      rw [HG.out] at hlk
      have h2 := H.out.below hb2
      have hf := h2.file i _ (file_at HI.out)
      have hrow := h2.row i _ (file_at HI.out)
      rw [HY.out] at hf hrow
      obtain ⟨Ax, cx, hv, hc, -⟩ := own_form hrow
      have hxr : Rb w2 w2.heap.size Ax y.b := by rw [hv] at hrow; exact Rd.of_own hrow
      have c0 : w2.cell? ⟨m.fb i, 0, none⟩ = some (.slice Ax y.b.length cx) := by rw [hf.cell 0, ← hv]; rfl
      have c0a : (w2.alloc (.cells #[] 5)).cell? ⟨m.fb i, 0, none⟩ = some (.slice Ax y.b.length cx) := by rw [(hf.alloc _).cell 0, ← hv]; rfl
      have H2 := Lib.hid h2
      have F2 := Lib.hid (FrK.of_below hb2 (Nat.le_refl _) Kno)
      have HXR := Lib.hid hxr
      have HF := Lib.hid hf
      clear hm hp hd hb2 h2 hf hrow hv hxr
      go_wp2_with (at_builtin; go_loud (refine wpList_appb _ rfl (.tmp 28) (.tmp 32) rfl w2.heap.size _ 0 [] rfl (World.ownsRow_lit w2 #[] 0 (Nat.le_refl _) (by simp [maxLen]) rfl) w2.heap.size Ax y.b.length cx y.b rfl rfl (HXR.out.alloc (Nat.le_refl _) _) (by omega) (by simp) ?_))
      intro A4 c4 w4 happ1 hne1
      have hap1 := happ1.fresh1
      have hb4 := hap1.below0
      have hown4 := hap1.own
      obtain ⟨g, cap, hv, hg0, hglt⟩ := hown4.form (by omega)
      injection hv with hA hnn hcc
      subst hA
      have hfF : Bk w4 (m.fb i) 97 #[m.bv i, .int .i64 (y.s : Nat)] := (hb4.block _ HF.out.lt).trans HF.out
      have z0 : w4.cell? ⟨m.fb i, 0, none⟩ = some (m.bv i) := by rw [hfF.cell 0]; rfl
      have z1 := hfF.frozen 0
      have hgb : g ≠ m.fb i := by
        obtain ⟨cur, hcur⟩ := own_bk (g := g) hown4 rfl
        exact ne_of_type hcur hfF (by decide)
      have st := FrK.set w4 (m.fb i) 0 (.slice (some ⟨g, 0, none⟩) y.b.length c4)
      have hfG := hfF.set 0 (.slice (some ⟨g, 0, none⟩) y.b.length c4)
      have hown5 := own_of (w' := w4.setCell ⟨m.fb i, 0, none⟩ (.slice (some ⟨g, 0, none⟩) y.b.length c4)) hown4 fun q hq => by
        obtain ⟨cur, hcur⟩ := own_bk hown4 hq
        exact st.block q hcur.lt (ne_of_type hcur hfF (by decide))
      have f5 : FrK w2 (w4.setCell ⟨m.fb i, 0, none⟩ (.slice (some ⟨g, 0, none⟩) y.b.length c4)) (Kis (m.fb i)) := (FrK.of_below hb4 (Nat.le_refl _) (Kis (m.fb i))).trans st fun _ _ e => e
      obtain ⟨w5, hw5⟩ : ∃ w5, w4.setCell ⟨m.fb i, 0, none⟩ (.slice (some ⟨g, 0, none⟩) y.b.length c4) = w5 := ⟨_, rfl⟩
      rw [hw5] at hfG hown5 f5
      have y0 : w5.cell? ⟨m.fb i, 0, none⟩ = some (.slice (some ⟨g, 0, none⟩) y.b.length c4) := by rw [hfG.cell 0]; rfl
      have ycell : w5.cell? ⟨g, j, none⟩ = some (.int .u8 x) := by rw [hown5.cellAt j (by omega)]; exact bv_get HX.out
      have yfz := hown5.frozenAt j
      have hglo : w2.heap.size ≤ g := (hown4.lt g rfl).1
      have HW5 := Lib.hid hw5
      have HG5 := Lib.hid hfG
      have HO5 := Lib.hid hown5
      have F5 := Lib.hid f5
      have HGB := Lib.hid hgb
      clear happ1 hap1 hb4 hown4 hne1 hfF hgb st hfG hown5 f5 hw5 hnn hcc
      go_upto_region 7 with fail
      rw [HW5.out]
      clear z0 z1
      go_wp2_with fail
      have y0d : w5.drew.cell? ⟨m.fb i, 0, none⟩ = some (.slice (some ⟨g, 0, none⟩) y.b.length c4) := y0
      have ycd : w5.drew.cell? ⟨g, j, none⟩ = some (.int .u8 x) := ycell
      have yfd : w5.drew.frozen? ⟨g, j, none⟩ = false := yfz
      go_region
      go_wp2_with fail
      go_ret
      have st2 := FrK.set w5 g j (.int .u8 z)
      have f6 : FrK w2 (w5.setCell ⟨g, j, none⟩ (.int .u8 z)).drew (Kis (m.fb i)) := (F5.out.trans st2 fun b hb e => by
        simp only [Kis] at e
        omega).drew
      have e1 : bv (y.b.set j z) = (bv y.b).set j (.int .u8 z) := by simp [bv, List.map_set]
      have hst := (HO5.out.stored j (.int .u8 z)).1
      have hP : RPost base w2 K F R (.returned (.int .i64 (0 : Nat))) (w5.setCell ⟨g, j, none⟩ (.int .u8 z)).drew := by
        rw [HRR.out]
        refine ⟨rfl, _, H2.out.putFile (v' := .slice (some ⟨g, 0, none⟩) y.b.length c4) (x' := ⟨y.b.set j z, y.s⟩) (file_at HI.out) f6 ((HG5.out.far HGB.out.symm _).drew) ?_ (fun q hq => .inr (by have e : g = q := Option.some.inj hq; omega)), f6.mono fun b _ e => by rw [e]; exact H2.out.kB i HI.out⟩
        show World.ownsRow _ base _ 1 _ (y.b.set j z).length (bv (y.b.set j z))
        rw [List.length_set, e1]
        refine World.ownsRow.drew (World.ownsRow.mono (base' := base) ?_ H2.out.baseLe)
        simpa using hst
      exact hP.after F2.out (fun b hb => hb.elim) H.out.baseLe
end Go.Proofs.Ytdjmmdhjjdnbdaa

/- Layer 4: the document's Read. -/
namespace Go.Proofs.Ytdjmmdhjjdnbdaa
open Go.RowKit

/-- What Read comes to. -/
def RRead (base : Nat) (w : World) (K : Nat → Prop) (F : Nat) (m : RMem) (R : VSt × List Int × Nat) (e : Ending) (w' : World) : Prop :=
  ∃ A c, e = .returned (.tuple #[.slice A R.2.1.length c, .int .i64 (R.2.2 : Nat)]) ∧ Rb w' w'.heap.size A R.2.1 ∧ (∀ a, A = some a → w.heap.size ≤ a.block) ∧ Rf base w' K F R.1 m ∧ FrK w w' (Kis F)
theorem RRead.empty {base F r : Nat} {w w' : World} {K : Nat → Prop} {T : VSt} {m : RMem} {R : VSt × List Int × Nat} (hR : R = (T, [], r)) (h : Rf base w' K F T m) (hf : FrK w w' (Kis F)) : RRead base w K F m R (.returned (.tuple #[.slice none 0 0, .int .i64 (r : Nat)])) w' := by
  subst hR
  exact ⟨none, 0, rfl, fun hn => absurd rfl hn, fun a e => (by cases e), h, hf⟩
set_option maxRecDepth 100000 in
set_option maxHeartbeats 1000000 in
theorem rvRead {base F : Nat} {w : World} {K : Nat → Prop} {S : VSt} {m : RMem} (h : Rf base w K F S m) (hok : S.Ok) (hops : S.ops ≤ 4611686018427387904) (hlen : S.chg.length ≤ 1000000) (hfb : ∀ x ∈ S.fs, x.b.length ≤ 1000000000) (s : ByteArray) (hs : s.size ≤ 9223372036854775806) (a n : Int) (ha : -9223372036854775808 ≤ a ∧ a ≤ 9223372036854775807) (hn : -9223372036854775808 ≤ n ∧ n ≤ 9223372036854775807) :
    Calls Try.prog 57 #[ptV F, .string s, .int .i64 a, .int .i64 n] w (RRead base w K F m (S.read s a n)) := by
  have cN := rVfName w s hs
  obtain ⟨R, hR⟩ : ∃ R, S.read s a n = R := ⟨_, rfl⟩
  rw [hR]
  obtain ⟨v, hv⟩ : ∃ v, vName s = v := ⟨_, rfl⟩
  rw [hv] at cN
  unfold VSt.read at hR
  rw [hv] at hR
  have CN := Lib.hid cN
  have H := Lib.hid h
  have HV := Lib.hid hv
  clear cN hv
  cases v with
  | false =>
    rw [if_pos (by rfl)] at hR
    have HR := Lib.hid hR
    clear hR hok h hfb
    go_enter Try.func57, Try.ntmps57
    go_wp2_with fail
    refine CN.out.mono ?_
    rintro e w' ⟨rfl, rfl⟩
    go_wp2_with fail
    go_ret2
    exact RRead.empty HR.out.symm H.out (FrK.refl _ _)
  | true =>
    by_cases h0 : a < 0
    · rw [if_pos (by simp; omega)] at hR
      have HR := Lib.hid hR
      clear hR hok h hfb
      go_enter Try.func57, Try.ntmps57
      go_wp2_with fail
      refine CN.out.mono ?_
      rintro e w' ⟨rfl, rfl⟩
      go_wp2_with fail
      go_ret2
      exact RRead.empty HR.out.symm H.out (FrK.refl _ _)
    · have h0d : decide (a < 0) = false := decide_eq_false h0
      by_cases h1 : n < 0
      · rw [if_pos (by simp; omega)] at hR
        have HR := Lib.hid hR
        clear hR hok h hfb
        go_enter Try.func57, Try.ntmps57
        go_wp2_with fail
        refine CN.out.mono ?_
        rintro e w' ⟨rfl, rfl⟩
        go_wp2_with fail
        go_ret2
        exact RRead.empty HR.out.symm H.out (FrK.refl _ _)
      · have h1d : decide (n < 0) = false := decide_eq_false h1
        obtain ⟨k, rfl⟩ := Int.eq_ofNat_of_zero_le (show 0 ≤ a by omega)
        obtain ⟨l, rfl⟩ := Int.eq_ofNat_of_zero_le (show 0 ≤ n by omega)
        rw [if_neg (by simp)] at hR
        have cB := rvOp h hok hops
        have hTo := hok.strike
        have hTl : S.strike.1.chg.length ≤ 1000000 := by rw [(strike_same S).2.1]; exact hlen
        have hTb : ∀ x ∈ S.strike.1.fs, x.b.length ≤ 1000000000 := by rw [(strike_same S).2.2.1]; exact hfb
        obtain ⟨T, e0, hT⟩ : ∃ T e0, S.strike = (T, e0) := ⟨_, _, rfl⟩
        rw [hT] at cB hTo hTl hTb hR
        have CB := Lib.hid cB
        have HTO := Lib.hid hTo
        have HTB := Lib.hid hTb
        have HR := Lib.hid hR
        clear cB h hTo hR hT hok hTb hfb
        go_enter Try.func57, Try.ntmps57
        go_wp2_with fail
        refine CN.out.mono ?_
        rintro e w' ⟨rfl, rfl⟩
        go_wp2_with fail
        refine CB.out.mono ?_
        rintro e w1 ⟨rfl, h1', f1⟩
        by_cases he : e0 = 0
        · subst he
          have hR := HR.out
          rw [if_neg (by simp)] at hR
          have HR2 := Lib.hid hR
          have CD := Lib.hid (rvNow h1' HTO.out hTl)
          have H1 := Lib.hid h1'
          have F1 := Lib.hid f1
          clear h1' f1 HR hR
          go_wp2_with fail
          refine CD.out.mono ?_
          rintro e w2 ⟨d, D, rfl, hm, hp, hd, hb2⟩
          have hlk := rvLook hm hp s
          have h2 := H1.out.below hb2
          have F2 := Lib.hid (F1.out.trans (FrK.of_below hb2 (Nat.le_refl _) (Kis F)) fun _ _ e => e)
          clear hm hp hd hb2
          cases hg : T.get s with
          | none =>
            rw [hg] at hlk
            have hR := HR2.out
            simp only [hg] at hR
            have HRR := Lib.hid hR
            have H2 := Lib.hid h2
            clear hR hg h2
            go_wp2_with fail
            go_ret2
            exact RRead.empty HRR.out.symm H2.out F2.out
          | some i =>
            rw [hg] at hlk
            have hR := HR2.out
            simp only [hg] at hR
            have hil := HTO.out.get_lt hg
            have hx := file_at hil
            obtain ⟨y, hy⟩ : ∃ y, T.file i = y := ⟨_, rfl⟩
            have hf := h2.file i _ hx
            have hrow := h2.row i _ hx
            rw [hy] at hf hrow hR
            have hyl : y.b.length ≤ 1000000000 := by rw [← hy]; exact HTB.out _ (List.mem_of_getElem? hx)
            obtain ⟨A, c, hv, hc, -⟩ := own_form hrow
            have hxr : Rb w2 w2.heap.size A y.b := by rw [hv] at hrow; exact Rd.of_own hrow
            have c0 : w2.cell? ⟨m.fb i, 0, none⟩ = some (.slice A y.b.length c) := by rw [hf.cell 0, ← hv]; rfl
            have c0a : (w2.alloc (.cells #[] 5)).cell? ⟨m.fb i, 0, none⟩ = some (.slice A y.b.length c) := by rw [(hf.alloc _).cell 0, ← hv]; rfl
            have HRR := Lib.hid hR
            have H2 := Lib.hid h2
            have HXR := Lib.hid hxr
            clear hR hg h2 hx hy hf hrow hv hxr hil
            by_cases hk : (y.b.length : Int) ≤ (k : Int)
            · have hk' : (k : Int) ≥ (y.b.length : Int) := hk
              have hRR := HRR.out
              have hnil : VSt.readAt y.b (k : Int).toNat (l : Int).toNat = [] := by
                rw [VSt.readAt, List.drop_eq_nil_of_le (by omega), List.take_nil]
              rw [hnil] at hRR
              have HRN := Lib.hid hRR
              clear hRR hnil
              go_wp2_with fail
              go_ret2
              exact RRead.empty HRN.out.symm H2.out F2.out
            · have hkd : decide ((k : Int) ≥ (y.b.length : Int)) = false := by simp; omega
              have hkl : k < y.b.length := by omega
              obtain ⟨q, hq⟩ : ∃ q, min l (y.b.length - k) = q := ⟨_, rfl⟩
              have hql : k + q ≤ y.b.length := by omega
              have hrd : VSt.readAt y.b (k : Int).toNat (l : Int).toNat = (y.b.drop k).take q := by
                rw [VSt.readAt, ← hq]
                exact (take_min (by rw [List.length_drop]; rfl)).symm
              have hrl : ((y.b.drop k).take q).length = q := by rw [List.length_take, List.length_drop]; omega
              have hxs : Rb w2 w2.heap.size (offA A c k) ((y.b.drop k).take q) := Rb.take (Rb.drop HXR.out (by omega)) q
              have hRR := HRR.out
              rw [hrd] at hRR
              obtain ⟨zs, hzs⟩ : ∃ zs, (y.b.drop k).take q = zs := ⟨_, rfl⟩
              rw [hzs] at hRR hrl hxs
              rw [show offA A c k = Option.map (fun x => x.add k) A by unfold offA; rw [if_neg (by omega)]] at hxs
              have HXS := Lib.hid hxs
              have HRN := Lib.hid hRR
              have HRL := Lib.hid hrl
              have hwL : IntKind.i64.wrap ((y.b.length : Int) - (k : Int)) = (y.b.length : Int) - (k : Int) := IntWalk.i64_in _ ⟨by omega, by omega⟩
              have hck : c ≠ k := by omega
              have hkn : ¬ (y.b.length : Int) ≤ (k : Int) := hk
              clear hRR hrd hzs hrl hxs HRR HXR
              by_cases hc2 : (y.b.length : Int) - (k : Int) < (l : Int)
              · have hqe : y.b.length - k = q := by omega
                have hw2 : IntKind.i64.wrap ((k : Int) + ((y.b.length : Int) - (k : Int))) = (k : Int) + ((y.b.length : Int) - (k : Int)) := IntWalk.i64_in _ ⟨by omega, by omega⟩
                subst hqe
                clear hq
                go_wp2_with (at_builtin; go_loud (refine wpList_appb _ rfl (.tmp 57) (.tmp 66) rfl w2.heap.size _ 0 [] rfl (World.ownsRow_lit w2 #[] 0 (Nat.le_refl _) (by simp [maxLen]) rfl) w2.heap.size (Option.map (fun x => x.add k) A) (k + (y.b.length - k) - k) (c - k) zs rfl (by rw [HRL.out]; omega) (HXS.out.alloc (Nat.le_refl _) _) (by omega) (by simp) ?_))
                intro A4 c4 w4 happ1 hne1
                try simp only [show k + (y.b.length - k) - k = y.b.length - k by omega, Nat.zero_add] at happ1
                try simp only [show k + (y.b.length - k) - k = y.b.length - k by omega, Nat.zero_add]
                have HA := Lib.hid happ1.fresh1
                clear happ1 hne1
                go_wp2_with fail
                go_ret2
                have hb4 := HA.out.below0
                rw [← HRN.out]
                refine ⟨A4, c4, ?_, Rd.of_own (show w4.ownsRow _ _ 1 (.slice A4 (y.b.length - k) c4) (y.b.length - k) (bv zs) by simpa using HA.out.own), fun a e => ?_, H2.out.below hb4, F2.out.trans (FrK.of_below hb4 (Nat.le_refl _) (Kis F)) fun _ _ e => e⟩
                · rw [show (T, zs, 0).2.1.length = y.b.length - k from HRL.out]
                  simp
                · have h1 := (HA.out.own.lt a.block (by rw [e]; rfl)).1
                  have h2 := F2.out.size
                  omega
              · have hqe : l = q := by omega
                subst hqe
                have hw2 : IntKind.i64.wrap ((k : Int) + (l : Int)) = (k : Int) + (l : Int) := IntWalk.i64_in _ ⟨by omega, by omega⟩
                clear hq
                go_wp2_with (at_builtin; go_loud (refine wpList_appb _ rfl (.tmp 57) (.tmp 66) rfl w2.heap.size _ 0 [] rfl (World.ownsRow_lit w2 #[] 0 (Nat.le_refl _) (by simp [maxLen]) rfl) w2.heap.size (Option.map (fun x => x.add k) A) (k + l - k) (c - k) zs rfl (by rw [HRL.out]; omega) (HXS.out.alloc (Nat.le_refl _) _) (by omega) (by simp) ?_))
                intro A4 c4 w4 happ1 hne1
                try simp only [show k + l - k = l by omega, Nat.zero_add] at happ1
                try simp only [show k + l - k = l by omega, Nat.zero_add]
                have HA := Lib.hid happ1.fresh1
                clear happ1 hne1
                go_wp2_with fail
                go_ret2
                have hb4 := HA.out.below0
                rw [← HRN.out]
                refine ⟨A4, c4, ?_, Rd.of_own (show w4.ownsRow _ _ 1 (.slice A4 l c4) l (bv zs) by simpa using HA.out.own), fun a e => ?_, H2.out.below hb4, F2.out.trans (FrK.of_below hb4 (Nat.le_refl _) (Kis F)) fun _ _ e => e⟩
                · rw [show (T, zs, 0).2.1.length = l from HRL.out]
                  simp
                · have h1 := (HA.out.own.lt a.block (by rw [e]; rfl)).1
                  have h2 := F2.out.size
                  omega
        · have hne : ((e0 : Int) != 0) = true := by simp; omega
          have hR := HR.out
          rw [if_pos he] at hR
          have HRR := Lib.hid hR
          have H1 := Lib.hid h1'
          have F1 := Lib.hid f1
          clear h1' f1 HR hR
          go_wp2_with fail
          go_ret2
          exact RRead.empty HRR.out.symm H1.out F1.out
end Go.Proofs.Ytdjmmdhjjdnbdaa

/- Layer 4: the document's sorted, plain. -/
namespace Go.Proofs.Ytdjmmdhjjdnbdaa
open Go.RowKit

theorem strinfo : (Try.prog.info? 9).map (fun i => (i.zero, i.size, i.bytes)) = some (some (.string ⟨#[]⟩), 1, 16) := by kernel_rfl
theorem txLt_asym {s t : ByteArray} (h : txLt s t = true) : txLt t s = false := by
  rw [txLt_iff, decide_eq_true_iff] at h
  rw [txLt_iff, decide_eq_false_iff_not]
  exact fun h2 => List.lt_irrefl _ (List.lt_trans h h2)
theorem SortV.ins {out : List ByteArray} {s : ByteArray} {j : Nat} (h : SortV out) (h1 : ∀ a ∈ out.take j, txLt a s = true) (h2 : ∀ b, out[j]? = some b → txLt b s = false) : SortV (out.take j ++ s :: out.drop j) := by
  unfold SortV at h ⊢
  have hd : ∀ b ∈ out.drop j, txLt b s = false := fun b hb => by
    obtain ⟨i, hi, rfl⟩ := List.mem_iff_getElem.1 hb
    rw [List.length_drop] at hi
    rw [List.getElem_drop]
    have hj : j < out.length := by omega
    have h3 := h2 _ (List.getElem?_eq_getElem hj)
    rcases Nat.eq_zero_or_pos i with rfl | hp
    · simpa using h3
    · exact txLt_tr h3 (List.pairwise_iff_getElem.1 h j (j + i) hj (by omega) (by omega))
  have ho : (out.take j ++ out.drop j).Pairwise fun a b => txLt b a = false := by rw [List.take_append_drop]; exact h
  rw [List.pairwise_append] at ho ⊢
  refine ⟨ho.1, List.pairwise_cons.2 ⟨hd, ho.2.1⟩, fun a ha b hb => ?_⟩
  rcases List.mem_cons.1 hb with rfl | hb
  · exact txLt_asym (h1 a ha)
  · exact ho.2.2 a ha b hb
theorem perm_ins {out : List ByteArray} {s : ByteArray} {j : Nat} {Z : List ByteArray} (h : out.Perm Z) : (out.take j ++ s :: out.drop j).Perm (Z ++ [s]) := by
  refine List.perm_middle.trans ?_
  rw [List.take_append_drop]
  exact (List.Perm.cons s h).trans (List.perm_append_singleton s Z).symm
end Go.Proofs.Ytdjmmdhjjdnbdaa

/- Layer 4: the document's sorted: the walk. -/
namespace Go.Proofs.Ytdjmmdhjjdnbdaa
open Go.RowKit

theorem step_appT {w : World} {ops : Array Oper} {o : Oper} {a : Act} {K : Act → World → Prop} {Q : Exit → Act → World → Prop} {E : Prop} (hw : Region.wanted o (yielded ops a.tmps) = true) (s x : Operand)
    (ho : o.op = .call { callee := .builtin .append, args := #[s, x], argTypes := #[36, 36] })
    (base : Nat) (v : Value) (n : Nat) (xs : List ByteArray) (hs : a.eval s = v) (hown : w.ownsRow base 9 1 v n (xs.map strV))
    (B : Nat) (A : Option Addr) (m c : Nat) (news : List ByteArray) (hx : a.eval x = .slice A m c) (hl : news.length = m) (hr : Rd w B A (news.map strV))
    (hbytes : n + m ≤ 4000000) (hbase : base ≤ w.heap.size)
    (h : ∀ A' c' w', w'.ownsRow base 9 1 (.slice A' (n + m) c') (n + m) ((xs ++ news).map strV) → w.grownBy w' v.ownBlock → ((Value.slice A' (n + m) c').ownBlock = v.ownBlock ∨ (Value.slice A' (n + m) c').ownBlock = some w.heap.size) → K (a.put o.dst (.slice A' (n + m) c')) w') :
    if Region.wanted o (yielded ops a.tmps) = true then Oper.wp Try.prog o a w K Q else E := by
  rw [if_pos hw]
  obtain ⟨i0, hi0, hz0, hz1, hz2⟩ := info_parts strinfo
  refine wp_app w s x _ ho base 9 i0 _ 1 16 Try.underlying36 hi0 hz0 hz1 hz2 rfl (by omega) v n (xs.map strV) hs hown B A m c (news.map strV) hx (by rw [List.length_map]; omega) hr (fun u hu => by
    obtain ⟨y, -, rfl⟩ := List.mem_map.1 hu
    rfl) (by simp only [maxLen]; omega) (by omega) hbase ?_
  intro A' c' w' h1 h2 h3 h4
  rw [← List.map_append] at h1
  exact h A' c' w' h1 h2 h3
theorem insDone {W : World} {r n c : Nat} {A : Option Addr} {xs ys : List ByteArray} (h : W.ownsRow r 9 1 (.slice A n c) n (xs.map strV)) (hx : xs = ys) (hn : n = ys.length) : W.ownsRow r 9 1 (.slice A ys.length c) ys.length (ys.map strV) := by
  subst hx
  subst hn
  exact h
theorem insStep {W0 W W4 : World} {x : Nat} (hb : Below W0.heap.size W0 W) (hg : W.grownBy W4 (Value.slice (some ⟨x, 0, none⟩) 0 0).ownBlock) (hx : W0.heap.size ≤ x) : Below W0.heap.size W0 W4 :=
  hb.grown hg hb.size fun k e => by
    have e : x = k := Option.some.inj e
    omega
theorem insStep2 {W0 W W4 : World} {v : Value} (hb : Below W0.heap.size W0 W) (hg : W.grownBy W4 v.ownBlock) (hx : ∀ g, v.ownBlock = some g → W0.heap.size ≤ g) : Below W0.heap.size W0 W4 := hb.grown hg hb.size hx
theorem loStep0 {B x n c H : Nat} {A : Option Addr} (h : (Value.slice A n c).ownBlock = (Value.slice (some ⟨x, 0, none⟩) 0 0).ownBlock ∨ (Value.slice A n c).ownBlock = some H) (hx : B ≤ x) (hH : B ≤ H) : ∀ g, (Value.slice A n c).ownBlock = some g → B ≤ g := fun g hg => by
  rcases h with e | e
  · rw [hg] at e
    have e : g = x := Option.some.inj e
    omega
  · rw [hg] at e
    have e : g = H := Option.some.inj e
    omega
theorem loStep {B H : Nat} {v v' : Value} (hl : ∀ g, v.ownBlock = some g → B ≤ g) (h : v'.ownBlock = v.ownBlock ∨ v'.ownBlock = some H) (hH : B ≤ H) : ∀ g, v'.ownBlock = some g → B ≤ g := fun g hg => by
  rcases h with e | e
  · exact hl g (e ▸ hg)
  · rw [hg] at e
    have e : g = H := Option.some.inj e
    omega
theorem keepRow {W W4 : World} {B x y : Nat} {xs : List Value} (h : Rd W B (some ⟨x, 0, none⟩) xs) (hg : W.grownBy W4 (Value.slice (some ⟨y, 0, none⟩) 0 0).ownBlock) (hxy : x ≠ y) : Rd W4 B (some ⟨x, 0, none⟩) xs := fun hn => by
  obtain ⟨b, o, e, hb, hc⟩ := h hn
  cases e
  refine ⟨x, 0, rfl, hb, fun k u hu => ?_⟩
  have h1 := hc k u hu
  have hlt := World.block_lt_of_cell? W _ h1
  exact (World.cell?_of_block (a := ⟨x, 0 + k, none⟩) (hg.block x hlt fun e => hxy (Option.some.inj e))).trans h1
set_option maxRecDepth 100000 in
set_option maxHeartbeats 4000000 in
theorem rvSorted {w : World} {d : Nat} {fb : Nat → Nat} {D : List (ByteArray × Nat)} (hm : Mh strV (fiV fb) w d D) (hDl : D.length ≤ 1000000) :
    Calls Try.prog 79 #[maV d] w (NamesPost w D) := by
  obtain ⟨c0, hrange, rg0⟩ := Rh.start hm
  have hrg := hrange (P := Try.prog) Try.underlying79
  have b0 : Below w.heap.size w (w.alloc (.mapIter (some d) c0 #[] c0)) := (Below.refl _ w).alloc (Nat.le_refl _) _
  have own0 : (w.alloc (.mapIter (some d) c0 #[] c0)).ownsRow w.heap.size 9 1 (.slice none 0 0) 0 [] := World.ownsRow_nil _ _ _ _
  obtain ⟨i0, hi0, hz0, hz1, hz2⟩ := info_parts strinfo
  obtain ⟨w1, hw1⟩ : ∃ w1, w.alloc (.mapIter (some d) c0 #[] c0) = w1 := ⟨_, rfl⟩
  obtain ⟨r, hr⟩ : ∃ r, w.heap.size = r := ⟨_, rfl⟩
  rw [hw1] at rg0 hrg b0 own0
  rw [hr] at rg0 hrg own0
  have RG := Lib.hid rg0
  have B0 := Lib.hid b0
  have OWN0 := Lib.hid own0
  have HR := Lib.hid hr
  have HI := Lib.hid (And.intro hi0 (And.intro hz0 (And.intro hz1 hz2)))
  clear rg0 b0 own0 hr hw1 hm hrange hi0 hz0 hz1 hz2
  go_enter Try.func79, Try.ntmps79
  go_wp2_with fail
  go_loopw [3, 4] (fun l_ _ wx => ∃ (Z : List (ByteArray × Nat)) (out : List ByteArray) (A : Option Addr) (c : Nat), l_ = .slice A out.length c ∧ Hid (Rh strV (fiV fb) wx d r D Z) ∧ Hid (SortV out ∧ out.Perm (Z.map (·.1))) ∧ Hid (wx.ownsRow r 9 1 (.slice A out.length c) out.length (out.map strV)) ∧ Hid (Below w.heap.size w wx)) (fun _ _ wx => D.length - itN wx r)
  case atStart => exact ⟨[], [], none, 0, rfl, RG, Lib.hid ⟨List.Pairwise.nil, List.Perm.refl _⟩, OWN0, B0⟩
  case round =>
    obtain ⟨Z, out, A, c, rfl, RG1, HS, HO, HB⟩ := hrel
    rcases RG1.out.next (P := Try.prog) 0 with ⟨hperm, hrun⟩ | ⟨s, x, w6, hmem, -, hrun, hrg2, hlenD, hgr, hsz⟩
    · have hnx : ∀ ty, (Instr.next (.pointer (some ⟨r, 0, none⟩)) false ty).run Try.prog wr = _ := fun _ => hrun
      have HP := Lib.hid hperm
      clear hrun hperm
      go_wp2_with fail
      go_ret
      exact ⟨A, c, out, rfl, HS.out.1, HS.out.2.trans (HP.out.map _), Rd.of_own HO.out, fun a e => by rw [HR.out]; exact (HO.out.lt a.block (by rw [e]; rfl)).1, HB.out⟩
    · have hnx : ∀ ty, (Instr.next (.pointer (some ⟨r, 0, none⟩)) false ty).run Try.prog wr = _ := fun _ => hrun
      have hen : (Instr.entry (.pointer (some ⟨r, 0, none⟩))).run Try.prog w6 = .ok (.tuple #[.string s, ptV (fb x)]) w6 := hrg2.entry (P := Try.prog)
      have hnr : ∀ g, (Value.slice A out.length c).ownBlock = some g → g ≠ r := fun g hg e => by
        obtain ⟨cur, hcur⟩ := own_bk HO.out hg
        obtain ⟨_, _, _, _, h9⟩ := RG1.out.isIter
        rw [← e, show wr.heap[g]? = _ from hcur] at h9
        cases h9
      have own6 := own_of (w' := w6) HO.out fun g hg => hgr.block g (HO.out.lt g hg).2 fun e => hnr g hg (Option.some.inj e)
      have b6 : Below w.heap.size w w6 := HB.out.grown hgr HB.out.size fun q e => by
        have h1 := HR.out
        have h2 := Option.some.inj e
        omega
      have hol : out.length ≤ 1000000 := by
        have := HS.out.2.length_eq
        rw [List.length_map] at this
        omega
      have hm9 := RG1.out.itN
      have hocap : out.length ≤ c := by
        obtain ⟨A', c', e, h1, -⟩ := own_form HO.out
        cases e
        exact h1
      have RG2 := Lib.hid hrg2
      have OWN6 := Lib.hid own6
      have B6 := Lib.hid b6
      clear hrg2 own6 b6 hnr hrun HO HB RG1 RG hmem hgr hsz
      go_wp2_with fail
      go_loopw [5] (fun i_ wy => ∃ j : Nat, j ≤ out.length ∧ i_ = .int .i64 j ∧ wy = w6 ∧ Hid (∀ a ∈ out.take j, txLt a s = true)) (fun i_ _ => out.length - (intOf i_).toNat)
      case atStart => exact ⟨0, Nat.zero_le _, rfl, rfl, Lib.hid fun a ha => (by rw [List.take_zero] at ha; cases ha)⟩
      case round =>
        obtain ⟨j, hj, rfl, rfl, HA⟩ := hrel
        by_cases hjl : j < out.length
        · have hjl' : (j : Int) < (out.length : Int) := by omega
          have hadd : IntKind.i64.wrap ((j : Int) + 1) = (j : Int) + 1 := IntWalk.i64_in _ ⟨by omega, by omega⟩
          obtain ⟨b, hb⟩ : ∃ b, out[j]? = some b := ⟨_, List.getElem?_eq_getElem hjl⟩
          obtain ⟨g, cap, hv, hg0, hglt⟩ := OWN6.out.form (by omega)
          injection hv with hA hnn hcc
          subst hA
          have hcell := OWN6.out.cells (g := g) rfl j (.string b) (by rw [List.getElem?_map, hb]; rfl)
          rw [Addr.add_lit, Nat.zero_add] at hcell
          obtain ⟨q, hq⟩ : ∃ q, txLt b s = q := ⟨_, rfl⟩
          have hcmp : Op.bytesLess b.toList s.toList = q := hq
          have HBB := Lib.hid hb
          have HQ := Lib.hid hq
          clear hb hq hnn hcc
          cases q with
          | true =>
            go_wp2_with fail
            exact ⟨⟨j + 1, by omega, by go_num, trivial, Lib.hid fun a ha => by
              rw [take_snoc HBB.out] at ha
              rcases List.mem_append.1 ha with ha | ha
              · exact HA.out a ha
              · rw [List.mem_singleton.1 ha]; exact HQ.out⟩, by simp only [intOf]; omega⟩
          | false =>
            have HST : Hid (∀ b, out[j]? = some b → txLt b s = false) := Lib.hid fun b2 hb => by
              rw [HBB.out] at hb
              cases hb
              exact HQ.out
            have hjc : (j : Int) ≤ (c : Int) := by omega
            have hj0 : (0 : Int) ≤ (j : Int) := by omega
            go_wp2_with fail
            obtain ⟨H0, hH0⟩ : ∃ H0, wr.heap.size = H0 := ⟨_, rfl⟩
            have hrd := Rd.of_own OWN6.out
            have hrH : r ≤ wr.heap.size := by have := B6.out.size; have := HR.out; omega
            have OA : Hid (((wr.alloc (.cells #[] 9)).drew).ownsRow r 9 1 (.slice (some ⟨wr.heap.size, 0, none⟩) 0 0) 0 (([] : List ByteArray).map strV)) := Lib.hid (World.ownsRow_lit wr #[] 0 hrH (by simp [maxLen]) rfl)
            have OB : Hid ((((wr.alloc (.cells #[] 9)).alloc (.cells #[.string s] 9)).drew).ownsRow r 9 1 (.slice (some ⟨wr.heap.size, 0, none⟩) 0 0) 0 (([] : List ByteArray).map strV)) := Lib.hid ((World.ownsRow_lit wr #[] 0 hrH (by simp [maxLen]) rfl).alloc _)
            have OC : Hid ((((wr.alloc (.cells #[.string s] 9)).alloc (.cells #[] 9)).drew).ownsRow r 9 1 (.slice (some ⟨wr.heap.size + 1, 0, none⟩) 0 0) 0 (([] : List ByteArray).map strV)) := Lib.hid (by
              have h := World.ownsRow_lit (e := 9) (size := 1) (base := r) (wr.alloc (.cells #[.string s] 9)) #[] 0 (by simp; omega) (by simp [maxLen]) rfl
              have h2 : ((wr.alloc (.cells #[.string s] 9)).alloc (.cells #[] 9)).ownsRow r 9 1 (.slice (some ⟨wr.heap.size + 1, 0, none⟩) 0 0) 0 [] := by simpa using h
              exact h2)
            have BA : Hid (Below wr.heap.size wr (wr.alloc (.cells #[] 9)).drew) := Lib.hid ((Below.refl _ wr).alloc (Nat.le_refl _) _).drew
            have BB : Hid (Below wr.heap.size wr ((wr.alloc (.cells #[] 9)).alloc (.cells #[.string s] 9)).drew) := Lib.hid (((Below.refl _ wr).alloc (Nat.le_refl _) _).alloc (by simp) _).drew
            have BC : Hid (Below wr.heap.size wr ((wr.alloc (.cells #[.string s] 9)).alloc (.cells #[] 9)).drew) := Lib.hid (((Below.refl _ wr).alloc (Nat.le_refl _) _).alloc (by simp) _).drew
            have RO : Hid (∀ W, Below wr.heap.size wr W → Rd W wr.heap.size (some ⟨g, 0, none⟩) (out.map strV)) := Lib.hid fun W hW => hrd.below hW
            have RT : Hid (∀ W, Below wr.heap.size wr W → Rd W wr.heap.size (some ⟨g, 0, none⟩) ((out.take j).map strV)) := Lib.hid fun W hW => by
              rw [List.map_take]
              exact Rd.take (hrd.below hW) j
            have RSB : Hid (Rd ((wr.alloc (.cells #[] 9)).alloc (.cells #[.string s] 9)).drew (wr.heap.size + 2) (some ⟨wr.heap.size + 1, 0, none⟩) ([s].map strV)) := Lib.hid (by
              have h := Rd.lit (wr.alloc (.cells #[] 9)) #[.string s] 9
              have e : (wr.alloc (.cells #[] 9)).heap.size = wr.heap.size + 1 := by simp
              rw [e] at h
              exact h.drew)
            have RSC : Hid (Rd ((wr.alloc (.cells #[.string s] 9)).alloc (.cells #[] 9)).drew (wr.heap.size + 1) (some ⟨wr.heap.size, 0, none⟩) ([s].map strV)) := Lib.hid (Rd.alloc (Rd.lit wr #[.string s] 9) (by simp) _)
            have RL : Hid (∀ W : World, Rd (W.alloc (.cells #[.string s] 9)) (W.heap.size + 1) (some ⟨W.heap.size, 0, none⟩) ([s].map strV)) := Lib.hid fun W => Rd.lit W #[.string s] 9
            have RDA : Hid (∀ W, Below wr.heap.size wr W → Rd W wr.heap.size (some ((⟨g, 0, none⟩ : Addr).add j)) ((out.drop j).map strV)) := Lib.hid fun W hW => by
              have h := Rd.drop (k := j) (cap := c) (RO.out W hW) (by rw [List.length_map]; exact hocap)
              rw [if_neg (by omega), ← List.map_drop] at h
              exact h
            have hcj : ¬ c = j := by omega
            have RDB : Hid (∀ W, Below wr.heap.size wr W → Rd W wr.heap.size (if c = j then some ⟨g, 0, none⟩ else some ⟨g, j, none⟩) ((out.drop j).map strV)) := Lib.hid fun W hW => by
              have h := RDA.out W hW
              rw [if_neg hcj]
              have e : (⟨g, 0, none⟩ : Addr).add j = ⟨g, j, none⟩ := by
                unfold Addr.add
                simp
                try (intro e; rw [e])
                try omega
              rw [e] at h
              exact h
            clear hcj
            have HRH := Lib.hid hrH
            clear hrd hrH hH0
            go_region_held3 (fun _ => True) (trivial) (first
              | (refine step_appT (by rfl) _ _ (by rfl) r _ _ _ (by rfl) hown7 wr.heap.size _ (out.length - j) (c - j) (out.drop j) (by rfl) (by rw [List.length_drop]) (RDB.out _ b7) (by omega) (Nat.le_trans HRH.out b7.size) ?_; intro A8 c8 w8 hown8 hgr8 hbl8; have b8 := insStep2 b7 hgr8 hlo7)
              | (refine step_appT (by rfl) _ _ (by rfl) r _ 0 [] (by rfl) (by first | exact OA.out | exact OB.out | exact OC.out) wr.heap.size (some ⟨g, 0, none⟩) j c (out.take j) (by rfl) (by rw [List.length_take]; omega) (by first | exact RT.out _ BA.out | exact RT.out _ BB.out | exact RT.out _ BC.out) (by omega) (by first | exact Nat.le_trans HRH.out BA.out.size | exact Nat.le_trans HRH.out BB.out.size | exact Nat.le_trans HRH.out BC.out.size) ?_; intro A4 c4 w4 hown4 hgr4 hbl4; have hown4z := hown4; have hlo4z := (by first | exact loStep0 hbl4 (Nat.le_refl _) BA.out.size | exact loStep0 hbl4 (Nat.le_refl _) BB.out.size | exact loStep0 hbl4 (Nat.le_succ _) BC.out.size : ∀ g, (Value.slice A4 (0 + j) c4).ownBlock = some g → wr.heap.size ≤ g); rw [Nat.zero_add, List.nil_append] at hown4; rw [Nat.zero_add] at hbl4; have b4 := (by first | exact insStep BA.out hgr4 (Nat.le_refl _) | exact insStep BB.out hgr4 (Nat.le_refl _) | exact insStep BC.out hgr4 (Nat.le_succ _) : Below wr.heap.size wr w4); have hlo4 := (by first | exact loStep0 hbl4 (Nat.le_refl _) BA.out.size | exact loStep0 hbl4 (Nat.le_refl _) BB.out.size | exact loStep0 hbl4 (Nat.le_succ _) BC.out.size : ∀ g, (Value.slice A4 j c4).ownBlock = some g → wr.heap.size ≤ g); first | (have hrs4 := keepRow RSB.out hgr4 (Nat.succ_ne_self _)) | (have hrs4 := keepRow RSC.out hgr4 (Nat.succ_ne_self _).symm) | skip)
              | (refine step_appT (by rfl) _ _ (by rfl) r _ _ _ (by rfl) (World.ownsRow.alloc hown4 _) _ (some _) 1 1 [s] (by rfl) rfl (RL.out w4) (by omega) (Nat.le_trans HRH.out (b4.alloc b4.size _).size) ?_; intro A7 c7 w7 hown7 hgr7 hbl7; have b7 := (insStep2 (b4.alloc b4.size _) hgr7 hlo4 : Below wr.heap.size wr w7); have hlo7 := loStep hlo4 hbl7 ((b4.alloc b4.size _).size))
              | (refine step_appT (by rfl) _ _ (by rfl) r _ _ _ (by rfl) hown4z _ (some _) 1 1 [s] (by rfl) rfl hrs4 (by omega) (Nat.le_trans HRH.out b4.size) ?_; intro A7 c7 w7 hown7 hgr7 hbl7; have b7 := (insStep2 b4 hgr7 hlo4z : Below wr.heap.size wr w7); have hlo7 := loStep hlo4z hbl7 b4.size))
            all_goals
              have hnew := HS.out.1.ins HA.out HST.out
              have hprm := perm_ins (s := s) (j := j) HS.out.2
              have HO8 := insDone (ys := out.take j ++ s :: out.drop j) hown8 (by simp) (by simp; omega)
              have rg8 := RG2.out.bS b8
              have h9 := rg8.itN
              rw [List.length_append, List.length_singleton] at h9
              have b9 := B6.out.trans (b8.mono B6.out.size)
              have H9 := Lib.hid h9
              have RG8 := Lib.hid rg8
              have B9 := Lib.hid b9
              have HN := Lib.hid hnew
              have HPM := Lib.hid hprm
              have HO9 := Lib.hid HO8
              clear hown8 hgr8 hbl8 b8 hlo7 hown7 hgr7 hbl7 b7 hlo4 hlo4z hown4 hown4z hgr4 hbl4 b4 h9 rg8 b9 hnew hprm HO8 OA OB OC
            all_goals go_wp2_with fail
            all_goals
              refine ⟨⟨Z ++ [(s, x)], out.take j ++ s :: out.drop j, A8, c8, ?_, RG8, Lib.hid ⟨HN.out, by rw [List.map_append]; exact HPM.out⟩, HO9, B9⟩, by have := H9.out; omega⟩
              congr 1
              simp
              omega
        · have hjl' : ¬ (j : Int) < (out.length : Int) := by omega
          have HST : Hid (∀ b, out[j]? = some b → txLt b s = false) := Lib.hid fun b hb => by
            have := (List.getElem?_eq_some_iff.1 hb).1
            omega
          have hjc : (j : Int) ≤ (c : Int) := by omega
          have hj0 : (0 : Int) ≤ (j : Int) := by omega
          go_wp2_with fail
          obtain ⟨H0, hH0⟩ : ∃ H0, wr.heap.size = H0 := ⟨_, rfl⟩
          have hrd := Rd.of_own OWN6.out
          have hrH : r ≤ wr.heap.size := by have := B6.out.size; have := HR.out; omega
          have OA : Hid (((wr.alloc (.cells #[] 9)).drew).ownsRow r 9 1 (.slice (some ⟨wr.heap.size, 0, none⟩) 0 0) 0 (([] : List ByteArray).map strV)) := Lib.hid (World.ownsRow_lit wr #[] 0 hrH (by simp [maxLen]) rfl)
          have OB : Hid ((((wr.alloc (.cells #[] 9)).alloc (.cells #[.string s] 9)).drew).ownsRow r 9 1 (.slice (some ⟨wr.heap.size, 0, none⟩) 0 0) 0 (([] : List ByteArray).map strV)) := Lib.hid ((World.ownsRow_lit wr #[] 0 hrH (by simp [maxLen]) rfl).alloc _)
          have OC : Hid ((((wr.alloc (.cells #[.string s] 9)).alloc (.cells #[] 9)).drew).ownsRow r 9 1 (.slice (some ⟨wr.heap.size + 1, 0, none⟩) 0 0) 0 (([] : List ByteArray).map strV)) := Lib.hid (by
            have h := World.ownsRow_lit (e := 9) (size := 1) (base := r) (wr.alloc (.cells #[.string s] 9)) #[] 0 (by simp; omega) (by simp [maxLen]) rfl
            have h2 : ((wr.alloc (.cells #[.string s] 9)).alloc (.cells #[] 9)).ownsRow r 9 1 (.slice (some ⟨wr.heap.size + 1, 0, none⟩) 0 0) 0 [] := by simpa using h
            exact h2)
          have BA : Hid (Below wr.heap.size wr (wr.alloc (.cells #[] 9)).drew) := Lib.hid ((Below.refl _ wr).alloc (Nat.le_refl _) _).drew
          have BB : Hid (Below wr.heap.size wr ((wr.alloc (.cells #[] 9)).alloc (.cells #[.string s] 9)).drew) := Lib.hid (((Below.refl _ wr).alloc (Nat.le_refl _) _).alloc (by simp) _).drew
          have BC : Hid (Below wr.heap.size wr ((wr.alloc (.cells #[.string s] 9)).alloc (.cells #[] 9)).drew) := Lib.hid (((Below.refl _ wr).alloc (Nat.le_refl _) _).alloc (by simp) _).drew
          have RO : Hid (∀ W, Below wr.heap.size wr W → Rd W wr.heap.size A (out.map strV)) := Lib.hid fun W hW => hrd.below hW
          have RT : Hid (∀ W, Below wr.heap.size wr W → Rd W wr.heap.size A ((out.take j).map strV)) := Lib.hid fun W hW => by
            rw [List.map_take]
            exact Rd.take (hrd.below hW) j
          have RSB : Hid (Rd ((wr.alloc (.cells #[] 9)).alloc (.cells #[.string s] 9)).drew (wr.heap.size + 2) (some ⟨wr.heap.size + 1, 0, none⟩) ([s].map strV)) := Lib.hid (by
            have h := Rd.lit (wr.alloc (.cells #[] 9)) #[.string s] 9
            have e : (wr.alloc (.cells #[] 9)).heap.size = wr.heap.size + 1 := by simp
            rw [e] at h
            exact h.drew)
          have RSC : Hid (Rd ((wr.alloc (.cells #[.string s] 9)).alloc (.cells #[] 9)).drew (wr.heap.size + 1) (some ⟨wr.heap.size, 0, none⟩) ([s].map strV)) := Lib.hid (Rd.alloc (Rd.lit wr #[.string s] 9) (by simp) _)
          have RL : Hid (∀ W : World, Rd (W.alloc (.cells #[.string s] 9)) (W.heap.size + 1) (some ⟨W.heap.size, 0, none⟩) ([s].map strV)) := Lib.hid fun W => Rd.lit W #[.string s] 9
          have HRH := Lib.hid hrH
          clear hrd hrH hH0
          go_region_held3 (fun _ => True) (trivial) (first
            | (refine step_appT (by rfl) _ _ (by rfl) r _ _ _ (by rfl) hown7 wr.heap.size _ (out.length - j) (c - j) (out.drop j) (by rfl) (by rw [List.length_drop]) (by rw [List.map_drop]; exact Rd.drop (RO.out _ b7) (by rw [List.length_map]; omega)) (by omega) (Nat.le_trans HRH.out b7.size) ?_; intro A8 c8 w8 hown8 hgr8 hbl8; have b8 := insStep2 b7 hgr8 hlo7)
            | (refine step_appT (by rfl) _ _ (by rfl) r _ 0 [] (by rfl) (by first | exact OA.out | exact OB.out | exact OC.out) wr.heap.size A j c (out.take j) (by rfl) (by rw [List.length_take]; omega) (by first | exact RT.out _ BA.out | exact RT.out _ BB.out | exact RT.out _ BC.out) (by omega) (by first | exact Nat.le_trans HRH.out BA.out.size | exact Nat.le_trans HRH.out BB.out.size | exact Nat.le_trans HRH.out BC.out.size) ?_; intro A4 c4 w4 hown4 hgr4 hbl4; have hown4z := hown4; have hlo4z := (by first | exact loStep0 hbl4 (Nat.le_refl _) BA.out.size | exact loStep0 hbl4 (Nat.le_refl _) BB.out.size | exact loStep0 hbl4 (Nat.le_succ _) BC.out.size : ∀ g, (Value.slice A4 (0 + j) c4).ownBlock = some g → wr.heap.size ≤ g); rw [Nat.zero_add, List.nil_append] at hown4; rw [Nat.zero_add] at hbl4; have b4 := (by first | exact insStep BA.out hgr4 (Nat.le_refl _) | exact insStep BB.out hgr4 (Nat.le_refl _) | exact insStep BC.out hgr4 (Nat.le_succ _) : Below wr.heap.size wr w4); have hlo4 := (by first | exact loStep0 hbl4 (Nat.le_refl _) BA.out.size | exact loStep0 hbl4 (Nat.le_refl _) BB.out.size | exact loStep0 hbl4 (Nat.le_succ _) BC.out.size : ∀ g, (Value.slice A4 j c4).ownBlock = some g → wr.heap.size ≤ g); first | (have hrs4 := keepRow RSB.out hgr4 (Nat.succ_ne_self _)) | (have hrs4 := keepRow RSC.out hgr4 (Nat.succ_ne_self _).symm) | skip)
            | (refine step_appT (by rfl) _ _ (by rfl) r _ _ _ (by rfl) (World.ownsRow.alloc hown4 _) _ (some _) 1 1 [s] (by rfl) rfl (RL.out w4) (by omega) (Nat.le_trans HRH.out (b4.alloc b4.size _).size) ?_; intro A7 c7 w7 hown7 hgr7 hbl7; have b7 := (insStep2 (b4.alloc b4.size _) hgr7 hlo4 : Below wr.heap.size wr w7); have hlo7 := loStep hlo4 hbl7 ((b4.alloc b4.size _).size))
            | (refine step_appT (by rfl) _ _ (by rfl) r _ _ _ (by rfl) hown4z _ (some _) 1 1 [s] (by rfl) rfl hrs4 (by omega) (Nat.le_trans HRH.out b4.size) ?_; intro A7 c7 w7 hown7 hgr7 hbl7; have b7 := (insStep2 b4 hgr7 hlo4z : Below wr.heap.size wr w7); have hlo7 := loStep hlo4z hbl7 b4.size))
          all_goals
            have hnew := HS.out.1.ins HA.out HST.out
            have hprm := perm_ins (s := s) (j := j) HS.out.2
            have HO8 := insDone (ys := out.take j ++ s :: out.drop j) hown8 (by simp) (by simp; omega)
            have rg8 := RG2.out.bS b8
            have h9 := rg8.itN
            rw [List.length_append, List.length_singleton] at h9
            have b9 := B6.out.trans (b8.mono B6.out.size)
            have H9 := Lib.hid h9
            have RG8 := Lib.hid rg8
            have B9 := Lib.hid b9
            have HN := Lib.hid hnew
            have HPM := Lib.hid hprm
            have HO9 := Lib.hid HO8
            clear hown8 hgr8 hbl8 b8 hlo7 hown7 hgr7 hbl7 b7 hlo4 hlo4z hown4 hown4z hgr4 hbl4 b4 h9 rg8 b9 hnew hprm HO8 OA OB OC
          all_goals go_wp2_with fail
          all_goals
            refine ⟨⟨Z ++ [(s, x)], out.take j ++ s :: out.drop j, A8, c8, ?_, RG8, Lib.hid ⟨HN.out, by rw [List.map_append]; exact HPM.out⟩, HO9, B9⟩, by have := H9.out; omega⟩
            congr 1
            simp
            omega
end Go.Proofs.Ytdjmmdhjjdnbdaa
