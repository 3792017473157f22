/- Texts of the proof of VfsScriptSaid, joined: VgD VgE VgF VgG VgH. -/
import Derived.Test.YtdjmmdhjjdnbdaaJVfsScript6
import Derived.Test.YtdjmmdhjjdnbdaaJVfsScript2
import Derived.Deep.RegionLaw
/- Layer 4: Used: the maps, one behind the other. -/
namespace Go.Proofs.Ytdjmmdhjjdnbdaa
open Go.RowKit

theorem filePtr : KeyAt Try.prog 65 ptV IsRow := by
  have h : ∃ j, Try.prog.info? 69 = some j ∧ j.size = 2 := by
    have h1 : (Try.prog.info? 69).map (fun i => i.size) = some 2 := by kernel_rfl
    rw [Option.map_eq_some_iff] at h1
    exact h1
  obtain ⟨j, hj, hs⟩ := h
  exact ptAt Try.underlying65 hj (by omega)
theorem Bk.row {w : World} {g : Nat} {t : TypeId} {cs : Array Value} (h : Bk w g t cs) : IsRow w g := ⟨_, _, h⟩
/-- append of maps, at a step of a region that draws its order. -/
theorem step_appM {w : World} {ops : Array Oper} {o : Oper} {a : Act} {K : Act → World → Prop} {Q : Exit → Act → World → Prop} {E : Prop} (hgd : o.guard = none) (s x : Operand)
    (ho : o.op = .call { callee := .builtin .append, args := #[s, x], argTypes := #[57, 57] })
    (base : Nat) (v : Value) (n : Nat) (xs : List Nat) (hs : a.eval s = v) (hown : w.ownsRow base 70 1 v n (xs.map maV))
    (B : Nat) (A : Option Addr) (m c : Nat) (news : List Nat) (hx : a.eval x = .slice A m c) (hl : news.length = m) (hr : Rd w B A (news.map maV))
    (hbytes : n + m ≤ 1048576) (hbase : base ≤ w.heap.size)
    (h : ∀ A' c' w', w'.ownsRow base 70 1 (.slice A' (n + m) c') (n + m) ((xs ++ news).map maV) → w.grownBy w' v.ownBlock → K (a.put o.dst (.slice A' (n + m) c')) w') :
    if Region.wanted o (yielded ops a.tmps) = true then Oper.wp Try.prog o a w K Q else E := by
  have hw : Region.wanted o (yielded ops a.tmps) = true := by simp [Region.wanted, hgd]
  rw [if_pos hw]
  obtain ⟨i0, hi0, hz0, hz1, hz2⟩ := info_parts chinfo
  refine wp_app w s x _ ho base 70 i0 _ 1 8 Try.underlying57 hi0 hz0 hz1 hz2 rfl (by omega) v n (xs.map maV) hs hown B A m c (news.map maV) hx (by rw [List.length_map]; omega) hr (fun u hu => ?_) (by simp only [maxLen]; omega) (by omega) hbase ?_
  · obtain ⟨k, -, rfl⟩ := List.mem_map.1 hu
    rfl
  · intro A' c' w' h1 h2 h3 h4
    rw [← List.map_append] at h1
    exact h A' c' w' h1 h2
/-- What the loops over the maps keep. -/
structure UsM (w1 wr : World) (M : Nat) (fb : Nat → Nat) (ks : List Nat) : Prop where
  set : Mh ptV (fun b : Bool => Value.bool b) wr M (seenL fb ks)
  fr : FrK w1 wr (Kis M)
theorem FrK.keepBk {w w' : World} {K : Nat → Prop} {g : Nat} {t : TypeId} {cs : Array Value} (h : FrK w w' K) (hb : Bk w g t cs) (hk : ¬K g) : Bk w' g t cs := h.bk hb hk
set_option maxRecDepth 100000 in
set_option maxHeartbeats 4000000 in
theorem vfUsed {base F : Nat} {w : World} {K : Nat → Prop} {S : VSt} {m : VMem} (h : Vf base w K F S m) (hok : S.Ok) (hlen : S.chg.length ≤ 1000000) (hfl : S.fs.length ≤ 1000000) (hfb : ∀ x ∈ S.fs, x.b.length ≤ 1000000000) :
    Calls Try.prog 34 #[ptV F] w fun e w' => e = .returned (.int .i64 (S.used : Nat)) ∧ Below w.heap.size w w' := by
  have cN := vfNone h
  have hmm := @run_makeMap Try.prog
  have m0 := Mh.new (kv := ptV) (vv := fun b : Bool => Value.bool b) w
  have v0 := h.alloc (.map #[] 0)
  have fr0 := (FrK.refl w Kno).alloc (.map #[] 0)
  obtain ⟨w0, e0⟩ : ∃ w0, w.alloc (.map #[] 0) = w0 := ⟨_, rfl⟩
  have s0 : w0.heap.size = w.heap.size + 1 := by rw [← e0]; simp
  rw [e0] at m0 v0 fr0
  obtain ⟨M, hM⟩ : ∃ M, w.heap.size = M := ⟨_, rfl⟩
  rw [hM] at m0 s0
  obtain ⟨A, cc, hcv, -, -⟩ := own_form v0.chg
  have c2 : w0.cell? ⟨F, 2, none⟩ = some (maV m.db) := by rw [v0.blk.cell 2]; rfl
  have c3 : w0.cell? ⟨F, 3, none⟩ = some (maV m.sb) := by rw [v0.blk.cell 3]; rfl
  have c4 : w0.cell? ⟨F, 4, none⟩ = some (.slice A S.chg.length cc) := by rw [v0.blk.cell 4, ← hcv]; rfl
  have f2 := World.new_ne w0 _ c2
  have f3 := World.new_ne w0 _ c3
  have f4 := World.new_ne w0 _ c4
  have hF0 : F < w0.heap.size := (v0.lo F v0.kF).2
  have near : ∀ (x : World), (w0.alloc (.cells #[maV m.db, maV m.sb] 70)).drew.grownBy x (some w0.heap.size) → x.cell? ⟨F, 2, none⟩ = some (maV m.db) ∧ x.cell? ⟨F, 3, none⟩ = some (maV m.sb) ∧ x.cell? ⟨F, 4, none⟩ = some (.slice A S.chg.length cc) := fun x hg => by
    have hb : x.heap[F]? = w0.heap[F]? := (hg.block F (by show F < (w0.alloc _).heap.size; simp; omega) (fun e => by have := Option.some.inj e; omega)).trans (Below.heap_alloc w0 _ F hF0)
    exact ⟨(World.cell?_of_block (a := ⟨F, 2, none⟩) hb).trans c2, (World.cell?_of_block (a := ⟨F, 3, none⟩) hb).trans c3, (World.cell?_of_block (a := ⟨F, 4, none⟩) hb).trans c4⟩
  have own1 : (w0.alloc (.cells #[maV m.db, maV m.sb] 70)).drew.ownsRow w0.heap.size 70 1 (.slice (some ⟨w0.heap.size, 0, none⟩) 2 2) 2 ([m.db, m.sb].map maV) :=
    World.ownsRow_lit (size := 1) w0 #[maV m.db, maV m.sb] 2 (Nat.le_refl _) (by simp only [maxLen]; omega) rfl
  have rd1 : Rd (w0.alloc (.cells #[maV m.db, maV m.sb] 70)).drew w0.heap.size A (m.cms.map maV) := by
    have := v0.chg
    rw [hcv] at this
    exact ((Rd.of_own this).alloc (Nat.le_refl _) _).drew
  have hcl := h.cmsLen
  have hlo : ∀ b, K b → b < w.heap.size := fun b hb => (h.lo b hb).2
  have HLO := Lib.hid hlo
  clear hlo
  have V0 := Lib.hid v0
  have M0 := Lib.hid m0
  have E0 := Lib.hid e0
  have NR := Lib.hid near
  have OW := Lib.hid own1
  have RD := Lib.hid rd1
  have S0 := Lib.hid s0
  have HM := Lib.hid hM
  have FR0 := Lib.hid fr0
  have HOK := Lib.hid hok
  have HFB := Lib.hid hfb
  have HCL := Lib.hid hcl
  clear h v0 m0 e0 near own1 rd1 s0 hM fr0 hok hfb hcl hcv hF0
  go_enter Try.func34, Try.ntmps34
  go_wp2_with fail
  refine cN.mono ?_
  rintro e w' ⟨rfl, rfl⟩
  go_wp2_with fail
  rw [E0.out, HM.out]
  go_region_held3 (fun x => x.cell? ⟨F, 2, none⟩ = some (maV m.db) ∧ x.cell? ⟨F, 3, none⟩ = some (maV m.sb) ∧ x.cell? ⟨F, 4, none⟩ = some (.slice A S.chg.length cc)) (first | go_keep | exact NR.out _ hgr)
    ((refine step_appM (by rfl) _ _ (by rfl) w0.heap.size _ 2 [m.db, m.sb] (by rfl) OW.out w0.heap.size A S.chg.length cc m.cms (by rfl) HCL.out RD.out (by omega) (by show _ ≤ (w0.alloc _).heap.size; simp) ?_; intro A' c' w2 hown hgr))
  rename_i hH
  clear hH
  obtain ⟨g, cap, hv, hg0, hglt⟩ := hown.form (by omega)
  injection hv with hA hnn hcc
  subst hA
  have hs0 := S0.out
  have hMr := HM.out
  have fr2 : FrK w' w2 Kno := (FR0.out.alloc _).drew.trans (FrK.of_grown (K := Kis w0.heap.size) hgr fun b _ e => (Option.some.inj e).symm) fun b hb e => by
    simp only [Kis] at e
    omega
  have V2 := Lib.hid (V0.out.keep (((FrK.refl w0 Kno).alloc (.cells #[maV m.db, maV m.sb] 70)).drew.trans (FrK.of_grown (K := Kis w0.heap.size) hgr fun b _ e => (Option.some.inj e).symm) fun b hb e => by
    simp only [Kis] at e
    omega) fun _ _ e => e)
  have us0 : UsM w2 w2 M m.fb [] := ⟨((M0.out.alloc _).drew).grown hgr (fun e => by have h1 : M = w0.heap.size := Option.some.inj e; omega), FrK.refl w2 _⟩
  have US0 := Lib.hid us0
  have HO := Lib.hid hown
  have FR2 := Lib.hid fr2
  have HG := Lib.hid hg0
  have hKM : ∀ b, K b → b ≠ M := fun b hb e => by
    have := HLO.out b hb
    omega
  have HK := Lib.hid hKM
  clear us0 hown fr2 hgr hnn hcc hs0 hMr hKM hg0
  have hnn : (2 : Int) + (S.chg.length : Int) = ((2 + S.chg.length : Nat) : Int) := by omega
  rw [hnn]
  generalize hn : 2 + S.chg.length = n
  have HN := Lib.hid hn
  have hn1 : n ≤ 1000002 := by omega
  clear hn hnn
  go_wp2_with fail
  go_loopw [28] (fun i_ wr => ∃ (k : Nat) (ks : List Nat), k ≤ n ∧ i_ = .int .i64 k ∧ Hid (UsM w2 wr M m.fb ks) ∧ Hid (ks.Nodup ∧ ∀ i, i ∈ ks ↔ ∃ j, j < k ∧ S.has j i)) (fun i_ _ => n - (intOf i_).toNat)
  case atStart => exact ⟨0, [], Nat.zero_le _, rfl, US0, Lib.hid ⟨List.nodup_nil, fun i => ⟨fun e => (by cases e), fun ⟨j, e, _⟩ => (by omega)⟩⟩⟩
  case round =>
    obtain ⟨k, ks, hk, rfl, HU, HM1⟩ := hrel
    by_cases hlt : k < n
    · have hlt' : decide ((k : Int) < (n : Int)) = true := by simp; omega
      have hml : m.maps.length = n := by
        rw [VMem.maps, List.length_cons, List.length_cons, HCL.out, ← HN.out]
        omega
      obtain ⟨b, hb⟩ : ∃ b, m.maps[k]? = some b := ⟨_, List.getElem?_eq_getElem (by omega)⟩
      obtain ⟨C, hC2, hCm⟩ := V2.out.mapAt hb
      have hbM : b ≠ M := HK.out b (V2.out.kMaps (List.mem_of_getElem? hb))
      have hCr := hC2.of (HU.out.fr.block b hC2.lt hbM)
      have hcell : wr.cell? ⟨g, k, none⟩ = some (maV b) := by
        have h1 := HO.out.cells (g := g) rfl k (maV b) (by
          show (m.maps.map maV)[k]? = _
          rw [List.getElem?_map, hb]
          rfl)
        rw [Addr.add_lit, Nat.zero_add] at h1
        refine (World.cell?_of_block (a := ⟨g, k, none⟩) (HU.out.fr.block g (HO.out.lt g rfl).2 ?_)).trans h1
        have h2 := HG.out
        have h3 := S0.out
        simp only [Kis]
        omega
      obtain ⟨c0, hrange, rg0⟩ := Rh.start hCr
      have hrg := hrange (P := Try.prog) Try.underlying70
      have us1 : UsM w2 (wr.alloc (.mapIter (some b) c0 #[] c0)) M m.fb ks := ⟨HU.out.set.alloc _, HU.out.fr.alloc _⟩
      obtain ⟨w5, hw5⟩ : ∃ w5, wr.alloc (.mapIter (some b) c0 #[] c0) = w5 := ⟨_, rfl⟩
      obtain ⟨r, hr⟩ : ∃ r, wr.heap.size = r := ⟨_, rfl⟩
      have hr2 : w2.heap.size ≤ r := by
        have := HU.out.fr.size
        omega
      have hM2 : M < w2.heap.size := by
        have h2 := HG.out
        have h3 := S0.out
        omega
      rw [hw5] at rg0 hrg us1
      rw [hr] at rg0 hrg
      have RG := Lib.hid rg0
      have US1 := Lib.hid us1
      have HW5 := Lib.hid hw5
      have HR2 := Lib.hid hr2
      have HM2 := Lib.hid hM2
      have HCM := Lib.hid hCm
      have HB := Lib.hid hb
      have HBM := Lib.hid hbM
      have HML := Lib.hid hml
      clear rg0 us1 hw5 hr hr2 hM2 hC2 hCr hCm hb hbM hrange hml
      go_wp2_with fail
      go_loopw [7] (fun _ wx => ∃ Z zs, Hid (Rh strV (fiO m.fb) wx b r C Z) ∧ Hid (UsM w2 wx M m.fb zs) ∧ Hid (zs.Nodup ∧ ∀ i, i ∈ zs ↔ (i ∈ ks ∨ ∃ s, (s, some i) ∈ Z))) (fun _ wx => C.length - itN wx r)
      case atStart => exact ⟨[], ks, RG, US1, Lib.hid ⟨HM1.out.1, fun i => ⟨.inl, fun e => e.elim id fun ⟨s, hs⟩ => (by cases hs)⟩⟩⟩
      case round =>
        obtain ⟨Z, zs, RG1, HU1, HZ⟩ := hrel
        rcases RG1.out.next (P := Try.prog) 0 with ⟨hperm, hrun⟩ | ⟨s, v, w6, hmemC, -, hrun, hrg2, hlenC, hgr, hsz⟩
        · have hnx : ∀ ty, (Instr.next (.pointer (some ⟨r, 0, none⟩)) false ty).run Try.prog wr = _ := fun _ => hrun
          have HP := Lib.hid hperm
          clear hrun hperm
          have hadd : IntKind.i64.wrap ((k : Int) + 1) = (k : Int) + 1 := IntWalk.i64_in _ ⟨by omega, by omega⟩
          have HX : Hid (zs.Nodup ∧ ∀ i, i ∈ zs ↔ ∃ j, j < k + 1 ∧ S.has j i) := Lib.hid ⟨HZ.out.1, fun i => by
            rw [HZ.out.2, HM1.out.2]
            constructor
            · rintro (⟨j, h1, h2⟩ | ⟨s, hs⟩)
              · exact ⟨j, by omega, h2⟩
              · exact ⟨k, by omega, (HCM.out i).1 ⟨s, HP.out.mem_iff.1 hs⟩⟩
            · rintro ⟨j, h1, h2⟩
              rcases Nat.lt_or_ge j k with h3 | h3
              · exact .inl ⟨j, h3, h2⟩
              · have : j = k := by omega
                subst this
                obtain ⟨s, hs⟩ := (HCM.out i).2 h2
                exact .inr ⟨s, HP.out.mem_iff.2 hs⟩⟩
          go_wp2_with fail
          exact ⟨⟨k + 1, zs, by omega, by go_num, HU1, HX⟩, by simp only [intOf]; omega⟩
        · have hnx : ∀ ty, (Instr.next (.pointer (some ⟨r, 0, none⟩)) false ty).run Try.prog wr = _ := fun _ => hrun
          have hen := hrg2.entry (P := Try.prog)
          have hMr : M ≠ r := by
            have h1 := HM2.out
            have h2 := HR2.out
            omega
          have hset := HU1.out.set.grown hgr (fun e => hMr (Option.some.inj e))
          have hfr : FrK w2 w6 (Kis M) := HU1.out.fr.trans (K' := Kis r) (FrK.of_grown hgr fun b _ e => (Option.some.inj e).symm) fun b hb e => by
            have h2 := HR2.out
            simp only [Kis] at e
            omega
          have hcb : some b ≠ some M := fun e => HBM.out (Option.some.inj e)
          have hrb : some r ≠ some M := fun e => hMr (Option.some.inj e).symm
          have hZl := RG1.out.itN
          have RG2 := Lib.hid hrg2
          have HS := Lib.hid hset
          have HF := Lib.hid hfr
          have hi : ∀ i, v = some i → i < S.fs.length := fun i hv => VSt.has_lt HOK.out (k := k) ((HCM.out i).1 ⟨s, by rw [← hv]; exact hmemC⟩)
          have HI := Lib.hid hi
          clear hrg2 hset hfr hrun hmemC hi
          cases v with
          | none =>
            have hen' : (Instr.entry (.pointer (some ⟨r, 0, none⟩))).run Try.prog w6 = .ok (.tuple #[.string s, .pointer none]) w6 := hen
            clear hen
            go_wp2_with fail
            refine ⟨⟨Z ++ [(s, none)], zs, RG2, Lib.hid ⟨HS.out, HF.out⟩, Lib.hid ⟨HZ.out.1, fun i => ?_⟩⟩, ?_⟩
            · rw [HZ.out.2]
              simp
            · have h9 := RG2.out.itN
              rw [List.length_append, List.length_singleton] at h9
              omega
          | some i =>
            have hen' : (Instr.entry (.pointer (some ⟨r, 0, none⟩))).run Try.prog w6 = .ok (.tuple #[.string s, ptV (m.fb i)]) w6 := hen
            clear hen
            have hil := HI.out i rfl
            have good : ∀ j, j < S.fs.length → IsRow w6 (m.fb j) := fun j hj => by
              have h1 := V2.out.file j _ (file_at hj)
              exact ((HF.out.bk h1 (HK.out _ (V2.out.kB j hj)))).row
            have HGD := Lib.hid good
            clear good
            go_wp2_with (first
              | (refine wpList_mhPutAt _ rfl (.tmp 40) (.tmp 41) (.const (.bool true)) 85 rfl filePtr Try.underlying85 M _ rfl HS.out (m.fb i) true rfl rfl (HGD.out i hil) (fun p hp => ?_) ?_
                 rotate_left
                 rintro w7 hm7 hg7 hs7)
              | fail)
            · have e1 : mgPut (m.fb i) true (seenL m.fb zs) = seenL m.fb (insN i zs) := mgPut_ins fun j hj e => V2.out.inj j i (by
                rcases (HZ.out.2 j).1 hj with h1 | ⟨s', h1⟩
                · obtain ⟨q, -, h2⟩ := (HM1.out.2 j).1 h1
                  exact VSt.has_lt HOK.out h2
                · exact VSt.has_lt HOK.out ((HCM.out j).1 ⟨s', RG2.out.sub (List.mem_append_left _ h1)⟩)) hil e
              rw [e1] at hm7
              have hf7 : FrK w2 w7 (Kis M) := HF.out.trans (FrK.of_grown (K := Kis M) hg7 fun b _ e => (Option.some.inj e).symm) fun _ _ e => e
              refine ⟨⟨_, _, _, _, _, _, _, _, _, ⟨Z ++ [(s, some i)], insN i zs, Lib.hid (RG2.out.grown hg7 hcb hrb), Lib.hid ⟨hm7, hf7⟩, Lib.hid ⟨insN_nodup HZ.out.1, fun j => ?_⟩⟩, rfl⟩, ?_⟩
              · rw [mem_insN, HZ.out.2]
                simp only [List.mem_append, List.mem_singleton, Prod.mk.injEq, Option.some.injEq]
                constructor
                · rintro ((h1 | ⟨s', h1⟩) | rfl)
                  · exact .inl h1
                  · exact .inr ⟨s', .inl h1⟩
                  · exact .inr ⟨s, .inr ⟨rfl, rfl⟩⟩
                · rintro (h1 | ⟨s', h1 | ⟨-, rfl⟩⟩)
                  · exact .inl (.inl h1)
                  · exact .inl (.inr ⟨s', h1⟩)
                  · exact .inr rfl
              · have h9 := (RG2.out.grown hg7 hcb hrb).itN
                rw [List.length_append, List.length_singleton] at h9
                omega
            · obtain ⟨j, hj, rfl⟩ := List.mem_map.1 hp
              refine HGD.out j ?_
              rcases (HZ.out.2 j).1 hj with h1 | ⟨s', h1⟩
              · obtain ⟨q, -, h2⟩ := (HM1.out.2 j).1 h1
                exact VSt.has_lt HOK.out h2
              · exact VSt.has_lt HOK.out ((HCM.out j).1 ⟨s', RG2.out.sub (List.mem_append_left _ h1)⟩)
    · have hlt' : decide ((k : Int) < (n : Int)) = false := by simp; omega
      have hkn : k = n := by omega
      have hused := used_of HOK.out HM1.out.1 (fun i => by
        rw [HM1.out.2, hkn, ← HN.out, Nat.add_comm])
      have hkl : ks.length ≤ S.fs.length := nodup_len_le _ HM1.out.1 fun i hi => by
        obtain ⟨q, -, h2⟩ := (HM1.out.2 i).1 hi
        exact VSt.has_lt HOK.out h2
      have hki : ∀ i ∈ ks, i < S.fs.length := fun i hi => by
        obtain ⟨q, -, h2⟩ := (HM1.out.2 i).1 hi
        exact VSt.has_lt HOK.out h2
      obtain ⟨c0, hrange, rg0⟩ := Rh.start HU.out.set
      have hrg := hrange (P := Try.prog) Try.underlying85
      have fr5 : FrK w2 (wr.alloc (.mapIter (some M) c0 #[] c0)) (Kis M) := HU.out.fr.alloc _
      obtain ⟨w5, hw5⟩ : ∃ w5, wr.alloc (.mapIter (some M) c0 #[] c0) = w5 := ⟨_, rfl⟩
      obtain ⟨r, hr⟩ : ∃ r, wr.heap.size = r := ⟨_, rfl⟩
      have hr2 : w2.heap.size ≤ r := by
        have := HU.out.fr.size
        omega
      rw [hw5] at rg0 hrg fr5
      rw [hr] at rg0 hrg
      have RG := Lib.hid rg0
      have FR5 := Lib.hid fr5
      have HW5 := Lib.hid hw5
      have HR2 := Lib.hid hr2
      have HUS := Lib.hid hused
      have HKI := Lib.hid hki
      clear rg0 fr5 hw5 hr hr2 hrange hused hki hkn
      go_wp2_with fail
      rw [show (0 : Int) = (((([] : List Nat).map fun i => (S.file i).b.length).sum : Nat) : Int) from rfl]
      go_loopw [8, 9] (fun n_ _ wx => ∃ zs : List Nat, Hid (Rh ptV (fun b : Bool => Value.bool b) wx M r (seenL m.fb ks) (seenL m.fb zs)) ∧ Hid (FrK w2 wx (Kis M)) ∧ Hid (zs.Nodup ∧ ∀ i ∈ zs, i ∈ ks) ∧ n_ = .int .i64 ((zs.map fun i => (S.file i).b.length).sum : Nat)) (fun _ _ wx => ks.length - itN wx r)
      case atStart => exact ⟨[], RG, FR5, Lib.hid ⟨List.nodup_nil, fun i hi => by cases hi⟩, rfl⟩
      case round =>
        obtain ⟨zs, RG1, FR1, HZ, rfl⟩ := hrel
        rcases RG1.out.next (P := Try.prog) 0 with ⟨hperm, hrun⟩ | ⟨kk, v, w6, hmem, hnm, hrun, hrg2, hlenC, hgr, hsz⟩
        · have hnx : ∀ ty, (Instr.next (.pointer (some ⟨r, 0, none⟩)) false ty).run Try.prog wr = _ := fun _ => hrun
          have hp : zs.Perm ks := (List.perm_ext_iff_of_nodup HZ.out.1 HM1.out.1).2 fun i => ⟨HZ.out.2 i, fun hi => by
            have h1 := hperm.mem_iff.2 (List.mem_map.2 ⟨i, hi, rfl⟩ : (m.fb i, true) ∈ seenL m.fb ks)
            obtain ⟨j, hj, e⟩ := List.mem_map.1 h1
            have e2 : m.fb j = m.fb i := by injection e
            have := V2.out.inj j i (HKI.out j (HZ.out.2 j hj)) (HKI.out i hi) e2
            exact this ▸ hj⟩
          have hsum : (zs.map fun i => (S.file i).b.length).sum = S.used := (List.Perm.sum_nat (hp.map _)).trans HUS.out
          rw [hsum]
          have FRE := Lib.hid (FR2.out.trans FR1.out (fun b hb e => by
            simp only [Kis] at e
            have h1 := HM.out
            omega))
          clear hsum hp hperm hrun
          go_wp2_with fail
          go_ret
          exact ⟨rfl, FRE.out.below (Nat.le_refl _) fun _ e => e.elim⟩
        · have hnx : ∀ ty, (Instr.next (.pointer (some ⟨r, 0, none⟩)) false ty).run Try.prog wr = _ := fun _ => hrun
          obtain ⟨i, hi, e⟩ := List.mem_map.1 hmem
          obtain ⟨rfl, rfl⟩ := Prod.mk.inj e
          have hen : (Instr.entry (.pointer (some ⟨r, 0, none⟩))).run Try.prog w6 = .ok (.tuple #[ptV (m.fb i), .bool true]) w6 := hrg2.entry (P := Try.prog)
          have hfr : FrK w2 w6 (Kis M) := FR1.out.trans (K' := Kis r) (FrK.of_grown hgr fun b _ e => (Option.some.inj e).symm) fun b hb e => by
            have h2 := HR2.out
            simp only [Kis] at e
            omega
          have hil := HKI.out i hi
          have hfile := hfr.bk (V2.out.file i _ (file_at hil)) (HK.out _ (V2.out.kB i hil))
          obtain ⟨Ai, ci, hvi, -, -⟩ := own_form (V2.out.row i _ (file_at hil))
          have hc0 : w6.cell? ⟨m.fb i, 0, none⟩ = some (.slice Ai (S.file i).b.length ci) := by rw [hfile.cell 0, ← hvi]; rfl
          have hlb := HFB.out _ (List.mem_of_getElem? (file_at hil))
          have hzl : zs.length + 1 ≤ ks.length := by simpa using hlenC
          have hsb := sum_bound (f := fun i => (S.file i).b.length) (B := 1000000000) (l := zs) fun j hj => HFB.out _ (List.mem_of_getElem? (file_at (HKI.out j (HZ.out.2 j hj))))
          have hnz : i ∉ zs := fun h1 => hnm (List.mem_map.2 ⟨i, h1, rfl⟩)
          have hse : (((zs ++ [i]).map fun i => (S.file i).b.length).sum : Nat) = (zs.map fun i => (S.file i).b.length).sum + (S.file i).b.length := by simp
          have hzn := RG1.out.itN
          generalize (zs.map fun i => (S.file i).b.length).sum = sm at hse hsb ⊢
          have hsm : sm ≤ 1000000000000000 := by
            have : zs.length * 1000000000 ≤ 1000000 * 1000000000 := Nat.mul_le_mul_right _ (by omega)
            omega
          have RG2 := Lib.hid (show Rh ptV (fun b : Bool => Value.bool b) w6 M r (seenL m.fb ks) (seenL m.fb (zs ++ [i])) by
            have e1 : seenL m.fb (zs ++ [i]) = seenL m.fb zs ++ [(m.fb i, true)] := by simp
            rw [e1]
            exact hrg2)
          have HF := Lib.hid hfr
          have HSE := Lib.hid hse
          have HZ2 : Hid ((zs ++ [i]).Nodup ∧ ∀ j ∈ zs ++ [i], j ∈ ks) := Lib.hid ⟨by
            rw [List.nodup_append]
            refine ⟨HZ.out.1, by simp, fun a ha b hb e2 => ?_⟩
            simp at hb
            rw [e2, hb] at ha
            exact hnz ha, fun j hj => by
            rcases List.mem_append.1 hj with h1 | h1
            · exact HZ.out.2 j h1
            · simp at h1
              exact h1 ▸ hi⟩
          have HNZ := Lib.hid hnz
          have HZN := Lib.hid hzn
          have HZL := Lib.hid hzl
          clear hrg2 hfr hrun hmem hnm hfile hvi hse hsb hnz hzn hzl hlenC e
          go_wp2_with fail
          refine ⟨⟨zs ++ [i], RG2, HF, HZ2, by rw [HSE.out]; go_num⟩, ?_⟩
          have h9 := RG2.out.itN
          have h8 := HZN.out
          have h7 := HZL.out
          simp only [List.length_map, List.length_append, List.length_singleton] at h9 h8
          omega
end Go.Proofs.Ytdjmmdhjjdnbdaa

/- Layer 4: Append: what it does with a file. -/
namespace Go.Proofs.Ytdjmmdhjjdnbdaa
open Go.RowKit

/-- append of bytes, at a step of a region that draws its order. -/
theorem step_appV {w : World} {ops : Array Oper} {o : Oper} {a : Act} {K : Act → World → Prop} {Q : Exit → Act → World → Prop} {E : Prop} (hgd : o.guard = none) (s x : Operand)
    (ho : o.op = .call { callee := .builtin .append, args := #[s, x], argTypes := #[24, 24] })
    (base : Nat) (v : Value) (n : Nat) (xs : List Int) (hs : a.eval s = v) (hown : w.ownsRow base 5 1 v n (bv xs))
    (B : Nat) (A : Option Addr) (m c : Nat) (news : List Int) (hx : a.eval x = .slice A m c) (hl : news.length = m) (hr : Rb w B A news)
    (hbytes : n + m ≤ 140737488355328) (hbase : base ≤ w.heap.size)
    (h : ∀ A' c' w', w'.ownsRow base 5 1 (.slice A' (n + m) c') (n + m) (bv (xs ++ news)) → w.grownBy w' v.ownBlock → ((Value.slice A' (n + m) c').ownBlock = v.ownBlock ∨ (Value.slice A' (n + m) c').ownBlock = some w.heap.size) → K (a.put o.dst (.slice A' (n + m) c')) w') :
    if Region.wanted o (yielded ops a.tmps) = true then Oper.wp Try.prog o a w K Q else E := by
  have hw : Region.wanted o (yielded ops a.tmps) = true := by simp [Region.wanted, hgd]
  rw [if_pos hw]
  obtain ⟨i0, hi0, hz0, hz1, hz2⟩ := info_parts (show (Try.prog.info? 5).map (fun i => (i.zero, i.size, i.bytes)) = some (some (.int .u8 0), 1, 1) from by kernel_rfl)
  refine wp_app w s x _ ho base 5 i0 _ 1 1 Try.underlying24 hi0 hz0 hz1 hz2 rfl (by omega) v n (bv xs) hs hown B A m c (bv news) hx (by rw [bv_length]; omega) hr (bv_one news) (by simp only [maxLen]; omega) (by omega) hbase ?_
  intro A' c' w' h1 h2 h3 h4
  rw [← bv_append] at h1
  exact h A' c' w' h1 h2 h3
theorem used_bound {S : VSt} (hfl : S.fs.length ≤ 1000000) (hfb : ∀ x ∈ S.fs, x.b.length ≤ 1000000000) : S.used ≤ 1000000000000000 := by
  unfold VSt.used
  have h1 := sum_bound (f := fun i => (S.file i).b.length) (B := 1000000000) (l := (List.range S.fs.length).filter S.counts) fun i hi => hfb _ (List.mem_of_getElem? (file_at (List.mem_range.1 (List.mem_filter.1 hi).1)))
  have h2 : ((List.range S.fs.length).filter S.counts).length ≤ S.fs.length := by
    have := List.length_filter_le S.counts (List.range S.fs.length)
    simpa using this
  have h3 : ((List.range S.fs.length).filter S.counts).length * 1000000000 ≤ 1000000 * 1000000000 := Nat.mul_le_mul_right _ (by omega)
  omega
set_option maxRecDepth 100000 in
set_option maxHeartbeats 2000000 in
theorem vfAppend1 {base F i bB bF B n c : Nat} {A : Option Addr} {w : World} {K : Nat → Prop} {S : VSt} {m : VMem} {x : VFile} {zs : List Int} (h : Vf base w K F S m) (hok : S.Ok) (hx : S.fs[i]? = some x)
    (hB : Bk w bB 24 #[.slice A n c]) (hF : Bk w bF 25 #[ptV F]) (hz : Rb w B A zs) (hzl : zs.length = n) (hBw : B ≤ w.heap.size) (hn : n ≤ 1000000000000)
    (hlim : 0 ≤ S.limit ∧ S.limit ≤ 4611686018427387904) (hlen : S.chg.length ≤ 1000000) (hfl : S.fs.length ≤ 1000000) (hfb : ∀ x ∈ S.fs, x.b.length ≤ 1000000000) (R : VSt × Nat)
    (hR : R = if S.limit < (S.used : Int) + (zs.length : Int) then (S, 7) else (S.setFile i ⟨x.b ++ zs, x.s⟩, 0)) :
    Calls Try.prog 40 #[ptV (m.fb i), ptV bB, ptV bF] w (VPost base w K F R) := by
  have hus := used_bound hfl hfb
  have hV : ∀ z : BelowBy w, Vf base z.w K F S m := fun z => h.keep (FrK.of_below z.h (Nat.le_refl _) Kno) fun _ _ e => e
  have hU : ∀ z : BelowBy w, Calls Try.prog 34 #[ptV F] z.w fun e w' => e = .returned (.int .i64 (S.used : Nat)) ∧ ∃ p' : BelowBy w, w' = p'.w := fun z => calls_belowBy z (vfUsed (hV z) hok hlen hfl hfb)
  have u1 : ∀ z : BelowBy w, z.w.cell? ⟨bB, 0, none⟩ = some (.slice A n c) := fun z => by rw [(hB.below z.h hB.lt).cell 0]; rfl
  have u2 : ∀ z : BelowBy w, z.w.cell? ⟨bF, 0, none⟩ = some (ptV F) := fun z => by rw [(hF.below z.h hF.lt).cell 0]; rfl
  have u3 : ∀ z : BelowBy w, z.w.cell? ⟨F, 1, none⟩ = some (.int .i64 S.limit) := fun z => by rw [(hV z).blk.cell 1]; rfl
  have hw : IntKind.i64.wrap (S.limit - (S.used : Int)) = S.limit - (S.used : Int) := IntWalk.i64_in _ ⟨by omega, by omega⟩
  obtain ⟨used, hus2⟩ : ∃ u, S.used = u := ⟨_, rfl⟩
  rw [hus2] at hU hw hR hus
  have HU := Lib.hid hU
  have HV := Lib.hid hV
  have H := Lib.hid h
  have HX := Lib.hid hx
  have HOK := Lib.hid hok
  have HZ := Lib.hid hz
  have HZL := Lib.hid hzl
  have HUS := Lib.hid hus2
  by_cases hfull : S.limit < (used : Int) + (zs.length : Int)
  · rw [if_pos hfull] at hR
    subst hR
    have hd : decide ((n : Int) > S.limit - (used : Int)) = true := by simp; omega
    clear hU hV h hx hok hz hzl hus2 hB hF hfull
    go_enter Try.func40, Try.ntmps40
    go_wp2_with fail
    refine wp_region_quiet_below (by kernel_rfl) (by kernel_rfl) ?_
    repeat (first
      | go_big_quiet_step ((go_at_call 34; with_reducible exact HU.out _))
      | quiet_step ((go_at_call 34; with_reducible exact HU.out _)))
    refine wpQuiet_nil ?_
    rintro _ ⟨pq, rfl⟩
    go_wp2_with fail
    go_ret
    exact VPost.of H.out rfl (HV.out pq) (FrK.of_below pq.h (Nat.le_refl _) Kno) fun _ e => e.elim
  · rw [if_neg hfull] at hR
    subst hR
    have hd : decide ((n : Int) > S.limit - (used : Int)) = false := by simp; omega
    have HBK := Lib.hid hB
    clear hU hV h hx hok hz hzl hus2 hB hF hfull
    go_enter Try.func40, Try.ntmps40
    go_wp2_with fail
    refine wp_region_quiet_below (by kernel_rfl) (by kernel_rfl) ?_
    repeat (first
      | go_big_quiet_step ((go_at_call 34; with_reducible exact HU.out _))
      | quiet_step ((go_at_call 34; with_reducible exact HU.out _)))
    refine wpQuiet_nil ?_
    rintro _ ⟨pq, rfl⟩
    have hfi := (HV.out pq).file i x HX.out
    have hri := (HV.out pq).row i x HX.out
    obtain ⟨Ai, ci, hvi, hnc, -⟩ := own_form hri
    have k0 : pq.w.cell? ⟨m.fb i, 0, none⟩ = some (.slice Ai x.b.length ci) := by rw [hfi.cell 0, ← hvi]; rfl
    have k1 := u1 pq
    have hri2 := hri
    rw [hvi] at hri2
    have hzz := Rd.below HZ.out (pq.h.mono hBw)
    have hxl : x.b.length ≤ 1000000000 := hfb x (List.mem_of_getElem? HX.out)
    have HFI := Lib.hid hfi
    have HRI := Lib.hid hri2
    have HVI := Lib.hid hvi
    have HZZ := Lib.hid hzz
    have HPH := Lib.hid pq.h
    have hbase := (HV.out pq).baseLe
    have hfar : ∀ w2, pq.w.drew.grownBy w2 (Value.slice Ai x.b.length ci).ownBlock → Bk w2 (m.fb i) 69 #[.slice Ai x.b.length ci, .int .i64 (x.s : Nat)] := fun w2 hg => by
      have h1 := hfi.drew.grown hg (fun e => by
        obtain ⟨cur, hc⟩ := own_bk hri2 e.symm
        exact ne_of_type hfi hc (by decide) rfl)
      rw [hvi] at h1
      exact h1
    have HFAR := Lib.hid hfar
    have done : ∀ A' c' w2, w2.ownsRow base 5 1 (.slice A' (x.b.length + n) c') (x.b.length + n) (bv (x.b ++ zs)) → pq.w.drew.grownBy w2 (Value.slice Ai x.b.length ci).ownBlock → ((Value.slice A' (x.b.length + n) c').ownBlock = (Value.slice Ai x.b.length ci).ownBlock ∨ (Value.slice A' (x.b.length + n) c').ownBlock = some pq.w.drew.heap.size) →
        VPost base w K F (S.setFile i { b := x.b ++ zs, s := x.s }, 0) (.returned (.int .i64 (0 : Nat))) (w2.setCell ⟨m.fb i, 0, none⟩ (.slice A' (x.b.length + n) c')) := fun A' c' w2 hown hgr hblk => by
      have hv := (HV.out pq).drew
      have hil := (List.getElem?_eq_some_iff.1 HX.out).1
      have hst := FrK.set w2 (m.fb i) 0 (.slice A' (x.b.length + n) c')
      have hB2 := HFAR.out w2 hgr
      have hfr : FrK pq.w.drew (w2.setCell ⟨m.fb i, 0, none⟩ (.slice A' (x.b.length + n) c')) fun b => b = m.fb i ∨ (m.bv i).ownBlock = some b :=
        (FrK.of_grown (K := fun b => b = m.fb i ∨ (m.bv i).ownBlock = some b) hgr fun b _ e => .inr (by rw [HVI.out]; exact e)).trans hst fun b _ e => .inl e
      have hown2 : (w2.setCell ⟨m.fb i, 0, none⟩ (.slice A' (x.b.length + n) c')).ownsRow base 5 1 (.slice A' (x.b.length + n) c') (x.b ++ zs).length (bv (x.b ++ zs)) := by
        have e1 : (x.b ++ zs).length = x.b.length + n := by rw [List.length_append, HZL.out]
        rw [e1]
        refine own_of hown fun g hg => ?_
        obtain ⟨cur, hc⟩ := own_bk hown hg
        exact hst.block g hc.lt (ne_of_type hc hB2 (by decide))
      have hvp := hv.putFile (x' := ⟨x.b ++ zs, x.s⟩) HX.out hfr (by simpa using hB2.set 0 (.slice A' (x.b.length + n) c')) hown2 (fun g hg => by
        rcases hblk with h1 | h1
        · exact .inl (by rw [HVI.out, ← h1]; exact hg)
        · rw [h1] at hg
          have := Option.some.inj hg
          exact .inr (by omega))
      have vp : VPost base pq.w.drew K F (S.setFile i { b := x.b ++ zs, s := x.s }, 0) (.returned (.int .i64 (0 : Nat))) (w2.setCell ⟨m.fb i, 0, none⟩ (.slice A' (x.b.length + n) c')) := ⟨rfl, _, hvp, hfr.mono fun b _ e => by
        rcases e with e | e
        · exact e ▸ hv.kB i hil
        · exact hv.kR i hil b e⟩
      exact vp.after (FrK.of_below (below_drewN pq.h 1) (Nat.le_refl _) Kno) (fun _ e => e.elim) H.out.baseLe
    have DONE := Lib.hid done
    clear done
    clear hfi hri hvi hri2 hzz hfar u1 u2 u3
    go_wp2_with fail
    go_region_law ((refine step_appV (by rfl) _ _ (by rfl) base _ x.b.length x.b (by rfl) HRI.out B A n c zs (by rfl) HZL.out HZZ.out (by omega) hbase ?_; intro A' c' w2 hown hgr hblk; have kk0 := (HFAR.out _ hgr).cell 0; have kf0 := (HFAR.out _ hgr).frozen 0; simp at kk0))
    all_goals go_wp2_with fail
    all_goals go_ret
    all_goals exact DONE.out _ _ _ hown hgr hblk
end Go.Proofs.Ytdjmmdhjjdnbdaa

/- Layer 4: Append. -/
namespace Go.Proofs.Ytdjmmdhjjdnbdaa
open Go.RowKit

theorem Rd.frK {w w' : World} {B : Nat} {A : Option Addr} {xs : List Value} {K : Nat → Prop} (h : Rd w B A xs) (hf : FrK w w' K) (hk : ∀ a, A = some a → ¬K a.block) (hB : B ≤ w.heap.size) : Rd w' B A xs := fun hn => by
  obtain ⟨b, o, rfl, hb, hc⟩ := h hn
  exact ⟨b, o, rfl, hb, fun j u hj => (World.cell?_of_block (a := ⟨b, o + j, none⟩) (hf.block b (by omega) (hk _ rfl))).trans (hc j u hj)⟩
set_option maxRecDepth 100000 in
set_option maxHeartbeats 1000000 in
theorem vfAppend {base F B n c : Nat} {A : Option Addr} {w : World} {K : Nat → Prop} {S : VSt} {m : VMem} {zs : List Int} (h : Vf base w K F S m) (hok : S.Ok) (hops : S.ops ≤ 4611686018427387904) (s : ByteArray) (hs : s.size ≤ 9223372036854775806)
    (hz : Rb w B A zs) (hAF : ∀ a, A = some a → a.block ≠ F) (hzl : zs.length = n) (hBw : B ≤ w.heap.size) (hn : n ≤ 1000000000000)
    (hlim : 0 ≤ S.limit ∧ S.limit ≤ 4611686018427387904) (hlen : S.chg.length ≤ 1000000) (hfl : S.fs.length ≤ 1000000) (hfb : ∀ x ∈ S.fs, x.b.length ≤ 1000000000) :
    Calls Try.prog 13 #[ptV F, .string s, .slice A n c] w (VPost base w K F (S.append s zs)) := by
  have hb := h.baseLe
  have hlo := h.lo
  have hFlt := (h.lo F h.kF).2
  have b1 := Bk.new w 25 #[ptV F]
  have hw1 := (FrK.refl w Kno).alloc (.cells #[ptV F] 25)
  have v1 := h.alloc (.cells #[ptV F] 25)
  have z1 := hz.alloc hBw (.cells #[ptV F] 25)
  obtain ⟨w1, e1⟩ : ∃ w1, w.alloc (.cells #[ptV F] 25) = w1 := ⟨_, rfl⟩
  rw [e1] at b1 hw1 v1 z1
  have s1 : w1.heap.size = w.heap.size + 1 := by rw [← e1]; simp
  have b2 := Bk.new w1 24 #[.slice A n c]
  have b12 := b1.alloc (.cells #[.slice A n c] 24)
  have hw2 := hw1.alloc (.cells #[.slice A n c] 24)
  have v2 := v1.alloc (.cells #[.slice A n c] 24)
  have z2 := Rd.alloc z1 (by omega) (.cells #[.slice A n c] 24)
  obtain ⟨w2, e2⟩ : ∃ w2, w1.alloc (.cells #[.slice A n c] 24) = w2 := ⟨_, rfl⟩
  rw [e2] at b2 b12 hw2 v2 z2
  have s2 : w2.heap.size = w1.heap.size + 1 := by rw [← e2]; simp
  have c1 : w2.cell? ⟨w.heap.size, 0, none⟩ = some (ptV F) := by rw [b12.cell 0]; rfl
  obtain ⟨hs1, hs2, hs3, hs4, -⟩ := strike_same S
  have hK : ∀ {x : Nat}, w.heap.size ≤ x → ¬K x := fun {x} hx e => by
    have := (hlo x e).2
    omega
  have C := vfOnPost v2 hok hops s hs 40 #[ptV w1.heap.size, ptV w.heap.size] (enters_of Try.func40 (by kernel_rfl) rfl)
    (fun T i => if T.limit < (T.used : Int) + (zs.length : Int) then (T, 7) else (T.setFile i ⟨(T.file i).b ++ zs, (T.file i).s⟩, 0))
    fun hn1 w3 i hv hf ho hi hl => vfAppend1 hv ho (file_at hl) (hf.bk b2 (by simp only [Kis]; omega)) (hf.bk b12 (by simp only [Kis]; omega)) (z2.frK hf (fun g e => hAF g e) (by omega)) hzl (by have := hf.size; omega) hn (by rw [hs4]; exact hlim) (by rw [hs2]; exact hlen) (by rw [hs3]; exact hfl) (by rw [hs3]; exact hfb) _ rfl
  generalize hR : (S.op (vName s) fun T => match T.get s with | none => (T, 6) | some i => if T.limit < (T.used : Int) + (zs.length : Int) then (T, 7) else (T.setFile i ⟨(T.file i).b ++ zs, (T.file i).s⟩, 0)) = R at C
  have hR' : S.append s zs = R := hR
  rw [hR']
  have C' : Calls Try.prog 39 #[ptV F, .bool true, .string s, .func (.func 40) #[] #[ptV w1.heap.size, ptV w.heap.size]] w2 (VPost base w K F R) := C.mono fun e w' hp => hp.after hw2 (fun _ e => e.elim) hb
  rw [s1] at C'
  have E1 := Lib.hid e1
  have E2 := Lib.hid e2
  clear hR hR' C h hok b1 hw1 v1 e1 b2 b12 hw2 v2 e2 s1 s2 hlo hK z1 z2 hz hs1 hs2 hs3 hs4 hfb
  have hmf : ∀ (fn : Fn) (first cap : Array Value) (w : World), (Instr.makeFunc fn first cap).run Try.prog w = .ok (.func fn first cap) w := fun _ _ _ _ => rfl
  go_enter Try.func13, Try.ntmps13
  go_wp2_with fail
  rw [E1.out, E2.out]
  refine C'.mono ?_
  rintro e w' ⟨rfl, hQ⟩
  go_wp2_with fail
  go_ret
  exact ⟨rfl, hQ⟩
end Go.Proofs.Ytdjmmdhjjdnbdaa

/- Layer 4: Read: what it does with a file. -/
namespace Go.Proofs.Ytdjmmdhjjdnbdaa
open Go.RowKit

set_option maxRecDepth 100000 in
theorem run_slRd (w : World) (a : Option Addr) (n c : Nat) (l r : Int) (h0 : 0 ≤ l) (h1 : l ≤ r) (h2 : r ≤ c) :
    (Instr.slice 24 (.slice a n c) (some (.int .i64 l)) (some (.int .i64 r)) none).run Try.prog w = .ok (.slice (offA a c l.toNat) (r.toNat - l.toNat) (c - l.toNat)) w := by
  have h := run_slice_lh (P := Try.prog) w 24 a n c Try.underlying24 .i64 .i64 l r h0 h1 h2
  rw [h]
  have hs : (sizeOf (Try.prog.elem 24)).run Try.prog w = .ok 1 w := by kernel_rfl
  rw [hs]
  simp [Result.andThen, sliced, offA]
/-- What a Read's closure leaves in the box. -/
def RdPost (w : World) (bO : Nat) (zs : List Int) (e : Ending) (w' : World) : Prop := e = .returned (.int .i64 0) ∧ FrK w w' (Kis bO) ∧
  ∃ A c, Bk w' bO 24 #[.slice A zs.length c] ∧ Rb w' w'.heap.size A zs ∧ ∀ a, A = some a → w.heap.size ≤ a.block
theorem take_min {α : Type} {l : List α} {n d : Nat} (h : l.length = d) : l.take (min n d) = l.take n := by
  subst h
  rcases Nat.le_total n l.length with h | h
  · rw [Nat.min_eq_left h]
  · rw [Nat.min_eq_right h, List.take_length, List.take_of_length_le h]
set_option maxRecDepth 100000 in
set_option maxHeartbeats 2000000 in
theorem vfRead1 {base F i bA bN bO k n : Nat} {w : World} {K : Nat → Prop} {S : VSt} {m : VMem} {x : VFile} (h : Vf base w K F S m) (hx : S.fs[i]? = some x) (hxl : x.b.length ≤ 1000000000)
    (hA : Bk w bA 3 #[.int .i64 (k : Nat)]) (hN : Bk w bN 3 #[.int .i64 (n : Nat)]) (hO : Bk w bO 24 #[.slice none 0 0]) (hkO : ¬K bO) :
    Calls Try.prog 48 #[ptV (m.fb i), ptV bA, ptV bN, ptV bO] w (RdPost w bO (VSt.readAt x.b k n)) := by
  have hfi := h.file i x hx
  obtain ⟨Ai, ci, hvi, hnc, hn0⟩ := own_form (h.row i x hx)
  have k0 : w.cell? ⟨m.fb i, 0, none⟩ = some (.slice Ai x.b.length ci) := by rw [hfi.cell 0, ← hvi]; rfl
  have k1 : w.cell? ⟨bA, 0, none⟩ = some (.int .i64 (k : Nat)) := by rw [hA.cell 0]; rfl
  have k2 : w.cell? ⟨bN, 0, none⟩ = some (.int .i64 (n : Nat)) := by rw [hN.cell 0]; rfl
  generalize hL : x.b.length = L at k0 hxl hnc hn0
  have HN0 := Lib.hid hn0
  have HO := Lib.hid hO
  clear hn0 hO hkO
  have HL := Lib.hid hL
  have H := Lib.hid h
  have HX := Lib.hid hx
  have HVI := Lib.hid hvi
  clear hL h hx hvi hfi hA hN
  have hrow := H.out.row i x HX.out
  have hcln : ∀ (f cnt : Nat), f + cnt ≤ L → VSt.readAt x.b k n = (x.b.drop f).take cnt → ∀ W1 q, w.drewN q = W1 →
      Calls Try.prog 49 #[.slice (offA Ai ci f) cnt (ci - f)] W1.drew (RetNew 5 1 W1.drew cnt (bv (VSt.readAt x.b k n)) (fun A' => A' = none → offA Ai ci f = none)) := fun f cnt hfc he W1 q hW => by
    subst hW
    have hL := HL.out
    rw [he]
    have hlen : ((x.b.drop f).take cnt).length = cnt := by rw [List.length_take, List.length_drop]; omega
    have hrd : Rb (w.drewN q).drew w.heap.size Ai x.b := by
      have h1 := H.out.row i x HX.out
      rw [HVI.out] at h1
      exact ((Rd.of_own h1).drewN q).drew
    refine bytesClone (xs := (x.b.drop f).take cnt) _ (Rb.take (Rb.drop hrd (by omega)) cnt) (Nat.le_refl _) (by omega) (fun e => ?_) hlen
    have hA : Ai = none := by
      unfold offA at e
      split at e
      · exact e
      · cases Ai with
        | none => rfl
        | some a => cases e
    have h0 := HN0.out hA
    rw [List.drop_eq_nil_of_le (by omega)]
    exact ⟨by simp, by omega⟩
  have hfin : ∀ (cnt : Nat) W1 q, w.drewN q = W1 → (VSt.readAt x.b k n).length = cnt → ∀ A' c' w3, App W1.drew.heap.size 5 1 W1.drew (.slice none 0 0) w3 (.slice A' cnt c') cnt (bv (VSt.readAt x.b k n)) →
      (w3.cell? ⟨bO, 0, none⟩ = some (.slice none 0 0) ∧ w3.frozen? ⟨bO, 0, none⟩ = false) ∧ RdPost w bO (VSt.readAt x.b k n) (.returned (.int .i64 0)) (w3.setCell ⟨bO, 0, none⟩ (.slice A' cnt c')) := fun cnt W1 q hW hc A' c' w3 happ => by
    subst hW
    subst hc
    have hb := happ.below0
    have hbO := (((HO.out.drewN q).drew).below hb (by exact HO.out.lt))
    have hst := FrK.set w3 bO 0 (.slice A' (VSt.readAt x.b k n).length c')
    refine ⟨⟨by rw [hbO.cell 0]; rfl, hbO.frozen 0⟩, rfl, ?_, A', c', by simpa using hbO.set 0 (.slice A' (VSt.readAt x.b k n).length c'), ?_, fun a ha => (happ.own.lt a.block (by rw [ha]; rfl)).1⟩
    · exact (FrK.of_below (w := w) (w' := w3) ⟨hb.os, hb.tape, hb.output, hb.size, hb.block⟩ (Nat.le_refl _) (Kis bO)).trans hst fun _ _ e => e
    · have h1 := Rd.of_own happ.own
      refine (h1.frK hst (fun a ha e => ?_) (Nat.le_refl _)).more hst.size
      have h2 := happ.own.lt a.block (by rw [ha]; rfl)
      have h3 := HO.out.lt
      simp only [Kis] at e
      have h4 : (w.drewN q).drew.heap.size = w.heap.size := rfl
      omega
  have HCL := Lib.hid hcln
  have HFI := Lib.hid hfin
  have HRL : Hid ((VSt.readAt x.b k n).length = min n (L - k)) := Lib.hid (by rw [VSt.readAt, List.length_take, List.length_drop, HL.out])
  clear hcln hfin hrow
  by_cases hk : L < k
  · go_enter Try.func48, Try.ntmps48
    go_wp2_with fail
    go_quiet (fail)
    go_wp2_with fail
    obtain ⟨W1, hW1⟩ : ∃ W1, w.drewN nq = W1 := ⟨_, rfl⟩
    have j0 : W1.cell? ⟨m.fb i, 0, none⟩ = some (.slice Ai L ci) := by rw [← hW1]; exact k0
    have j2 : W1.cell? ⟨bN, 0, none⟩ = some (.int .i64 (n : Nat)) := by rw [← hW1]; exact k2
    rw [hW1]
    have hC := HCL.out L 0 (by omega) (by rw [VSt.readAt, List.drop_eq_nil_of_le (by have := HL.out; omega), List.drop_eq_nil_of_le (by have := HL.out; omega), List.take_nil, List.take_nil]) W1 nq hW1
    have HF := Lib.hid (HFI.out 0 W1 nq hW1 (by have := HRL.out; omega))
    have hsl : ∀ W, (Instr.slice 24 (.slice Ai L ci) (some (.int .i64 (L : Int))) (some (.int .i64 (L : Int))) none).run Try.prog W = .ok (.slice (offA Ai ci L) 0 (ci - L)) W := fun W => by
      have h := run_slRd W Ai L ci (L : Int) (L : Int) (by omega) (by omega) (by omega)
      rw [show ((L : Int) : Int).toNat - ((L : Int) : Int).toNat = 0 by omega, show ((L : Int) : Int).toNat = L by omega] at h
      exact h
    generalize hOA : offA Ai ci L = AX at hC hsl
    have HOA := Lib.hid hOA
    have HW := Lib.hid hW1
    clear hW1 k0 k1 k2 hOA
    have hw0 : IntKind.i64.wrap (0 : Int) = 0 := rfl
    have hwL : IntKind.i64.wrap (L : Int) = L := IntWalk.i64_in _ ⟨by omega, by omega⟩
    have hif : (if 0 < n then (0 : Int) else (n : Int)) = 0 := by split <;> omega
    go_still_tail 17, (by kernel_rfl)
    change wpList _ _ _ _ _ W1.drew
    go_wp2_with fail
    refine hC.mono ?_
    rintro e w3 ⟨A', c', rfl, happ, hnil⟩
    obtain ⟨⟨z1, z2⟩, z3⟩ := HF.out A' c' w3 happ
    have Z3 := Lib.hid z3
    clear z3 happ hnil
    go_wp2_with fail
    go_ret
    exact Z3.out
  · obtain ⟨q, hq⟩ : ∃ q, min n (L - k) = q := ⟨_, rfl⟩
    go_enter Try.func48, Try.ntmps48
    go_wp2_with fail
    go_quiet (fail)
    go_wp2_with fail
    obtain ⟨W1, hW1⟩ : ∃ W1, w.drewN nq = W1 := ⟨_, rfl⟩
    have j0 : W1.cell? ⟨m.fb i, 0, none⟩ = some (.slice Ai L ci) := by rw [← hW1]; exact k0
    have j2 : W1.cell? ⟨bN, 0, none⟩ = some (.int .i64 (n : Nat)) := by rw [← hW1]; exact k2
    rw [hW1]
    have hC := HCL.out k q (by omega) (by rw [VSt.readAt, ← hq]; exact (take_min (by rw [List.length_drop, HL.out])).symm) W1 nq hW1
    have HF := Lib.hid (HFI.out q W1 nq hW1 (by have := HRL.out; omega))
    have hsl : ∀ W, (Instr.slice 24 (.slice Ai L ci) (some (.int .i64 (k : Int))) (some (.int .i64 ((k : Int) + (q : Int)))) none).run Try.prog W = .ok (.slice (offA Ai ci k) q (ci - k)) W := fun W => by
      have h := run_slRd W Ai L ci (k : Int) ((k : Int) + (q : Int)) (by omega) (by omega) (by omega)
      rw [show (((k : Int) + (q : Int)) : Int).toNat - ((k : Int) : Int).toNat = q by omega, show ((k : Int) : Int).toNat = k by omega] at h
      exact h
    generalize hOA : offA Ai ci k = AX at hC hsl
    have HOA := Lib.hid hOA
    have HW := Lib.hid hW1
    clear hW1 k0 k1 k2 hOA
    have hw1 : IntKind.i64.wrap ((L : Int) - (k : Int)) = (L : Int) - (k : Int) := IntWalk.i64_in _ ⟨by omega, by omega⟩
    have hw2 : IntKind.i64.wrap ((k : Int) + (q : Int)) = (k : Int) + (q : Int) := IntWalk.i64_in _ ⟨by omega, by omega⟩
    have hif : (if (L : Int) - (k : Int) < (n : Int) then (L : Int) - (k : Int) else (n : Int)) = (q : Int) := by split <;> omega
    have HQ := Lib.hid hq
    clear hq
    go_still_tail 17, (by kernel_rfl)
    change wpList _ _ _ _ _ W1.drew
    go_wp2_with fail
    refine hC.mono ?_
    rintro e w3 ⟨A', c', rfl, happ, hnil⟩
    obtain ⟨⟨z1, z2⟩, z3⟩ := HF.out A' c' w3 happ
    have Z3 := Lib.hid z3
    clear z3 happ hnil
    go_wp2_with fail
    go_ret
    exact Z3.out
end Go.Proofs.Ytdjmmdhjjdnbdaa

/- Layer 4: Read. -/
namespace Go.Proofs.Ytdjmmdhjjdnbdaa
open Go.RowKit

/-- What Read comes to. -/
def VRead (base : Nat) (w : World) (K : Nat → Prop) (F : Nat) (m : VMem) (R : VSt × List Int × Nat) (e : Ending) (w' : World) : Prop :=
  ∃ A c, e = .returned (.tuple #[.slice A R.2.1.length c, .int .i64 (R.2.2 : Nat)]) ∧ Rb w' w'.heap.size A R.2.1 ∧ (∀ a, A = some a → w.heap.size ≤ a.block) ∧ Vf base w' K F R.1 m ∧ FrK w w' (Kis F)
/-- What stands ahead of Read's return. -/
def RdOn (base : Nat) (w : World) (K : Nat → Prop) (F bO : Nat) (m : VMem) (R : VSt × List Int × Nat) (e : Ending) (w' : World) : Prop :=
  e = .returned (.int .i64 (R.2.2 : Nat)) ∧ Vf base w' K F R.1 m ∧ FrK w w' (fun b => b = F ∨ b = bO) ∧ ∃ A c, Bk w' bO 24 #[.slice A R.2.1.length c] ∧ Rb w' w'.heap.size A R.2.1 ∧ ∀ a, A = some a → w.heap.size ≤ a.block
set_option maxRecDepth 100000 in
set_option maxHeartbeats 2000000 in
theorem vfReadOn {base F bA bN bO : Nat} {w : World} {K : Nat → Prop} {S : VSt} {m : VMem} (h : Vf base w K F S m) (hok : S.Ok) (hops : S.ops ≤ 4611686018427387904) (hfb : ∀ x ∈ S.fs, x.b.length ≤ 1000000000)
    (s : ByteArray) (hs : s.size ≤ 9223372036854775806) (a n : Int) (hA : Bk w bA 3 #[.int .i64 a]) (hN : Bk w bN 3 #[.int .i64 n]) (hO : Bk w bO 24 #[.slice none 0 0])
    (kA : bA ≠ F) (kN : bN ≠ F) (kO : bO ≠ F) (hkO : ¬K bO) (r : Bool) (hr : r = (decide (0 ≤ a) && decide (0 ≤ n))) :
    Calls Try.prog 39 #[ptV F, .bool r, .string s, .func (.func 48) #[] #[ptV bA, ptV bN, ptV bO]] w (RdOn base w K F bO m (S.read s a n)) := by
  obtain ⟨hs1, hs2, hs3, hs4, hs5⟩ := strike_same S
  have nul : ∀ {w1 : World} {K1 : Nat → Prop}, FrK w w1 K1 → ¬K1 bO → ∃ A c, Bk w1 bO 24 #[.slice A ([] : List Int).length c] ∧ Rb w1 w1.heap.size A [] ∧ ∀ a, A = some a → w.heap.size ≤ a.block := fun {w1 K1} hf hk => ⟨none, 0, hf.bk hO hk, Rd.nil, fun a e => by cases e⟩
  refine vfOn h hok hops r s hs _ _ (enters_of Try.func48 (by kernel_rfl) rfl) _ (fun hn w1 hv hf => ?_) (fun hn w1 hv hf hne => ?_) (fun hn w1 hv hf he hg => ?_) (fun hn w1 i hv hf he hi => ?_)
  · have e1 : (vName s && decide (0 ≤ a) && decide (0 ≤ n)) = false := by
      rw [hr] at hn
      cases h1 : vName s <;> simp [h1] at hn ⊢
      exact hn
    have hR : S.read s a n = (S, [], 2) := by unfold VSt.read; rw [if_pos e1]
    rw [hR]
    exact ⟨rfl, hv, hf.mono fun _ _ e => e.elim, nul hf fun e => e⟩
  · have e1 : ¬ (vName s && decide (0 ≤ a) && decide (0 ≤ n)) = false := by
      rw [hr] at hn
      cases h1 : vName s <;> simp [h1] at hn ⊢
      exact hn
    have hR : S.read s a n = (S.strike.1, [], S.strike.2) := by unfold VSt.read; rw [if_neg e1, if_pos hne]
    rw [hR]
    exact ⟨rfl, hv, hf.mono fun _ _ e => .inl e, nul hf kO⟩
  · have e1 : ¬ (vName s && decide (0 ≤ a) && decide (0 ≤ n)) = false := by
      rw [hr] at hn
      cases h1 : vName s <;> simp [h1] at hn ⊢
      exact hn
    have hR : S.read s a n = (S.strike.1, [], 6) := by unfold VSt.read; rw [if_neg e1, if_neg (by simp [he]), hg]
    rw [hR]
    exact ⟨rfl, hv, hf.mono fun _ _ e => .inl e, nul hf kO⟩
  · have e0 : (vName s = true ∧ 0 ≤ a) ∧ 0 ≤ n := by
      rw [hr] at hn
      cases h1 : vName s <;> simp [h1] at hn ⊢
      exact hn
    have e1 : ¬ (vName s && decide (0 ≤ a) && decide (0 ≤ n)) = false := by
      rw [e0.1.1, decide_eq_true e0.1.2, decide_eq_true e0.2]
      simp
    obtain ⟨k, rfl⟩ := Int.eq_ofNat_of_zero_le e0.1.2
    obtain ⟨j, rfl⟩ := Int.eq_ofNat_of_zero_le e0.2
    have hil := hok.strike.get_lt hi
    have hx := file_at hil
    have hR : S.read s (k : Int) (j : Int) = (S.strike.1, VSt.readAt (S.strike.1.file i).b k j, 0) := by
      unfold VSt.read
      rw [if_neg e1, if_neg (by simp [he]), hi]
      simp
    rw [hR]
    refine (vfRead1 hv hx (hfb _ (by rw [← hs3]; exact List.mem_of_getElem? hx)) (hf.bk hA kA) (hf.bk hN kN) (hf.bk hO kO) hkO).mono ?_
    rintro e w' ⟨rfl, h1, A, c, h2, h3, h4⟩
    refine ⟨0, rfl, rfl, hv.keep h1 fun b hb e => hkO (by rw [← show b = bO from e]; exact hb), (hf.mono fun _ _ e => .inl e).trans h1 fun b _ e => .inr e, A, c, h2, h3, fun a ha => Nat.le_trans hf.size (h4 a ha)⟩
set_option maxRecDepth 100000 in
set_option maxHeartbeats 2000000 in
theorem vfRead {base F : Nat} {w : World} {K : Nat → Prop} {S : VSt} {m : VMem} (h : Vf base w K F S m) (hok : S.Ok) (hops : S.ops ≤ 4611686018427387904) (hfb : ∀ x ∈ S.fs, x.b.length ≤ 1000000000)
    (s : ByteArray) (hs : s.size ≤ 9223372036854775806) (a n : Int) :
    Calls Try.prog 20 #[ptV F, .string s, .int .i64 a, .int .i64 n] w (VRead base w K F m (S.read s a n)) := by
  have hlo := fun b hb => (h.lo b hb).2
  have hFlt := (h.lo F h.kF).2
  have b1 := Bk.new w 3 #[.int .i64 a]
  have hw1 := (FrK.refl w Kno).alloc (.cells #[.int .i64 a] 3)
  have v1 := h.alloc (.cells #[.int .i64 a] 3)
  obtain ⟨w1, e1⟩ : ∃ w1, w.alloc (.cells #[.int .i64 a] 3) = w1 := ⟨_, rfl⟩
  rw [e1] at b1 hw1 v1
  have s1 : w1.heap.size = w.heap.size + 1 := by rw [← e1]; simp
  have b2 := Bk.new w1 3 #[.int .i64 n]
  have b12 := b1.alloc (.cells #[.int .i64 n] 3)
  have hw2 := hw1.alloc (.cells #[.int .i64 n] 3)
  have v2 := v1.alloc (.cells #[.int .i64 n] 3)
  obtain ⟨w2, e2⟩ : ∃ w2, w1.alloc (.cells #[.int .i64 n] 3) = w2 := ⟨_, rfl⟩
  rw [e2] at b2 b12 hw2 v2
  have s2 : w2.heap.size = w1.heap.size + 1 := by rw [← e2]; simp
  have b3 := Bk.new w2 24 #[.slice none 0 0]
  have b13 := b12.alloc (.cells #[.slice none 0 0] 24)
  have b23 := b2.alloc (.cells #[.slice none 0 0] 24)
  have hw3 := hw2.alloc (.cells #[.slice none 0 0] 24)
  have v3 := v2.alloc (.cells #[.slice none 0 0] 24)
  obtain ⟨w3, e3⟩ : ∃ w3, w2.alloc (.cells #[.slice none 0 0] 24) = w3 := ⟨_, rfl⟩
  rw [e3] at b3 b13 b23 hw3 v3
  have c1 : w3.cell? ⟨w.heap.size, 0, none⟩ = some (.int .i64 a) := by rw [b13.cell 0]; rfl
  have c2 : w3.cell? ⟨w1.heap.size, 0, none⟩ = some (.int .i64 n) := by rw [b23.cell 0]; rfl
  rw [s1] at c2
  obtain ⟨r, hr⟩ : ∃ r, (decide (0 ≤ a) && decide (0 ≤ n)) = r := ⟨_, rfl⟩
  have C := vfReadOn v3 hok hops hfb s hs a n b13 b23 b3 (by omega) (by omega) (by omega) (fun e => by have := hlo _ e; omega) r hr.symm
  generalize hR : S.read s a n = R at C ⊢
  have post : ∀ e w', RdOn base w3 K F w2.heap.size m R e w' → e = .returned (.int .i64 (R.2.2 : Nat)) ∧ ∃ A c, w'.cell? ⟨w2.heap.size, 0, none⟩ = some (.slice A R.2.1.length c) ∧ VRead base w K F m R (.returned (.tuple #[.slice A R.2.1.length c, .int .i64 (R.2.2 : Nat)])) w' := by
    rintro e w' ⟨rfl, h1, h2, A, c, h3, h4, h5⟩
    refine ⟨rfl, A, c, by rw [h3.cell 0]; rfl, A, c, rfl, h4, fun x hx => Nat.le_trans hw3.size (h5 x hx), h1, (hw3.mono fun _ _ e => e.elim).trans h2 fun b hb e => ?_⟩
    rcases e with e | e
    · exact e
    · omega
  rw [s2, s1] at C post
  have C' := C.mono post
  have HC := Lib.hid C'
  have E1 := Lib.hid e1
  have E2 := Lib.hid e2
  have E3 := Lib.hid e3
  have HR := Lib.hid hr
  clear hR h hok hfb b1 b2 b12 b3 b13 b23 hw1 hw2 hw3 v1 v2 v3 e1 e2 e3 s1 s2 hlo C post C' hr hs
  have hmf : ∀ (fn : Fn) (first cap : Array Value) (w : World), (Instr.makeFunc fn first cap).run Try.prog w = .ok (.func fn first cap) w := fun _ _ _ _ => rfl
  by_cases ha : 0 ≤ a
  · have ha' : decide (0 ≤ a) = true := decide_eq_true ha
    by_cases hn : 0 ≤ n
    · have hn' : decide (0 ≤ n) = true := decide_eq_true hn
      have hrr : r = true := by rw [← HR.out, ha', hn']; rfl
      subst hrr
      go_enter Try.func20, Try.ntmps20
      go_wp2_with fail
      rw [E1.out, E2.out, E3.out]
      refine HC.out.mono ?_
      rintro e w' ⟨rfl, A, c, hc, hp⟩
      have HP := Lib.hid hp
      clear hp
      go_wp2_with fail
      go_ret2
      exact HP.out
    · have hn' : decide (0 ≤ n) = false := decide_eq_false hn
      have hrr : r = false := by rw [← HR.out, hn', Bool.and_false]
      subst hrr
      go_enter Try.func20, Try.ntmps20
      go_wp2_with fail
      rw [E1.out, E2.out, E3.out]
      refine HC.out.mono ?_
      rintro e w' ⟨rfl, A, c, hc, hp⟩
      have HP := Lib.hid hp
      clear hp
      go_wp2_with fail
      go_ret2
      exact HP.out
  · have ha' : decide (0 ≤ a) = false := decide_eq_false ha
    have hrr : r = false := by rw [← HR.out, ha']; rfl
    subst hrr
    go_enter Try.func20, Try.ntmps20
    go_wp2_with fail
    rw [E1.out, E2.out, E3.out]
    refine HC.out.mono ?_
    rintro e w' ⟨rfl, A, c, hc, hp⟩
    have HP := Lib.hid hp
    clear hp
    go_wp2_with fail
    go_ret2
    exact HP.out
end Go.Proofs.Ytdjmmdhjjdnbdaa
