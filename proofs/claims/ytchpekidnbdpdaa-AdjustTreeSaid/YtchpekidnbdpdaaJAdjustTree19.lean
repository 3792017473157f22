/- Texts of the proof of AdjustTreeSaid, joined: UpA IxA WkA AdjA AdjB AdjC FdA AdjL. -/
import Derived.Test.YtchpekidnbdpdaaJAdjustTree18
import Derived.Test.YtchpekidnbdpdaaJAdjustTree13
import Derived.Test.YtchpekidnbdpdaaJAdjustTree9
import Derived.Test.YtchpekidnbdpdaaJAdjustTree16
import Derived.Deep.RegionWith
import Derived.Test.YtchpekidnbdpdaaJAdjustTree11
import Derived.Deep.QuietTactic
import Derived.BigQuiet
import Derived.Test.YtchpekidnbdpdaaJAdjustTree4
import Derived.Test.YtchpekidnbdpdaaJAdjustTree10
import Derived.Test.YtchpekidnbdpdaaJAdjustTree12
import Derived.Laws.ResultCell
/- Layer 21: Up: whose child each is. -/
namespace Go.Proofs.Ytchpekidnbdpdaa
open Go.RowKit
theorem loadAd_shutU (a : Addr) : loadVar 47 a = loadK 47 a := rfl
attribute [local go_sem ↓] loadSp_shutU loadAd_shutU
/-- One cell of an adjusted span in a row is put. -/
theorem RowA.put {W : World} {base g n c i j : Nat} {l : List AE} {e e' : AE} {u : Value} (h : RowA W base (.slice (some ⟨g, 0, none⟩) n c) n l) (hi : l[i]? = some e) (hj : j < 14) (hC : aeC e' = (aeC e).set j u) (hs : e'.a.s.tags = e.a.s.tags) (hA : e'.A = e.A) (hn : e'.n = e.n) (ho : e'.a.Ok) :
    RowA (W.setCell ⟨g, i * 14 + j, none⟩ u) base (.slice (some ⟨g, 0, none⟩) n c) n (l.set i e') ∧ W.grownBy (W.setCell ⟨g, i * 14 + j, none⟩ u) (some g) := by
  obtain ⟨h1, h2⟩ := h.own.stored (i * 14 + j) u
  rw [flatR_set aeC_length hj hC hi] at h1
  have hmem : ∀ x ∈ l.set i e', ∃ y ∈ l, x.a.s.tags = y.a.s.tags ∧ x.A = y.A ∧ x.n = y.n ∧ x.a.Ok := fun x hx => by
    rcases List.mem_or_eq_of_mem_set hx with hx | rfl
    · exact ⟨x, hx, rfl, rfl, rfl, (h.ok x hx).ok⟩
    · exact ⟨e, List.mem_of_getElem? hi, hs, hA, hn, ho⟩
  refine ⟨⟨h1, by rw [List.length_set]; exact h.len, fun x hx => ?_, fun x hx ht a ha => ?_⟩, h2⟩
  · obtain ⟨y, hy, e1, e2, e3, e4⟩ := hmem x hx
    have hok := h.ok y hy
    refine ⟨?_, by rw [e1, e3]; exact hok.len, by rw [e3]; exact hok.max, e4⟩
    rw [e1, e2]
    by_cases ht : y.a.s.tags = []
    · rw [ht]; exact Rd.nil
    · exact hok.rd.grownS h2 fun a ha => h.far y hy ht a ha
  · obtain ⟨y, hy, e1, e2, e3, e4⟩ := hmem x hx
    exact h.far y hy (by rw [← e1]; exact ht) a (by rw [← e2]; exact ha)
theorem RowA.frz {W : World} {base g n c : Nat} {l : List AE} (h : RowA W base (.slice (some ⟨g, 0, none⟩) n c) n l) (k : Nat) : W.frozen? ⟨g, k, none⟩ = false := by
  rcases h.own.2 with ⟨h1, _⟩ | ⟨g', cap', cur, hv, hbase, hb, _⟩
  · cases h1
  · injection hv with e1 _ e3
    injection e1 with e1
    injection e1 with e1
    subst e1
    simp [World.frozen?, hb]
theorem RowA.at {W : World} {base g n c j k : Nat} {l : List AE} {e : AE} (h : RowA W base (.slice (some ⟨g, 0, none⟩) n c) n l) (hj : l[j]? = some e) (hk : k < 14) : W.cell? ⟨g, j * 14 + k, none⟩ = (aeC e)[k]? := by
  obtain ⟨b', o', e', -, hc, -⟩ := h.rba.get hj
  cases e'
  have := hc k hk
  rwa [Nat.zero_add] at this
/-- As Up begins with one. -/
def iniA (s : Sp) : Ad := ⟨s, s.parent, 0, 0⟩
/-- What Up has of the first i, the rest as it began. -/
def upMix (u : List Sp) (i : Nat) : List Ad := upsTo u i ++ (u.drop i).map iniA
theorem upMix_zero (u : List Sp) : upMix u 0 = u.map iniA := by unfold upMix; simp [upsTo]
theorem upMix_all (u : List Sp) : upMix u u.length = upsTo u u.length := by unfold upMix; simp
theorem upMix_at {u : List Sp} {i : Nat} {x : Sp} (h : u[i]? = some x) : (upMix u i)[i]? = some (iniA x) := by
  have hi := (List.getElem?_eq_some_iff.1 h).1
  unfold upMix
  rw [List.getElem?_append_right (by rw [upsTo_len u i (by omega)]; omega), upsTo_len u i (by omega), Nat.sub_self, List.getElem?_map, List.getElem?_drop, Nat.add_zero, h]
  rfl
theorem upMix_set {u : List Sp} {i : Nat} {x : Sp} (h : u[i]? = some x) : (upMix u i).set i (upOf u i x) = upMix u (i + 1) := by
  have hi := (List.getElem?_eq_some_iff.1 h).1
  have hl := upsTo_len u i (by omega)
  unfold upMix
  rw [List.set_append_right _ _ (by omega), hl, Nat.sub_self, List.drop_eq_getElem_cons hi, (List.getElem?_eq_some_iff.1 h).2, List.map_cons, List.set_cons_zero, upsTo_step h, List.append_assoc]
  rfl
theorem upMix_s (u : List Sp) (i : Nat) (hi : i ≤ u.length) : (upMix u i).map (·.s) = u := by
  unfold upMix
  rw [List.map_append, upsTo_s u i hi, List.map_map]
  have : ((fun x : Ad => x.s) ∘ iniA) = id := by funext x; rfl
  rw [this, List.map_id, List.take_append_drop]
theorem posA_same {o o' : List Ad} (h : o.map (·.s) = o'.map (·.s)) (id : Nat) : posA o id = posA o' id := by
  have e : ∀ o : List Ad, posA o id = (o.map (·.s)).findIdx? fun s => decide (s.id = id) := fun o => by
    unfold posA; rw [List.findIdx?_map]; rfl
  rw [e, e, h]
theorem upMix_skip {u : List Sp} {i : Nat} {x : Sp} (h : u[i]? = some x) (he : upOf u i x = iniA x) : upMix u (i + 1) = upMix u i := by
  rw [← upMix_set h, he]
  refine List.ext_getElem? fun k => ?_
  by_cases hk : k = i
  · subst hk
    have h1 := upMix_at h
    rw [List.getElem?_set_self (List.getElem?_eq_some_iff.1 h1).1, h1]
  · rw [List.getElem?_set_ne (Ne.symm hk)]
theorem iniA_ok {x : Sp} (h : x.U64) : (iniA x).Ok := ⟨h, h.2.2.2, by show (_ : Int) ≤ 0; omega, by show (0 : Int) ≤ _; omega⟩
set_option maxRecDepth 100000 in
set_option maxHeartbeats 8000000 in
theorem ajUp {A : Option Addr} {c n B : Nat} {l : List El} (w : World) (hf : RbS w B A l) (hn : l.length = n) (hB : B ≤ w.heap.size) (hnl : n ≤ 100000) (hsm : ∀ e ∈ l, e.n ≤ 1000000) (hu : ∀ s ∈ uniq (sps l), s.U64) :
    Calls Try.prog 17 #[.slice A n c] w (UpsPost w (ups (sps l))) := by
  have cu := ajUnique (c := c) w hf hn hB hnl hsm
  have hul := uniqTo_len (sps l) (sps l).length
  rw [sps_length, hn] at hul
  obtain ⟨U, hU⟩ : ∃ U, uniq (sps l) = U := ⟨_, rfl⟩
  have hups : ups (sps l) = upsTo U U.length := by rw [ups, hU]
  have hul2 : U.length ≤ n := by rw [← hU, uniq, sps_length, hn]; exact hul
  have hris : RisId U := by rw [← hU]; exact uniq_ris _
  rw [hU] at cu hu
  rw [hups]
  have HU := Lib.hid hu
  have HRI := Lib.hid hris
  clear hU hups hul hu hsm hf hris
  go_enter Try.func17, Try.ntmps17
  go_wp2_with fail
  refine cu.mono ?_
  rintro en w1 ⟨Au, uc, m, ul, rfl, hus, hrow, hb1⟩
  have hml : ul.length = m := hrow.len
  have hmU : U.length = m := by rw [← hus, sps_length, hml]
  have HS := Lib.hid hus
  have HM := Lib.hid hml
  have HMU := Lib.hid hmU
  have HROW := Lib.hid hrow
  have HB1 := Lib.hid hb1
  have hmn : m ≤ n := by omega
  rw [hmU]
  clear hus hml hmU hrow cu hb1
  go_wp2_with fail
  go_loopw [3, 16] (fun v iv_ wr => ∃ (i : Nat) (A' : Option Addr) (c' : Nat) (l' : List AE), i ≤ m ∧ v = .slice A' i c' ∧ iv_ = .int .i64 i ∧ Hid (l'.map (·.a) = (U.take i).map iniA) ∧ RowA wr w1.heap.size (.slice A' i c') i l' ∧ Below w1.heap.size w1 wr) (fun _ i _ => m - (intOf i).toNat)
  case atStart => exact ⟨0, none, 0, [], by omega, rfl, rfl, Lib.hid rfl, RowA.nil _ _, Below.refl _ _⟩
  case round =>
    obtain ⟨i, A', c', l', hi, rfl, rfl, HL, hra, hbr⟩ := hrel
    by_cases hlt : i < m
    · have hlt' : (i : Int) < (m : Int) := by omega
      obtain ⟨e, he⟩ : ∃ e, ul[i]? = some e := ⟨_, List.getElem?_eq_getElem (by rw [HM.out]; exact hlt)⟩
      obtain ⟨b, o, e1, hbb, hc, hok⟩ := (HROW.out.rbs.below hbr).get he
      subst e1
      have hld := loadK_el hc
      have hok1 := (HROW.out.rbs.get he).choose_spec.choose_spec.2.2.2
      have bk := Bk.new wr 32 (spC e.s e.A e.n e.c)
      have hld2 := loadK_sp bk
      have hp3 : (wr.alloc (.cells (spC e.s e.A e.n e.c) 32)).cell? ⟨wr.heap.size, 3, none⟩ = some (.int .u64 e.s.parent) := bk.cell 3
      have hb0 : Below wr.heap.size wr (wr.alloc (.cells (spC e.s e.A e.n e.c) 32)) := (Below.refl _ wr).alloc (Nat.le_refl _) _
      obtain ⟨W2, hW2⟩ : ∃ W2, wr.alloc (.cells (spC e.s e.A e.n e.c) 32) = W2 := ⟨_, rfl⟩
      obtain ⟨g, hg⟩ : ∃ g, wr.heap.size = g := ⟨_, rfl⟩
      have HW2 := Lib.hid hW2
      have HGg := Lib.hid hg
      rw [hW2] at hld2 hp3 hb0
      rw [hg] at hld2 hp3
      have hra3 := hra.bS hb0
      have HE := Lib.hid he
      have HOK := Lib.hid hok1
      have HSX : Hid (U[i]? = some e.s) := Lib.hid (by rw [← HS.out]; exact sps_get HE.out)
      have HU64 : Hid e.s.U64 := Lib.hid (HU.out _ (List.mem_of_getElem? HSX.out))
      have BAL : Hid (∀ (W : World) (o : Obj), Below W.heap.size W (W.alloc o)) := Lib.hid fun W o => (Below.refl _ W).alloc (Nat.le_refl _) o
      clear he hc hok hok1 bk hW2 hg
      go_wp2_with (first
        | (rw [HW2.out, HGg.out])
        | (at_builtin; go_loud (refine wpList_appAd _ rfl (.tmp 20) (.tmp 25) rfl w1.heap.size _ i l' rfl (hra3.bS (BAL.out W2 _)).own (W2.heap.size + 1) _ 1 1 [⟨iniA e.s, e.A, e.n, e.c⟩] rfl rfl (rd_adj rfl _) (by omega) (by have h1 := hbr.size; have h2 := hb0.size; simp; omega) ?_)))
      intro A5 c5 w5 hap _
      have hr5 := upRow (hra3.bS (BAL.out W2 _)) HOK.out ((hbr.trans (hb0.mono hbr.size)).trans ((BAL.out W2 _).mono (Nat.le_trans hbr.size hb0.size))) (a := iniA e.s) (iniA_ok HU64.out) rfl hap
      have hb5 : Below w1.heap.size w1 w5 := ((hbr.trans (hb0.mono hbr.size)).trans ((BAL.out W2 _).mono (Nat.le_trans hbr.size hb0.size))).trans (hap.below (by have h1 := hbr.size; have h2 := hb0.size; simp; omega) (fun k hk => (hra3.own_lt k hk).2))
      have HR5 := Lib.hid hr5
      clear hr5 hap hra3 hld hld2 hp3
      go_wp2_with fail
      exact ⟨⟨i + 1, A5, c5, _, by omega, rfl, by go_num, Lib.hid (by rw [List.map_append, HL.out, take_snoc HSX.out, List.map_append]; rfl), HR5.out, hb5⟩, by simp only [intOf]; omega⟩
    · have hlt' : decide ((i : Int) < (m : Int)) = false := by simp; omega
      obtain rfl : i = m := by omega
      have hcp := ajPlaces (c := c') wr hra.rba hra.len (Nat.le_refl _) (by omega)
      have HCP := Lib.hid hcp
      have HRA := Lib.hid hra
      have HBR := Lib.hid hbr
      clear hcp hra hbr
      go_wp2_with (go_at_call 43; refine HCP.out.mono ?_; rintro en w2 ⟨mb, L, rfl, hM, hL, hmb, hb2⟩)
      have HL0 : Hid (l'.map (·.a) = upMix U 0) := Lib.hid (by rw [upMix_zero, HL.out, List.take_of_length_le (by rw [HMU.out]; exact Nat.le_refl _)])
      have HR2 : Aside (RowA w2 w1.heap.size (.slice A' i c') i l') := HRA.out.bS hb2
      have HMM : Aside (Mh idA natV w2 mb L) := hM
      have HLL : Aside (∀ id, mgGet id L = posA (l'.map (·.a)) id) := hL
      have HPL : Aside (∀ id, mgGet id L = posA (upMix U 0) id) := fun id => by rw [← HL0.out]; exact hL id
      have hmw : wr.heap.size ≤ mb := hmb
      have HBW : Hid (Below w1.heap.size w1 w2) := HBR.out.trans (hb2.mono HBR.out.size)
      clear hM hL hmb hb2 HL
      have HGM : Hid (∀ k, (Value.slice A' i c').ownBlock = some k → k < mb) := fun k hk => Nat.lt_of_lt_of_le (HRA.out.own_lt k hk).1 hmw
      clear hmw
      go_wp2_with fail
      go_loopw [32] (fun iv_ W => ∃ (j : Nat) (lj : List AE), j ≤ i ∧ iv_ = .int .i64 (j : Nat) ∧ Hid (lj.map (·.a) = upMix U j) ∧ Aside (RowA W w1.heap.size (.slice A' i c') i lj) ∧ Aside (Mh idA natV W mb L) ∧ Hid (Below w1.heap.size w1 W)) (fun v _ => i - (intOf v).toNat)
      case atStart => exact ⟨0, l', by omega, rfl, HL0, HR2, HMM, HBW⟩
      case round =>
        obtain ⟨j, lj, hj, rfl, HLJ, RJ, MJ, BJ⟩ := hrel
        clear HR2 HMM
        by_cases hlt2 : j < i
        · have hlt2z : (j : Int) < (i : Int) := by omega
          obtain ⟨s, hs⟩ : ∃ s, U[j]? = some s := ⟨_, List.getElem?_eq_getElem (by rw [HMU.out]; exact hlt2)⟩
          obtain ⟨x, hx⟩ : ∃ x, lj[j]? = some x := ⟨_, List.getElem?_eq_getElem (by rw [RJ.out.len]; exact hlt2)⟩
          have hxa : x.a = iniA s := by
            have h1 := upMix_at hs
            rw [← HLJ.out, List.getElem?_map, hx] at h1
            exact Option.some.inj h1
          obtain ⟨g, rfl⟩ : ∃ g, A' = some ⟨g, 0, none⟩ := by
            rcases RJ.out.own.2 with ⟨h1, h3⟩ | ⟨g, cap', cur, hv, _⟩
            · omega
            · injection hv with e1 _ e3
              exact ⟨g, e1⟩
          obtain ⟨b', o', e', -, hc, -⟩ := RJ.out.rba.get hx
          cases e'
          have c2 : wr.cell? ⟨g, j * 14 + 2, none⟩ = some (.int .u64 s.id) := by
            have := hc 2 (by omega)
            rw [Nat.zero_add] at this
            rw [this]; show some (Value.int .u64 x.a.s.id) = _; rw [hxa]; rfl
          have c3 : wr.cell? ⟨g, j * 14 + 3, none⟩ = some (.int .u64 s.parent) := by
            have := hc 3 (by omega)
            rw [Nat.zero_add] at this
            rw [this]; show some (Value.int .u64 x.a.s.parent) = _; rw [hxa]; rfl
          have c11 : (wr.cell? ⟨g, j * 14 + 11, none⟩).isSome = true := by
            have := hc 11 (by omega)
            rw [Nat.zero_add] at this
            rw [this]; rfl
          have HSJ := Lib.hid hs
          have HXJ := Lib.hid hx
          have HXA := Lib.hid hxa
          have HUS : Hid s.U64 := HU.out _ (List.mem_of_getElem? hs)
          obtain ⟨pa, hpa⟩ : ∃ pa, s.parent = pa := ⟨_, rfl⟩
          obtain ⟨si, hsi⟩ : ∃ si, s.id = si := ⟨_, rfl⟩
          rw [hpa] at c3
          rw [hsi] at c2
          have HPA := Lib.hid hpa
          have HSI := Lib.hid hsi
          clear hc hs hx hxa hpa hsi c11
          by_cases hp0 : pa = 0
          · subst hp0
            have HSK : Hid (upMix U (j + 1) = upMix U j) := upMix_skip HSJ.out (by rw [upOf, if_pos HPA.out, iniA, HPA.out])
            go_wp2
            go_roundw
            case rel => exact ⟨j + 1, lj, by omega, by go_num, (show Hid _ from by show _ = _; rw [HSK.out]; exact HLJ.out), RJ, MJ, BJ⟩
            case measure => simp [intOf]; omega
          · have hp0z : ((pa : Int) == 0) = false := by simp; omega
            have hlk := run_mhLook (z := .int .i64 0) (e := 3) idRunA Try.underlying69 (by simp [Try.zeroValue3]) MJ.out pa true
            rw [HPL.out pa] at hlk
            have hus0 : (upMix U 0).map (·.s) = U := upMix_s U 0 (Nat.zero_le _)
            cases hp : posA (upMix U 0) pa with
            | none =>
              rw [hp] at hlk
              have hpl := posA_none hus0 hp
              simp only [if_true, Option.map_none, Option.getD_none, Option.isSome_none] at hlk
              have hq : upOf U j s = ⟨s, 0, 0, 1⟩ := by rw [upOf, HPA.out, if_neg hp0, if_pos hpl]
              obtain ⟨r1, g1⟩ := RJ.out.put (j := 11) (e' := ⟨⟨s, 0, 0, 0⟩, x.A, x.n, x.c⟩) (u := .int .u64 0) HXJ.out (by omega) (by unfold aeC adC; rw [HXA.out]; rfl) (by rw [HXA.out]; rfl) rfl rfl ⟨HUS.out, by show (0 : Nat) < _; omega, by show (_ : Int) ≤ 0; omega, by show (0 : Int) ≤ _; omega⟩
              obtain ⟨r2, g2⟩ := r1.put (j := 13) (e := ⟨⟨s, 0, 0, 0⟩, x.A, x.n, x.c⟩) (e' := ⟨⟨s, 0, 0, 1⟩, x.A, x.n, x.c⟩) (u := .int .i64 1) (by rw [List.getElem?_set_self]; rw [RJ.out.len]; exact hlt2) (by omega) rfl rfl rfl rfl ⟨HUS.out, by show (0 : Nat) < _; omega, by show (_ : Int) ≤ 0; omega, by show (0 : Int) ≤ _; omega⟩
              have hlj : j < lj.length := by rw [RJ.out.len]; exact hlt2
              have s11 : wr.cell? ⟨g, j * 14 + 11, none⟩ = some (.int .u64 x.a.up) := RJ.out.at HXJ.out (by omega)
              have f11 := RJ.out.frz (j * 14 + 11)
              have s13 : (wr.setCell ⟨g, j * 14 + 11, none⟩ (.int .u64 0)).cell? ⟨g, j * 14 + 13, none⟩ = some (.int .i64 0) := r1.at (e := ⟨⟨s, 0, 0, 0⟩, x.A, x.n, x.c⟩) (List.getElem?_set_self hlj) (by omega)
              have f13 := r1.frz (j * 14 + 13)
              have R9 : Aside (RowA ((wr.setCell ⟨g, j * 14 + 11, none⟩ (.int .u64 0)).setCell ⟨g, j * 14 + 13, none⟩ (.int .i64 1)) w1.heap.size (.slice (some ⟨g, 0, none⟩) i c') i (lj.set j ⟨⟨s, 0, 0, 1⟩, x.A, x.n, x.c⟩)) := by
                rw [List.set_set] at r2
                exact r2
              have hgm : g < mb := HGM.out g rfl
              have hgw := (RJ.out.own_lt g rfl).2
              have M9 : Aside (Mh idA natV ((wr.setCell ⟨g, j * 14 + 11, none⟩ (.int .u64 0)).setCell ⟨g, j * 14 + 13, none⟩ (.int .i64 1)) mb L) := Mh.grown (Mh.grown MJ.out g1 (fun e => by have := Option.some.inj e; omega)) g2 (fun e => by have := Option.some.inj e; omega)
              have B9 : Hid (Below w1.heap.size w1 ((wr.setCell ⟨g, j * 14 + 11, none⟩ (.int .u64 0)).setCell ⟨g, j * 14 + 13, none⟩ (.int .i64 1))) := (BJ.out.setCell (p := ⟨g, j * 14 + 11, none⟩) hgw _).setCell (p := ⟨g, j * 14 + 13, none⟩) hgw _
              have HL9 : Hid ((lj.set j ⟨⟨s, 0, 0, 1⟩, x.A, x.n, x.c⟩).map (·.a) = upMix U (j + 1)) := by
                show _ = _
                rw [← upMix_set HSJ.out, hq, List.map_set, HLJ.out]
              clear r1 r2 g1 g2 hp hpl hq hus0 hlj
              go_wp2
              go_roundw
              case rel => exact ⟨j + 1, _, by omega, by go_num, HL9, R9, M9, B9⟩
              case measure => simp [intOf]; omega
            | some k =>
              rw [hp] at hlk
              simp only [if_true, Option.map_some, Option.getD_some, Option.isSome_some] at hlk
              have hpl := posA_some hus0 hp
              have hmp : lj.map (·.a.s) = U := by
                have := upMix_s U j (by rw [HMU.out]; omega)
                rw [← HLJ.out, List.map_map] at this
                exact this
              have hls := ajLeast (c := c') wr RJ.out.rba RJ.out.len (Nat.le_refl _) (by omega) MJ.out (fun id => by rw [HPL.out id]; exact posA_same (by rw [hus0, HLJ.out, upMix_s U j (by rw [HMU.out]; omega)]) id) HXJ.out (by rw [HXA.out]; exact HUS.out)
              rw [hmp, HXA.out] at hls
              obtain ⟨R, hR⟩ : ∃ R, lst U s = R := ⟨_, rfl⟩
              have hls2 : Calls Try.prog 44 #[.slice (some ⟨g, 0, none⟩) i c', .map (some mb), .int .i64 (j : Nat)] wr fun e w' => e = .returned (.tuple #[.int .u64 (R.getD 0 : Nat), .bool R.isSome]) ∧ Below wr.heap.size wr w' := by rw [← hR]; exact hls
              have HCYC : Hid (R = some s.id ↔ cyc U j s = true) := by rw [← hR]; exact lst_cyc HRI.out HSJ.out (by rw [HPA.out]; exact hp0)
              have HUP : Hid (upOf U j s = if cyc U j s = true then ⟨s, 0, 0, 2⟩ else ⟨s, s.parent, 0, 0⟩) := by
                show _ = _
                rw [upOf, if_neg (by rw [HPA.out]; exact hp0), if_neg (by rw [HPA.out, hpl]; omega)]
              have HLS := Lib.hid hls2
              clear hls hls2 hR hmp hpl hp hus0
              cases R with
              | none =>
                have hnc : cyc U j s = false := by
                  cases hcy : cyc U j s with
                  | false => rfl
                  | true => have := HCYC.out.2 hcy; cases this
                have HSK : Hid (upMix U (j + 1) = upMix U j) := upMix_skip HSJ.out (by rw [HUP.out, hnc]; rfl)
                clear hnc
                go_wp2_with (go_at_call 44; refine HLS.out.mono ?_; rintro en w5 ⟨rfl, hb5⟩)
                have R5 := RJ.out.bS hb5
                have M5 := Mh.bS MJ.out hb5
                have B5 := BJ.out.trans (hb5.mono BJ.out.size)
                have RR5 : Aside _ := R5
                have MM5 : Aside _ := M5
                have BB5 := Lib.hid B5
                clear R5 M5 B5 hb5
                go_wp2
                go_roundw
                case rel => exact ⟨j + 1, lj, by omega, by go_num, (show Hid _ from by show _ = _; rw [HSK.out]; exact HLJ.out), RR5, MM5, BB5⟩
                case measure => simp [intOf]; omega
              | some r =>
                by_cases hrs2 : r = si
                · subst hrs2
                  have hcy : cyc U j s = true := HCYC.out.1 (by rw [HSI.out])
                  have hq : upOf U j s = ⟨s, 0, 0, 2⟩ := by rw [HUP.out, if_pos hcy]
                  have HQQ := Lib.hid hq
                  clear hcy hq
                  go_wp2_with fail
                  refine HLS.out.mono ?_
                  rintro en w5 ⟨rfl, hb5⟩
                  clear c2 c3 hlk
                  have R5 := RJ.out.bS hb5
                  have M5 := Mh.bS MJ.out hb5
                  have B5 := BJ.out.trans (hb5.mono BJ.out.size)
                  clear hb5
                  obtain ⟨r1, g1⟩ := R5.put (j := 11) (e' := ⟨⟨s, 0, 0, 0⟩, x.A, x.n, x.c⟩) (u := .int .u64 0) HXJ.out (by omega) (by unfold aeC adC; rw [HXA.out]; rfl) (by rw [HXA.out]; rfl) rfl rfl ⟨HUS.out, by show (0 : Nat) < _; omega, by show (_ : Int) ≤ 0; omega, by show (0 : Int) ≤ _; omega⟩
                  have hlj : j < lj.length := by rw [RJ.out.len]; exact hlt2
                  obtain ⟨r2, g2⟩ := r1.put (j := 13) (e := ⟨⟨s, 0, 0, 0⟩, x.A, x.n, x.c⟩) (e' := ⟨⟨s, 0, 0, 2⟩, x.A, x.n, x.c⟩) (u := .int .i64 2) (List.getElem?_set_self hlj) (by omega) rfl rfl rfl rfl ⟨HUS.out, by show (0 : Nat) < _; omega, by show (_ : Int) ≤ 0; omega, by show (0 : Int) ≤ _; omega⟩
                  have k2 : w5.cell? ⟨g, j * 14 + 2, none⟩ = some (.int .u64 r) := by
                    rw [R5.at HXJ.out (by omega)]
                    show some (Value.int .u64 x.a.s.id) = _
                    rw [HXA.out, ← HSI.out]; rfl
                  have s11 : w5.cell? ⟨g, j * 14 + 11, none⟩ = some (.int .u64 x.a.up) := R5.at HXJ.out (by omega)
                  have f11 := R5.frz (j * 14 + 11)
                  have s13 : (w5.setCell ⟨g, j * 14 + 11, none⟩ (.int .u64 0)).cell? ⟨g, j * 14 + 13, none⟩ = some (.int .i64 0) := r1.at (e := ⟨⟨s, 0, 0, 0⟩, x.A, x.n, x.c⟩) (List.getElem?_set_self hlj) (by omega)
                  have f13 := r1.frz (j * 14 + 13)
                  have R9 : Aside (RowA ((w5.setCell ⟨g, j * 14 + 11, none⟩ (.int .u64 0)).setCell ⟨g, j * 14 + 13, none⟩ (.int .i64 2)) w1.heap.size (.slice (some ⟨g, 0, none⟩) i c') i (lj.set j ⟨⟨s, 0, 0, 2⟩, x.A, x.n, x.c⟩)) := by
                    rw [List.set_set] at r2
                    exact r2
                  have hgm : g < mb := HGM.out g rfl
                  have hgw := (RJ.out.own_lt g rfl).2
                  have M9 : Aside (Mh idA natV ((w5.setCell ⟨g, j * 14 + 11, none⟩ (.int .u64 0)).setCell ⟨g, j * 14 + 13, none⟩ (.int .i64 2)) mb L) := Mh.grown (Mh.grown M5 g1 (fun e => by have := Option.some.inj e; omega)) g2 (fun e => by have := Option.some.inj e; omega)
                  have B9 : Hid (Below w1.heap.size w1 ((w5.setCell ⟨g, j * 14 + 11, none⟩ (.int .u64 0)).setCell ⟨g, j * 14 + 13, none⟩ (.int .i64 2))) := (B5.setCell (p := ⟨g, j * 14 + 11, none⟩) hgw _).setCell (p := ⟨g, j * 14 + 13, none⟩) hgw _
                  have HL9 : Hid ((lj.set j ⟨⟨s, 0, 0, 2⟩, x.A, x.n, x.c⟩).map (·.a) = upMix U (j + 1)) := by
                    show _ = _
                    rw [← upMix_set HSJ.out, HQQ.out, List.map_set, HLJ.out]
                  clear r1 r2 g1 g2 hlj R5 M5 B5
                  go_wp2
                  go_roundw
                  case rel => exact ⟨j + 1, _, by omega, by go_num, HL9, R9, M9, B9⟩
                  case measure => simp [intOf]; omega
                · have hrz : ((r : Int) == (si : Int)) = false := by simp; omega
                  have hnc : cyc U j s = false := by
                    cases hcy : cyc U j s with
                    | false => rfl
                    | true => have := HCYC.out.2 hcy; rw [HSI.out] at this; exact absurd (Option.some.inj this) hrs2
                  have HSK : Hid (upMix U (j + 1) = upMix U j) := upMix_skip HSJ.out (by rw [HUP.out, hnc]; rfl)
                  clear hnc
                  go_wp2_with fail
                  refine HLS.out.mono ?_
                  rintro en w5 ⟨rfl, hb5⟩
                  clear c2 c3 hlk
                  have R5 := RJ.out.bS hb5
                  have M5 := Mh.bS MJ.out hb5
                  have B5 := BJ.out.trans (hb5.mono BJ.out.size)
                  have k2 : w5.cell? ⟨g, j * 14 + 2, none⟩ = some (.int .u64 si) := by
                    rw [R5.at HXJ.out (by omega)]
                    show some (Value.int .u64 x.a.s.id) = _
                    rw [HXA.out, ← HSI.out]; rfl
                  have RR5 : Aside _ := R5
                  have MM5 : Aside _ := M5
                  have BB5 := Lib.hid B5
                  clear R5 M5 B5 hb5
                  go_wp2
                  go_roundw
                  case rel => exact ⟨j + 1, lj, by omega, by go_num, (show Hid _ from by show _ = _; rw [HSK.out]; exact HLJ.out), RR5, MM5, BB5⟩
                  case measure => simp [intOf]; omega
        · have hlt2z : ¬ (j : Int) < (i : Int) := by omega
          obtain rfl : j = i := by omega
          go_wp2
          go_ret
          have hlm := HLJ.out
          rw [show j = U.length by rw [HMU.out], upMix_all] at hlm
          have hb1 := HB1.out
          refine ⟨A', c', j, lj, rfl, ?_, ⟨own_baseA RJ.out.own hb1.size, RJ.out.len, RJ.out.ok, RJ.out.far⟩, hb1.trans (BJ.out.mono hb1.size)⟩
          rw [hlm, HMU.out]
end Go.Proofs.Ytchpekidnbdpdaa


/- Layer 21: slices.IndexFunc, ContainsFunc of spans; IndexFunc of adjusted spans: asked of whatever closure reads. -/
namespace Go.Proofs.Ytchpekidnbdpdaa
open Go.RowKit
attribute [local go_sem ↓] loadSp_shutU loadAd_shutU
/-- Where the first is of which q says yes. -/
def ixP {α : Type} (q : α → Bool) (l : List α) : Int := match l.findIdx? q with | some j => (j : Int) | none => -1
theorem ixP_at {α : Type} {q : α → Bool} {l : List α} {j : Nat} {x : α} (hx : l[j]? = some x) (hq : q x = true) (hb : ∀ k y, k < j → l[k]? = some y → q y = false) : ixP q l = (j : Int) := by
  have : l.findIdx? q = some j := by
    obtain ⟨h1, h2⟩ := List.getElem?_eq_some_iff.1 hx
    refine List.findIdx?_eq_some_iff_getElem.2 ⟨h1, by rw [h2]; exact hq, fun k hk => ?_⟩
    have := hb k _ hk (List.getElem?_eq_getElem (by omega))
    simp [this]
  unfold ixP; rw [this]
theorem ixP_none {α : Type} {q : α → Bool} {l : List α} (hb : ∀ k y, k < l.length → l[k]? = some y → q y = false) : ixP q l = -1 := by
  have : l.findIdx? q = none := List.findIdx?_eq_none_iff.2 fun x hx => by
    obtain ⟨k, hk⟩ := List.getElem?_of_mem hx
    exact hb k x (List.getElem?_eq_some_iff.1 hk).1 hk
  unfold ixP; rw [this]
set_option maxRecDepth 100000 in
set_option maxHeartbeats 2000000 in
theorem ajIxSp {A : Option Addr} {c n B g0 : Nat} {cb : Array Value} {l : List El} (q : Sp → Bool) (w : World) (hf : RbS w B A l) (hn : l.length = n) (hB : B ≤ w.heap.size) (hz : n ≤ 1000000)
    (eg : ∀ args W, (callFunc g0 args).run Try.prog W = .ok (.enter g0 args) W)
    (hq : ∀ W (e : El), Below w.heap.size w W → e ∈ l → Calls Try.prog g0 (#[spV e.s e.A e.n e.c] ++ cb) W fun en w' => en = .returned (.bool (q e.s)) ∧ Below W.heap.size W w') :
    Calls Try.prog 53 #[.slice A n c, .func (.func g0) #[] cb] w fun e w' => e = .returned (.int .i64 (ixP (fun e : El => q e.s) l)) ∧ Below w.heap.size w w' := by
  have HF : Aside _ := hf
  have HQ : Aside _ := hq
  have HN := Lib.hid hn
  clear hf hq hn
  go_enter Try.func53, Try.ntmps53
  go_wp2
  go_loopw [8] (fun v wr => ∃ i : Nat, i ≤ n ∧ v = .int .i64 (i : Nat) ∧ Hid (Below w.heap.size w wr) ∧ Hid (∀ k y, k < i → l[k]? = some y → q y.s = false)) (fun v _ => n - (intOf v).toNat)
  case atStart => exact ⟨0, by omega, rfl, Below.refl _ _, fun k y hk => by omega⟩
  case round =>
    obtain ⟨i, hi, rfl, HB, HA⟩ := hrel
    by_cases hlt : i < n
    · have hltz : (i : Int) < (n : Int) := by omega
      obtain ⟨x, hx⟩ : ∃ x, l[i]? = some x := ⟨_, List.getElem?_eq_getElem (by rw [HN.out]; exact hlt)⟩
      obtain ⟨b, o, rfl, -, hc, -⟩ := (HF.out.below (HB.out.mono hB)).get hx
      have hld := loadK_el hc
      have hcq := HQ.out wr x HB.out (List.mem_of_getElem? hx)
      obtain ⟨r, hr⟩ : ∃ r, q x.s = r := ⟨_, rfl⟩
      rw [hr] at hcq
      have HX := Lib.hid hx
      have HR := Lib.hid hr
      have HCQ := Lib.hid hcq
      clear hc hx hr hcq
      cases r with
      | true =>
        go_wp2_with (go_at_fn g0; refine HCQ.out.mono ?_; rintro en w5 ⟨rfl, hb5⟩)
        go_ret
        exact ⟨by rw [ixP_at HX.out HR.out HA.out]; rfl, HB.out.trans (hb5.mono HB.out.size)⟩
      | false =>
        go_wp2_with (go_at_fn g0; refine HCQ.out.mono ?_; rintro en w5 ⟨rfl, hb5⟩)
        have HB5 : Hid (Below w.heap.size w w5) := HB.out.trans (hb5.mono HB.out.size)
        have HA5 : Hid (∀ k y, k < i + 1 → l[k]? = some y → q y.s = false) := fun k y hk hy => by
          by_cases e : k = i
          · subst e; rw [HX.out] at hy; cases hy; exact HR.out
          · exact HA.out k y (by omega) hy
        clear hb5
        go_wp2
        go_roundw
        case rel => exact ⟨i + 1, by omega, by go_num, HB5, HA5⟩
        case measure => simp [intOf]; omega
    · have hltz : ¬ (i : Int) < (n : Int) := by omega
      go_wp2
      go_ret
      exact ⟨by rw [ixP_none fun k y hk hy => HA.out k y (by have := HN.out; omega) hy]; rfl, HB.out⟩
set_option maxRecDepth 100000 in
set_option maxHeartbeats 2000000 in
theorem ajHasSp {A : Option Addr} {c n B g0 : Nat} {cb : Array Value} {l : List El} (q : Sp → Bool) (w : World) (hf : RbS w B A l) (hn : l.length = n) (hB : B ≤ w.heap.size) (hz : n ≤ 1000000)
    (eg : ∀ args W, (callFunc g0 args).run Try.prog W = .ok (.enter g0 args) W)
    (hq : ∀ W (e : El), Below w.heap.size w W → e ∈ l → Calls Try.prog g0 (#[spV e.s e.A e.n e.c] ++ cb) W fun en w' => en = .returned (.bool (q e.s)) ∧ Below W.heap.size W w') :
    Calls Try.prog 24 #[.slice A n c, .func (.func g0) #[] cb] w fun e w' => e = .returned (.bool ((sps l).any q)) ∧ Below w.heap.size w w' := by
  have hc := ajIxSp (c := c) q w hf hn hB hz eg hq
  have hr : decide (0 ≤ ixP (fun e : El => q e.s) l) = (sps l).any q := by
    unfold ixP
    cases h : l.findIdx? (fun e : El => q e.s) with
    | none =>
      have h1 := List.findIdx?_eq_none_iff.1 h
      have : (sps l).any q = false := by
        rw [List.any_eq_false]
        intro s hs
        obtain ⟨e, he, rfl⟩ := List.mem_map.1 hs
        simpa using h1 e he
      rw [this]; decide
    | some j =>
      obtain ⟨h1, h2, -⟩ := List.findIdx?_eq_some_iff_getElem.1 h
      have : (sps l).any q = true := List.any_eq_true.2 ⟨_, List.mem_map.2 ⟨_, List.getElem_mem h1, rfl⟩, h2⟩
      rw [this]; simp
  obtain ⟨r, hrr⟩ : ∃ r, ixP (fun e : El => q e.s) l = r := ⟨_, rfl⟩
  rw [hrr] at hc hr
  have HR := Lib.hid hr
  clear hq hf hr hrr
  go_enter Try.func24, Try.ntmps24
  go_wp2_with (go_at_call 53; refine hc.mono ?_; rintro en w5 ⟨rfl, hb5⟩)
  go_ret
  exact ⟨by rw [← HR.out]; rfl, hb5⟩
set_option maxRecDepth 100000 in
set_option maxHeartbeats 2000000 in
theorem ajIxAd {A : Option Addr} {c n B g0 : Nat} {cb : Array Value} {l : List AE} (q : Ad → Bool) (w : World) (hf : RbA w B A l) (hn : l.length = n) (hB : B ≤ w.heap.size) (hz : n ≤ 1000000)
    (eg : ∀ args W, (callFunc g0 args).run Try.prog W = .ok (.enter g0 args) W)
    (hq : ∀ W (e : AE), Below w.heap.size w W → e ∈ l → Calls Try.prog g0 (#[adV e.a e.A e.n e.c] ++ cb) W fun en w' => en = .returned (.bool (q e.a)) ∧ Below W.heap.size W w') :
    Calls Try.prog 47 #[.slice A n c, .func (.func g0) #[] cb] w fun e w' => e = .returned (.int .i64 (ixP (fun e : AE => q e.a) l)) ∧ Below w.heap.size w w' := by
  have HF : Aside _ := hf
  have HQ : Aside _ := hq
  have HN := Lib.hid hn
  clear hf hq hn
  go_enter Try.func47, Try.ntmps47
  go_wp2
  go_loopw [8] (fun v wr => ∃ i : Nat, i ≤ n ∧ v = .int .i64 (i : Nat) ∧ Hid (Below w.heap.size w wr) ∧ Hid (∀ k y, k < i → l[k]? = some y → q y.a = false)) (fun v _ => n - (intOf v).toNat)
  case atStart => exact ⟨0, by omega, rfl, Below.refl _ _, fun k y hk => by omega⟩
  case round =>
    obtain ⟨i, hi, rfl, HB, HA⟩ := hrel
    by_cases hlt : i < n
    · have hltz : (i : Int) < (n : Int) := by omega
      obtain ⟨x, hx⟩ : ∃ x, l[i]? = some x := ⟨_, List.getElem?_eq_getElem (by rw [HN.out]; exact hlt)⟩
      obtain ⟨b, o, rfl, -, hc, -⟩ := (HF.out.below (HB.out.mono hB)).get hx
      have hld := loadK_ae hc
      have hcq := HQ.out wr x HB.out (List.mem_of_getElem? hx)
      obtain ⟨r, hr⟩ : ∃ r, q x.a = r := ⟨_, rfl⟩
      rw [hr] at hcq
      have HX := Lib.hid hx
      have HR := Lib.hid hr
      have HCQ := Lib.hid hcq
      clear hc hx hr hcq
      cases r with
      | true =>
        go_wp2_with (go_at_fn g0; refine HCQ.out.mono ?_; rintro en w5 ⟨rfl, hb5⟩)
        go_ret
        exact ⟨by rw [ixP_at HX.out HR.out HA.out]; rfl, HB.out.trans (hb5.mono HB.out.size)⟩
      | false =>
        go_wp2_with (go_at_fn g0; refine HCQ.out.mono ?_; rintro en w5 ⟨rfl, hb5⟩)
        have HB5 : Hid (Below w.heap.size w w5) := HB.out.trans (hb5.mono HB.out.size)
        have HA5 : Hid (∀ k y, k < i + 1 → l[k]? = some y → q y.a = false) := fun k y hk hy => by
          by_cases e : k = i
          · subst e; rw [HX.out] at hy; cases hy; exact HR.out
          · exact HA.out k y (by omega) hy
        clear hb5
        go_wp2
        go_roundw
        case rel => exact ⟨i + 1, by omega, by go_num, HB5, HA5⟩
        case measure => simp [intOf]; omega
    · have hltz : ¬ (i : Int) < (n : Int) := by omega
      go_wp2
      go_ret
      exact ⟨by rw [ixP_none fun k y hk hy => HA.out k y (by have := HN.out; omega) hy]; rfl, HB.out⟩
end Go.Proofs.Ytchpekidnbdpdaa


/- Layer 21: Adjust's closure walk: its memory. -/
namespace Go.Proofs.Ytchpekidnbdpdaa
open Go.RowKit
/-- A slice, as its address, length, capacity. -/
abbrev SlI := Option Addr × Nat × Nat
abbrev slI (s : SlI) : Value := .slice s.1 s.2.1 s.2.2
/-- The closure. -/
abbrev wkF (bM bO bW : Nat) : Value := .func (.func 26) #[] #[ptV bM, ptV bO, ptV bW]
/-- What the walk reads and never changes: its boxes, the map of who is under whom. -/
structure WkE (W : World) (bM bO bW mb g n c : Nat) (L : List (Nat × SlI)) (o : List Ad) : Prop where
  kM : Bk W bM 54 #[.map (some mb)]
  kO : Bk W bO 23 #[.slice (some ⟨g, 0, none⟩) n c]
  kW : Bk W bW 55 #[wkF bM bO bW]
  map : Mh idA slI W mb L
  rows : ∀ id, Rd W W.heap.size ((mgGet id L).getD (none, 0, 0)).1 ((kids o id).map natV) ∧ ((mgGet id L).getD (none, 0, 0)).2.1 = (kids o id).length ∧ ∀ a, ((mgGet id L).getD (none, 0, 0)).1 = some a → (kids o id) ≠ [] → a.block ≠ g
  nM : bM ≠ g
  nO : bO ≠ g
  nW : bW ≠ g
  nm : mb ≠ g
theorem WkE.grown {W W' : World} {bM bO bW mb g n c : Nat} {L : List (Nat × SlI)} {o : List Ad} (h : WkE W bM bO bW mb g n c L o) (hg : W.grownBy W' (some g)) : WkE W' bM bO bW mb g n c L o := by
  refine ⟨h.kM.grown hg (fun e => h.nM (Option.some.inj e)), h.kO.grown hg (fun e => h.nO (Option.some.inj e)), h.kW.grown hg (fun e => h.nW (Option.some.inj e)), Mh.grown h.map hg (fun e => h.nm (Option.some.inj e)), fun id => ?_, h.nM, h.nO, h.nW, h.nm⟩
  obtain ⟨h1, h2, h3⟩ := h.rows id
  refine ⟨?_, h2, h3⟩
  by_cases hk : kids o id = []
  · rw [hk]; exact Rd.nil
  · exact h1.grownS hg fun a ha e => h3 a ha hk (Option.some.inj e).symm
/-- A world grown by rows below g alone. -/
theorem below_by2 {w w' : World} {row : Option Nat} (h : Below w.heap.size w w') : w.grownBy w' row := below_by h (Nat.le_refl _)
/-- Each of the row is good. -/
theorem mix_good {o : List Ad} (hg : ∀ a ∈ o, AdGood a) {i : Nat} {x : Ad} (h : o[i]? = some x) : AdGood (finA o i x) := by
  rw [finA]
  cases hf : fng o o.length i with
  | none => exact hg x (List.mem_of_getElem? h)
  | some v => exact fng_good hg hf
theorem kid_at {o : List Ad} {id t c : Nat} (h : (kids o id)[t]? = some c) : ∃ x, o[c]? = some x ∧ x.up = id := (mem_kidsTo (List.mem_of_getElem? h)).2
theorem loadAd_shutW (a : Addr) : loadVar 47 a = loadK 47 a := rfl
attribute [local go_sem ↓] loadSp_shutU loadAd_shutW
/-- Whom a walk goes down from. -/
def Pt (o : List Ad) (g id : Nat) (q : List Nat) (V : Nat → Bool) (pv : Value) : Prop :=
  (id = 0 ∧ q = [] ∧ pv = .pointer none) ∨ ∃ j y, o[j]? = some y ∧ y.s.id = id ∧ id ≠ 0 ∧ pth o o.length j = some q ∧ V j = true ∧ pv = .pointer (some ⟨g, j * 14, none⟩)
theorem Pt.hd {o : List Ad} {g id : Nat} {q : List Nat} {V : Nat → Bool} {pv : Value} (h : Pt o g id q V pv) : Hd o id q := by
  rcases h with ⟨h1, h2, -⟩ | ⟨j, y, h1, h2, h3, h4, -, -⟩
  · exact .inl ⟨h1, h2⟩
  · exact .inr ⟨j, y, h1, h2, h3, h4⟩
set_option maxRecDepth 100000 in
set_option maxHeartbeats 8000000 in
theorem ajWalk {bM bO bW mb g n c' base : Nat} {L : List (Nat × SlI)} {o : List Ad} (ho : OneId o) (hnz : ∀ a ∈ o, a.s.id ≠ 0) (hgd : ∀ a ∈ o, AdGood a) (hsh : ∀ a ∈ o, a.shift = 0) (hol : o.length = n) (hz : n ≤ 1000000) :
    ∀ (f id : Nat) (q : List Nat) (V : Nat → Bool) (pv : Value) (W : World) (lj : List AE), o.length < q.length + f → Pt o g id q V pv → Clear o q V →
      WkE W bM bO bW mb g n c' L o → RowA W base (.slice (some ⟨g, 0, none⟩) n c') n lj → lj.map (·.a) = mixA o V →
      Calls Try.prog 26 #[.int .u64 (id : Nat), pv, ptV bM, ptV bO, ptV bW] W fun e w' => e = .returned (.tuple #[]) ∧ W.grownBy w' (some g) ∧
        ∃ lj', RowA w' base (.slice (some ⟨g, 0, none⟩) n c') n lj' ∧ lj'.map (·.a) = mixA o (fun i => V i || subS o q i) := by
  intro f
  induction f with
  | zero => intro id q V pv W lj hq hP; have := hd_len hP.hd; omega
  | succ f ih =>
  intro id q V pv W lj hq hP hCl hE hR hL
  have HHD := Lib.hid hP.hd
  have HP : Aside _ := hP
  have HE : Aside _ := hE
  have HRR : Aside _ := hR
  have HCL : Aside _ := hCl
  have HIH : Aside _ := ih
  have HL0 := Lib.hid hL
  have HGD : Aside _ := hgd
  have HNZ : Aside _ := hnz
  have HSH : Aside _ := hsh
  have HOL := Lib.hid hol
  have HOO : Aside _ := ho
  have HQ := Lib.hid hq
  obtain ⟨hr1, hr2, hr3⟩ := hE.rows id
  have hlk := run_mhLook (z := .slice none 0 0) (e := 42) idRunA Try.underlying54 (by simp [Try.zeroValue42]) hE.map id false
  have hsl : (((mgGet id L).map slI).getD (.slice none 0 0)) = slI ((mgGet id L).getD (none, 0, 0)) := by cases mgGet id L <;> rfl
  rw [hsl] at hlk
  obtain ⟨⟨As, m, cs⟩, hS⟩ : ∃ s, (mgGet id L).getD (none, 0, 0) = s := ⟨_, rfl⟩
  rw [hS] at hlk hr1 hr2 hr3
  have hr2' : m = (kids o id).length := hr2
  have c0 : W.cell? ⟨bM, 0, none⟩ = some (.map (some mb)) := by rw [hE.kM.cell 0]; rfl
  simp only [Bool.false_eq_true, if_false] at hlk
  change _ = Result.ok (Value.slice As m cs) W at hlk
  have HR1 : Hid (Rd W W.heap.size As ((kids o id).map natV)) := hr1
  have HR3 : Hid (∀ a, As = some a → kids o id ≠ [] → a.block ≠ g) := hr3
  have HM2 := Lib.hid hr2'
  clear hP hE hR hCl ih hL hgd hnz hsh hol ho hq hr1 hr2 hr2' hr3 hsl hS
  have hmn : m ≤ 1000000 := by
    rw [HM2.out]
    refine Nat.le_trans (List.length_filter_le _ _) ?_
    rw [List.length_range, HOL.out]
    exact hz
  go_enter Try.func26, Try.ntmps26
  go_wp2_with fail
  go_loopw [14] (fun v wr => ∃ (t : Nat) (lt : List AE), t ≤ m ∧ v = .int .i64 (t : Nat) ∧ Aside (RowA wr base (.slice (some ⟨g, 0, none⟩) n c') n lt) ∧ Hid (lt.map (·.a) = mixA o (wlkV o q ((kids o id).take t) V)) ∧ Hid (W.grownBy wr (some g))) (fun v _ => m - (intOf v).toNat)
  case atStart => exact ⟨0, lj, by omega, rfl, HRR, (by show _ = _; rw [List.take_zero, wlkV_nil]; exact HL0.out), World.grownBy.refl _ _⟩
  case round =>
    obtain ⟨t, lt, htm, rfl, RT, HLT, GT⟩ := hrel
    clear HRR
    by_cases hlt : t < m
    · have hltz : (t : Int) < (m : Int) := by omega
      have HLTT := Lib.hid hlt
      obtain ⟨c, hkc⟩ : ∃ c, (kids o id)[t]? = some c := ⟨_, List.getElem?_eq_getElem (by rw [← HM2.out]; exact hlt)⟩
      obtain ⟨x0, hx0, hup⟩ := kid_at hkc
      have hcn : c < n := by rw [← HOL.out]; exact (List.getElem?_eq_some_iff.1 hx0).1
      have hcz : (c : Int) < (n : Int) := by omega
      have hnx := wlk_next HOO.out HHD.out HCL.out hkc hx0 hup
      have hpc := kid_pth HOO.out HHD.out hx0 hup
      obtain ⟨x, hx⟩ : ∃ x, lt[c]? = some x := ⟨_, List.getElem?_eq_getElem (by rw [RT.out.len]; exact hcn)⟩
      have hxa : x.a = x0 := by
        have h1 := mixA_at (V := wlkV o q ((kids o id).take t) V) hx0
        rw [← HLT.out, List.getElem?_map, hx, hnx.1] at h1
        exact Option.some.inj h1
      have hne : kids o id ≠ [] := fun e => by rw [e] at hkc; cases hkc
      have ET := HE.out.grown GT.out
      have hrd : Rd wr wr.heap.size As ((kids o id).map natV) := HR1.out.grownS GT.out fun a ha e => HR3.out a ha hne (Option.some.inj e).symm
      obtain ⟨b1, o1, hA1, -, hc1⟩ := hrd (by intro e; exact hne (List.map_eq_nil_iff.1 e))
      subst hA1
      have ck : wr.cell? ⟨b1, o1 + t, none⟩ = some (.int .i64 (c : Nat)) := hc1 t _ (by rw [List.getElem?_map, hkc]; rfl)
      have cO : wr.cell? ⟨bO, 0, none⟩ = some (.slice (some ⟨g, 0, none⟩) n c') := by rw [ET.kO.cell 0]; rfl
      have HX0 := Lib.hid hx0
      have HUP := Lib.hid hup
      have HNX := Lib.hid hnx
      have HPC := Lib.hid hpc
      have HX := Lib.hid hx
      have HXA := Lib.hid hxa
      have HKC := Lib.hid hkc
      clear hkc hx0 hup hnx hpc hx hxa hne ET hrd hc1
      rcases HP.out with ⟨h1, h2, h3⟩ | ⟨j, y, h1, h2, h3, h4, h5, h6⟩
      · subst h3
        have hq0 := h2
        have hs0 : x0.shift = 0 := HSH.out x0 (List.mem_of_getElem? HX0.out)
        have hup0 : x0.up = 0 := by rw [HUP.out]; exact h1
        have hgd0 := HGD.out x0 (List.mem_of_getElem? HX0.out)
        have HTM : Hid x0.s.Tim := hgd0.tim
        obtain ⟨sv, hsv⟩ : ∃ sv : Int, sv = 0 := ⟨_, rfl⟩
        have HSV : Hid (-4611686018427387904 ≤ sv ∧ sv ≤ 4611686018427387904) := by show _ ∧ _; omega
        obtain ⟨l2, hl2⟩ : ∃ l2, l2 = lt := ⟨_, rfl⟩
        have HX2 : Hid (l2[c]? = some ⟨⟨x0.s, x0.up, sv, x0.flag⟩, x.A, x.n, x.c⟩) := by
          show _ = _
          rw [hl2, HX.out, hsv, ← hs0, ← HXA.out]
        have HSS : Hid (∀ e, l2.set c e = lt.set c e) := fun e => by rw [hl2]
        have HFIN : Hid (finA o c x0 = ⟨{ x0.s with start := min (max 0 (x0.s.start + sv)) (4611686018427387903 - x0.s.length) }, x0.up, sv, x0.flag⟩) := by
          show _ = _
          have t0 := hgd0.tim.s0; have t1 := hgd0.tim.l0; have t2 := hgd0.tim.sum
          have e1 : min (max 0 (x0.s.start + sv)) (4611686018427387903 - x0.s.length) = x0.s.start := by rw [hsv]; omega
          rw [root_fin HX0.out hup0, e1, hsv]
          have e2 : x0 = ⟨x0.s, x0.up, x0.shift, x0.flag⟩ := rfl
          rw [hs0] at e2
          exact e2
        have HOKF : Hid (∀ v : Int, (⟨{ x0.s with start := v }, x0.up, sv, x0.flag⟩ : Ad).Ok) := fun v => ⟨hgd0.ok.1, hgd0.ok.2.1, by show (-9223372036854775808 : Int) ≤ sv; omega, by show sv ≤ (9223372036854775807 : Int); omega⟩
        obtain ⟨wr0, hwr0⟩ : ∃ w, w = wr := ⟨_, rfl⟩
        have RW : Aside (RowA wr0 base (.slice (some ⟨g, 0, none⟩) n c') n l2) := by rw [hl2, hwr0]; exact RT.out
        have G2 : Hid (W.grownBy wr0 (some g)) := by rw [hwr0]; exact GT.out
        subst hwr0
        clear hl2 hs0 hup0 hgd0 h1 h2 hq0 hsv
        go_wp2_with fail
        have gd : wr0.grownBy wr0.drew (some g) := ⟨rfl, rfl, rfl, Nat.le_refl _, fun _ _ _ => rfl⟩
        have R2 : RowA wr0.drew base (.slice (some ⟨g, 0, none⟩) n c') n l2 := RW.out.bS (below_drewN (Below.refl _ wr0) 1)
        have lsx : (loadK 32 ⟨g, c * 14, none⟩).run Try.prog wr0.drew = .ok (spV x0.s x.A x.n x.c) wr0.drew := by
          have := loadK_aeSp (fun j hj => R2.at HX2.out hj)
          exact this
        have d12 : wr0.drew.cell? ⟨g, c * 14 + 12, none⟩ = some (.int .i64 sv) := R2.at HX2.out (by omega)
        have cnw := ajNow (A := x.A) (n := x.n) (c := x.c) x0.s sv wr0.drew HTM.out HSV.out.1 HSV.out.2
        obtain ⟨v, hv⟩ : ∃ v, min (max 0 (x0.s.start + sv)) (4611686018427387903 - x0.s.length) = v := ⟨_, rfl⟩
        rw [hv] at cnw
        have HV := Lib.hid hv
        have HNW := Lib.hid cnw
        have R2H : Aside _ := R2
        clear cnw hv R2
        go_wp2_with fail
        go_region_with
          (first
            | (go_at_call 28
               refine HNW.out.mono ?_
               rintro en w5 ⟨rfl, hb5⟩
               have R5 := R2H.out.bS hb5
               have c7 : w5.cell? ⟨g, c * 14 + 7, none⟩ = some (.int .i64 x0.s.start) := R5.at HX2.out (by omega)
               have z7 : w5.frozen? ⟨g, c * 14 + 7, none⟩ = false := R5.frz _
               have R5H : Aside _ := R5
               have G5 : Hid (W.grownBy w5 (some g)) := (G2.out.trans gd).trans (below_by2 hb5)
               clear R5 hb5)
            | fail)
        all_goals
          clear lsx d12
          obtain ⟨R6, g6⟩ := R5H.out.put (j := 7) (e' := ⟨⟨{ x0.s with start := v }, x0.up, sv, x0.flag⟩, x.A, x.n, x.c⟩) (u := .int .i64 v) HX2.out (by omega) rfl rfl rfl rfl (HOKF.out v)
          have hfin : (⟨{ x0.s with start := v }, x0.up, sv, x0.flag⟩ : Ad) = finA o c x0 := by rw [HFIN.out, ← HV.out]
          rw [hfin, HSS.out _] at R6
          obtain ⟨W3, hW3⟩ : ∃ W3, w5.setCell ⟨g, c * 14 + 7, none⟩ (.int .i64 v) = W3 := ⟨_, rfl⟩
          rw [hW3] at R6 g6 ⊢
          have R3 := R6
          have G3 := G5.out.trans g6
          clear R6 g6 hfin hW3 c7 z7
          have R3H : Aside _ := R3
          have hx3 : (lt.set c ⟨finA o c x0, x.A, x.n, x.c⟩)[c]? = some ⟨finA o c x0, x.A, x.n, x.c⟩ := List.getElem?_set_self (by rw [RT.out.len]; omega)
          have hi3 : W3.cell? ⟨g, c * 14 + 2, none⟩ = some (.int .u64 x0.s.id) := by
            rw [R3.at hx3 (by omega)]
            show some (Value.int .u64 (finA o c x0).s.id) = _
            rw [(finA_keep HX0.out).1]
          have E3 := HE.out.grown G3
          have cw : W3.cell? ⟨bW, 0, none⟩ = some (wkF bM bO bW) := by rw [E3.kW.cell 0]; rfl
          obtain ⟨d1, d2, d3⟩ := HNX.out
          have hmx : (lt.set c ⟨finA o c x0, x.A, x.n, x.c⟩).map (·.a) = mixA o (fun i => wlkV o q ((kids o id).take t) V i || decide (i = c)) := by
            rw [List.map_set, HLT.out, mixA_set HX0.out]
          have hid0 : x0.s.id ≠ 0 := HNZ.out x0 (List.mem_of_getElem? HX0.out)
          have hgo := HIH.out x0.s.id (q ++ [c]) (fun i => wlkV o q ((kids o id).take t) V i || decide (i = c)) (.pointer (some ⟨g, c * 14, none⟩)) W3.drew _ (by have := HQ.out; rw [List.length_append]; show _ < _ + 1 + f; omega) (.inr ⟨c, x0, HX0.out, rfl, hid0, HPC.out, by simp, rfl⟩) d2 (E3.grown (below_by2 (below_drewN (Below.refl _ W3) 1))) (R3.bS (below_drewN (Below.refl _ W3) 1)) hmx
          have HGO := Lib.hid hgo
          have HD3 : Hid ((fun i => (wlkV o q ((kids o id).take t) V i || decide (i = c)) || subS o (q ++ [c]) i) = wlkV o q ((kids o id).take (t + 1)) V) := d3
          have G3H := Lib.hid G3
          clear hx3 E3 d1 d2 d3 hmx hgo G3 R3 hid0
          go_wp2_with fail
          go_region_with
            (first
              | (go_at_call 26
                 refine HGO.out.mono ?_
                 rintro en w9 ⟨rfl, g9, l9, r9, m9⟩
                 have R9 : Aside (RowA w9 base (.slice (some ⟨g, 0, none⟩) n c') n l9) := r9
                 have M9 : Hid (l9.map (·.a) = mixA o (wlkV o q ((kids o id).take (t + 1)) V)) := by show _ = _; rw [m9, HD3.out]
                 have G9 : Hid (W.grownBy w9 (some g)) := (G3H.out.trans (below_by2 (below_drewN (Below.refl _ W3) 1))).trans g9
                 clear r9 m9 g9)
              | fail)
          all_goals go_wp2
          all_goals go_roundw
          all_goals (have hlt3 := HLTT.out)
          all_goals first
            | exact ⟨t + 1, l9, by omega, by go_num, R9, M9, G9⟩
            | (simp [intOf]; omega)
      · subst h6
        have hgd0 := HGD.out x0 (List.mem_of_getElem? HX0.out)
        have hgy := mix_good HGD.out h1
        have HTM : Hid x0.s.Tim := hgd0.tim
        obtain ⟨yE, hyE⟩ : ∃ e, lt[j]? = some e := ⟨_, List.getElem?_eq_getElem (by rw [RT.out.len, ← HOL.out]; exact (List.getElem?_eq_some_iff.1 h1).1)⟩
        have hya : yE.a = finA o j y := by
          have h7 := mixA_at (V := wlkV o q ((kids o id).take t) V) h1
          rw [← HLT.out, List.getElem?_map, hyE, if_pos (by unfold wlkV; rw [h5]; rfl)] at h7
          exact Option.some.inj h7
        have Rd1 := RT.out.bS (below_drewN (Below.refl _ wr) 1)
        have lax : (loadK 47 ⟨g, c * 14, none⟩).run Try.prog wr.drew = .ok (adV x0 x.A x.n x.c) wr.drew := by
          have := loadK_ae0 (fun j hj => Rd1.at HX.out hj)
          rw [HXA.out] at this
          exact this
        have lay : (loadK 47 ⟨g, j * 14, none⟩).run Try.prog wr.drew = .ok (adV yE.a yE.A yE.n yE.c) wr.drew := loadK_ae0 (fun k hk => Rd1.at hyE hk)
        have csh := ajShift (A1 := x.A) (n1 := x.n) (c1 := x.c) (A2 := yE.A) (n2 := yE.n) (c2 := yE.c) x0 yE.a wr.drew HTM.out (by rw [hya]; exact hgy.tim)
        obtain ⟨sv, hsv⟩ : ∃ sv, shiftS x0.s yE.a = sv := ⟨_, rfl⟩
        have hrg := shiftS_rng (s := x0.s) (p := yE.a) HTM.out (by rw [hya]; exact hgy)
        rw [hsv] at csh hrg
        have HSV : Hid (-4611686018427387904 ≤ sv ∧ sv ≤ 4611686018427387904) := hrg
        have HCS := Lib.hid csh
        have HFIN : Hid (finA o c x0 = ⟨{ x0.s with start := min (max 0 (x0.s.start + sv)) (4611686018427387903 - x0.s.length) }, x0.up, sv, x0.flag⟩) := by
          show _ = _
          rw [kid_fin HOO.out h1 (by rw [h2]; exact h3) h4 HX0.out (by rw [HUP.out, h2]), mvAd, ← hya, hsv]
        have HOKF : Hid (∀ v : Int, (⟨{ x0.s with start := v }, x0.up, sv, x0.flag⟩ : Ad).Ok) := fun v => ⟨hgd0.ok.1, hgd0.ok.2.1, by show (-9223372036854775808 : Int) ≤ sv; omega, by show sv ≤ (9223372036854775807 : Int); omega⟩
        have HOK1 : Hid ((⟨x0.s, x0.up, sv, x0.flag⟩ : Ad).Ok) := HOKF.out x0.s.start
        have RD1 : Aside _ := Rd1
        have gdw : Hid (wr.grownBy wr.drew (some g)) := ⟨rfl, rfl, rfl, Nat.le_refl _, fun _ _ _ => rfl⟩
        clear hgd0 hgy hyE hya csh hsv hrg Rd1 h1 h2 h3 h4 h5
        go_wp2_with fail
        go_region_with
          (first
            | (go_at_call 27
               refine HCS.out.mono ?_
               rintro en w6 ⟨rfl, hb6⟩
               have R6 := RD1.out.bS hb6
               have c12 : w6.cell? ⟨g, c * 14 + 12, none⟩ = some (.int .i64 x.a.shift) := R6.at HX.out (by omega)
               have z12 : w6.frozen? ⟨g, c * 14 + 12, none⟩ = false := R6.frz _
               have R6H : Aside _ := R6
               have G6 : Hid (W.grownBy w6 (some g)) := (GT.out.trans gdw.out).trans (below_by2 hb6)
               clear R6 hb6)
            | fail)
        all_goals
          clear lax lay
          obtain ⟨R7, g7⟩ := R6H.out.put (j := 12) (e' := ⟨⟨x0.s, x0.up, sv, x0.flag⟩, x.A, x.n, x.c⟩) (u := .int .i64 sv) HX.out (by omega) (by unfold aeC adC; rw [HXA.out]; rfl) (by rw [HXA.out]) rfl rfl HOK1.out
          obtain ⟨wr0, hwr0⟩ : ∃ W3, w6.setCell ⟨g, c * 14 + 12, none⟩ (.int .i64 sv) = W3 := ⟨_, rfl⟩
          rw [hwr0] at R7 g7 ⊢
          obtain ⟨l2, hl2⟩ : ∃ l2, lt.set c ⟨⟨x0.s, x0.up, sv, x0.flag⟩, x.A, x.n, x.c⟩ = l2 := ⟨_, rfl⟩
          rw [hl2] at R7
          have HX2 : Hid (l2[c]? = some ⟨⟨x0.s, x0.up, sv, x0.flag⟩, x.A, x.n, x.c⟩) := by
            show _ = _
            rw [← hl2]
            exact List.getElem?_set_self (by rw [RT.out.len]; omega)
          have HSS : Hid (∀ e, l2.set c e = lt.set c e) := fun e => by rw [← hl2, List.set_set]
          have RW : Aside (RowA wr0 base (.slice (some ⟨g, 0, none⟩) n c') n l2) := R7
          have G2 : Hid (W.grownBy wr0 (some g)) := G6.out.trans g7
          clear R7 g7 hwr0 hl2 c12 z12
          have gd : wr0.grownBy wr0.drew (some g) := ⟨rfl, rfl, rfl, Nat.le_refl _, fun _ _ _ => rfl⟩
          have R2 : RowA wr0.drew base (.slice (some ⟨g, 0, none⟩) n c') n l2 := RW.out.bS (below_drewN (Below.refl _ wr0) 1)
          have lsx : (loadK 32 ⟨g, c * 14, none⟩).run Try.prog wr0.drew = .ok (spV x0.s x.A x.n x.c) wr0.drew := by
            have := loadK_aeSp (fun j hj => R2.at HX2.out hj)
            exact this
          have d12 : wr0.drew.cell? ⟨g, c * 14 + 12, none⟩ = some (.int .i64 sv) := R2.at HX2.out (by omega)
          have cnw := ajNow (A := x.A) (n := x.n) (c := x.c) x0.s sv wr0.drew HTM.out HSV.out.1 HSV.out.2
          obtain ⟨v, hv⟩ : ∃ v, min (max 0 (x0.s.start + sv)) (4611686018427387903 - x0.s.length) = v := ⟨_, rfl⟩
          rw [hv] at cnw
          have HV := Lib.hid hv
          have HNW := Lib.hid cnw
          have R2H : Aside _ := R2
          clear cnw hv R2
          go_wp2_with fail
          go_region_with
            (first
              | (go_at_call 28
                 refine HNW.out.mono ?_
                 rintro en w5 ⟨rfl, hb5⟩
                 have R5 := R2H.out.bS hb5
                 have c7 : w5.cell? ⟨g, c * 14 + 7, none⟩ = some (.int .i64 x0.s.start) := R5.at HX2.out (by omega)
                 have z7 : w5.frozen? ⟨g, c * 14 + 7, none⟩ = false := R5.frz _
                 have R5H : Aside _ := R5
                 have G5 : Hid (W.grownBy w5 (some g)) := (G2.out.trans gd).trans (below_by2 hb5)
                 clear R5 hb5)
              | fail)
          all_goals
            clear lsx d12
            obtain ⟨R6, g6⟩ := R5H.out.put (j := 7) (e' := ⟨⟨{ x0.s with start := v }, x0.up, sv, x0.flag⟩, x.A, x.n, x.c⟩) (u := .int .i64 v) HX2.out (by omega) rfl rfl rfl rfl (HOKF.out v)
            have hfin : (⟨{ x0.s with start := v }, x0.up, sv, x0.flag⟩ : Ad) = finA o c x0 := by rw [HFIN.out, ← HV.out]
            rw [hfin, HSS.out _] at R6
            obtain ⟨W3, hW3⟩ : ∃ W3, w5.setCell ⟨g, c * 14 + 7, none⟩ (.int .i64 v) = W3 := ⟨_, rfl⟩
            rw [hW3] at R6 g6 ⊢
            have R3 := R6
            have G3 := G5.out.trans g6
            clear R6 g6 hfin hW3 c7 z7
            have R3H : Aside _ := R3
            have hx3 : (lt.set c ⟨finA o c x0, x.A, x.n, x.c⟩)[c]? = some ⟨finA o c x0, x.A, x.n, x.c⟩ := List.getElem?_set_self (by rw [RT.out.len]; omega)
            have hi3 : W3.cell? ⟨g, c * 14 + 2, none⟩ = some (.int .u64 x0.s.id) := by
              rw [R3.at hx3 (by omega)]
              show some (Value.int .u64 (finA o c x0).s.id) = _
              rw [(finA_keep HX0.out).1]
            have E3 := HE.out.grown G3
            have cw : W3.cell? ⟨bW, 0, none⟩ = some (wkF bM bO bW) := by rw [E3.kW.cell 0]; rfl
            obtain ⟨d1, d2, d3⟩ := HNX.out
            have hmx : (lt.set c ⟨finA o c x0, x.A, x.n, x.c⟩).map (·.a) = mixA o (fun i => wlkV o q ((kids o id).take t) V i || decide (i = c)) := by
              rw [List.map_set, HLT.out, mixA_set HX0.out]
            have hid0 : x0.s.id ≠ 0 := HNZ.out x0 (List.mem_of_getElem? HX0.out)
            have hgo := HIH.out x0.s.id (q ++ [c]) (fun i => wlkV o q ((kids o id).take t) V i || decide (i = c)) (.pointer (some ⟨g, c * 14, none⟩)) W3.drew _ (by have := HQ.out; rw [List.length_append]; show _ < _ + 1 + f; omega) (.inr ⟨c, x0, HX0.out, rfl, hid0, HPC.out, by simp, rfl⟩) d2 (E3.grown (below_by2 (below_drewN (Below.refl _ W3) 1))) (R3.bS (below_drewN (Below.refl _ W3) 1)) hmx
            have HGO := Lib.hid hgo
            have HD3 : Hid ((fun i => (wlkV o q ((kids o id).take t) V i || decide (i = c)) || subS o (q ++ [c]) i) = wlkV o q ((kids o id).take (t + 1)) V) := d3
            have G3H := Lib.hid G3
            clear hx3 E3 d1 d2 d3 hmx hgo G3 R3 hid0
            go_wp2_with fail
            go_region_with
              (first
                | (go_at_call 26
                   refine HGO.out.mono ?_
                   rintro en w9 ⟨rfl, g9, l9, r9, m9⟩
                   have R9 : Aside (RowA w9 base (.slice (some ⟨g, 0, none⟩) n c') n l9) := r9
                   have M9 : Hid (l9.map (·.a) = mixA o (wlkV o q ((kids o id).take (t + 1)) V)) := by show _ = _; rw [m9, HD3.out]
                   have G9 : Hid (W.grownBy w9 (some g)) := (G3H.out.trans (below_by2 (below_drewN (Below.refl _ W3) 1))).trans g9
                   clear r9 m9 g9)
                | fail)
            all_goals go_wp2
            all_goals go_roundw
            all_goals (have hlt3 := HLTT.out)
            all_goals first
              | exact ⟨t + 1, l9, by omega, by go_num, R9, M9, G9⟩
              | (simp [intOf]; omega)
    · have hltz : ¬ (t : Int) < (m : Int) := by omega
      obtain rfl : t = m := by omega
      go_wp2
      go_end0
      refine ⟨rfl, GT.out, lt, RT.out, ?_⟩
      rw [HLT.out, HM2.out, List.take_length, wlk_all HOO.out HHD.out]
end Go.Proofs.Ytchpekidnbdpdaa


/- Layer 21: Adjust's first closure: is a span of another trace than the first? -/
namespace Go.Proofs.Ytchpekidnbdpdaa
open Go.RowKit
theorem loadTr_shutD (a : Addr) : loadVar 29 a = loadK 29 a := rfl
attribute [local go_sem ↓] loadTr_shutD
set_option maxRecDepth 100000 in
set_option maxHeartbeats 2000000 in
theorem ajOther {A A0 : Option Addr} {n c m c0 g1 b o : Nat} (s : Sp) (x : El) (w : World) (hm : 0 < m) (hA : A0 = some ⟨b, o, none⟩) (hk : w.cell? ⟨g1, 0, none⟩ = some (.slice A0 m c0)) (hx : ∀ j, j < 11 → w.cell? ⟨b, o + j, none⟩ = (elC x)[j]?) :
    Calls Try.prog 25 #[spV s A n c, ptV g1] w fun e w' => e = .returned (.bool (!(decide (s.hi = x.s.hi) && decide (s.lo = x.s.lo)))) ∧ Below w.heap.size w w' := by
  have mixed : Try.prog.follows .mixedOrders = true := by kernel_rfl
  subst hA
  have hb0 : Below w.heap.size w (w.alloc (.cells (spC s A n c) 32)) := (Below.refl _ w).alloc (Nat.le_refl _) _
  have bk := Bk.new w 32 (spC s A n c)
  have hlt : ∀ (p : Addr) v, w.cell? p = some v → p.block < w.heap.size := fun p v h => by
    rcases Nat.lt_or_ge p.block w.heap.size with h' | h'
    · exact h'
    · simp [World.cell?, Array.getElem?_eq_none h'] at h
  have k1 : (w.alloc (.cells (spC s A n c) 32)).cell? ⟨g1, 0, none⟩ = some (.slice (some ⟨b, o, none⟩) m c0) := (hb0.cell (p := ⟨g1, 0, none⟩) (hlt _ _ hk)).trans hk
  have kx : ∀ j, j < 11 → (w.alloc (.cells (spC s A n c) 32)).cell? ⟨b, o + j, none⟩ = (elC x)[j]? := fun j hj => by
    obtain ⟨v, hv⟩ : ∃ v, (elC x)[j]? = some v := ⟨_, List.getElem?_eq_getElem (by rw [elC_length]; exact hj)⟩
    exact (hb0.cell (p := ⟨b, o + j, none⟩) (hlt _ _ ((hx j hj).trans hv))).trans (hx j hj)
  obtain ⟨W, hW⟩ : ∃ W, w.alloc (.cells (spC s A n c) 32) = W := ⟨_, rfl⟩
  obtain ⟨g, hg⟩ : ∃ g, w.heap.size = g := ⟨_, rfl⟩
  rw [hW] at k1 kx hb0 bk
  rw [hg] at bk
  have l1 : ∀ q, (loadK 29 ⟨g, 0, none⟩).run Try.prog (W.drewN q) = .ok (.agg #[.int .u64 s.hi, .int .u64 s.lo]) (W.drewN q) := fun q => loadK_tr (e := ⟨s, A, n, c⟩) (fun j hj => by rw [Nat.zero_add, (bk.drewN q).cell j]; simp [elC])
  have l2 : ∀ q, (loadK 29 ⟨b, o, none⟩).run Try.prog (W.drewN q) = .ok (.agg #[.int .u64 x.s.hi, .int .u64 x.s.lo]) (W.drewN q) := fun q => loadK_tr (e := x) (fun j hj => kx j hj)
  have hq := fun Y => neqTrc Y s.hi s.lo x.s.hi x.s.lo
  obtain ⟨r, hr⟩ : ∃ r, (!(decide (s.hi = x.s.hi) && decide (s.lo = x.s.lo))) = r := ⟨_, rfl⟩
  rw [hr]
  simp only [hr] at hq
  have hmz : (0 : Int) < (m : Int) := by omega
  have HW := Lib.hid hW
  have HG := Lib.hid hg
  have HB := Lib.hid hb0
  clear hW hg hb0 bk hk hx kx hlt hr
  go_enter Try.func25, Try.ntmps25
  go_upto_region 1 with fail
  rw [HW.out, HG.out]
  go_quiet (fail)
  go_wp2
  go_ret
  exact ⟨rfl, below_drewN HB.out _⟩
end Go.Proofs.Ytchpekidnbdpdaa

/- Layer 21: Adjust's map of who is under whom, as it is built. -/
namespace Go.Proofs.Ytchpekidnbdpdaa
open Go.RowKit
abbrev rwI (L : List (Nat × SlI)) (id : Nat) : SlI := (mgGet id L).getD (none, 0, 0)
/-- The map behind the first t: each ID's row is the walk's own, no two are one. -/
structure BlM (W : World) (base mb t : Nat) (o : List Ad) (L : List (Nat × SlI)) : Prop where
  map : Mh idA slI W mb L
  rows : ∀ id, W.ownsRow base 3 1 (slI (rwI L id)) (kidsTo o id t).length ((kidsTo o id t).map natV) ∧ (rwI L id).2.1 = (kidsTo o id t).length
  two : ∀ id id' b, id ≠ id' → (slI (rwI L id)).ownBlock = some b → (slI (rwI L id')).ownBlock ≠ some b
theorem BlM.start (w W : World) (base mb : Nat) (o : List Ad) (h : Mh idA slI W mb []) : BlM W base mb 0 o [] :=
  ⟨h, fun id => ⟨World.ownsRow_nil _ _ _ _, rfl⟩, fun id id' b _ h => by cases h⟩
theorem BlM.bS {W W' : World} {base mb t : Nat} {o : List Ad} {L : List (Nat × SlI)} (h : BlM W base mb t o L) (hb : Below W.heap.size W W') : BlM W' base mb t o L :=
  ⟨Mh.bS h.map hb, fun id => ⟨own_of (h.rows id).1 fun g hg => hb.block g (by
    obtain ⟨cur, hc⟩ := own_bk (h.rows id).1 hg
    exact (Array.getElem?_eq_some_iff.1 hc).1), (h.rows id).2⟩, h.two⟩
theorem BlM.step {W W' W'' : World} {base mb t : Nat} {o : List Ad} {L : List (Nat × SlI)} {x : Ad} {s' : SlI} (h : BlM W base mb t o L) (hx : o[t]? = some x)
    (hr : W'.ownsRow base 3 1 (slI s') ((kidsTo o x.up t).length + 1) ((kidsTo o x.up t).map natV ++ [natV t])) (hs : s'.2.1 = (kidsTo o x.up t).length + 1)
    (hg : W.grownBy W' (slI (rwI L x.up)).ownBlock) (hb : (slI s').ownBlock = (slI (rwI L x.up)).ownBlock ∨ (slI s').ownBlock = some W.heap.size)
    (hm : Mh idA slI W'' mb (mgPut x.up s' L)) (hg2 : W'.grownBy W'' (some mb)) : BlM W'' base mb (t + 1) o (mgPut x.up s' L) := by
  have hk : kidsTo o x.up (t + 1) = kidsTo o x.up t ++ [t] := by rw [kidsTo_succ hx, if_pos rfl]
  have hn : ∀ id, id ≠ x.up → kidsTo o id (t + 1) = kidsTo o id t := fun id hne => by rw [kidsTo_succ hx, if_neg (Ne.symm hne), List.append_nil]
  have hrw : ∀ id, rwI (mgPut x.up s' L) id = if id = x.up then s' else rwI L id := fun id => by
    unfold rwI; rw [mgGet_put]; split <;> rfl
  obtain ⟨es, cl, hob⟩ := h.map.obj
  have hlt := h.map.lt
  have hbk : ∀ {id b}, (slI (rwI L id)).ownBlock = some b → b < W.heap.size ∧ b ≠ mb := fun {id b} hq => by
    obtain ⟨cur, hc⟩ := own_bk (h.rows id).1 hq
    refine ⟨(Array.getElem?_eq_some_iff.1 hc).1, fun e => ?_⟩
    subst e
    rw [show W.heap[b]? = _ from hc] at hob
    cases hob
  have hs' : ∀ {b}, (slI s').ownBlock = some b → b ≠ mb := fun {b} hq e => by
    rcases hb with h1 | h1
    · rw [h1] at hq; exact (hbk hq).2 e
    · rw [h1] at hq; have := Option.some.inj hq; omega
  refine ⟨hm, fun id => ?_, fun id id' b hne hq => ?_⟩
  · rw [hrw id]
    by_cases e : id = x.up
    · subst e
      rw [if_pos rfl, hk, List.length_append, List.map_append]
      refine ⟨?_, hs⟩
      refine own_of hr fun b hq => hg2.block b ?_ (fun e1 => hs' hq (Option.some.inj e1))
      obtain ⟨cur, hc⟩ := own_bk hr hq
      exact (Array.getElem?_eq_some_iff.1 hc).1
    · rw [if_neg e, hn id e]
      refine ⟨?_, (h.rows id).2⟩
      refine own_of (h.rows id).1 fun b hq => ?_
      have hb1 := hbk hq
      have h1 := hg.block b hb1.1 (fun e1 => h.two id x.up b e hq e1.symm)
      exact (hg2.block b (Nat.lt_of_lt_of_le hb1.1 hg.size) (fun e1 => hb1.2 (Option.some.inj e1))).trans h1
  · rw [hrw id] at hq
    rw [hrw id']
    by_cases e : id = x.up
    · have e' : ¬ id' = x.up := fun e2 => hne (e.trans e2.symm)
      rw [if_pos e] at hq
      rw [if_neg e']
      intro h2
      rcases hb with h1 | h1
      · rw [h1] at hq; exact h.two x.up id' b (fun e2 => e' e2.symm) hq h2
      · rw [h1] at hq
        have := (hbk h2).1
        have := Option.some.inj hq
        omega
    · rw [if_neg e] at hq
      by_cases e' : id' = x.up
      · rw [if_pos e']
        intro h2
        rcases hb with h1 | h1
        · rw [h1] at h2; exact h.two id x.up b e hq h2
        · rw [h1] at h2
          have := (hbk hq).1
          have := Option.some.inj h2
          omega
      · rw [if_neg e']
        exact h.two id id' b hne hq
end Go.Proofs.Ytchpekidnbdpdaa


/- Layer 21: Adjust. -/
namespace Go.Proofs.Ytchpekidnbdpdaa
open Go.RowKit
attribute [local go_sem ↓] loadSp_shutU loadAd_shutU
theorem run_store_funcA {P : Program} {w : World} {a : Addr} {m : Mode} (f : Fn) (ts : Array Value) (cs : Array Value) : (store a (.func f ts cs) m).run P w = stored P w a (.func f ts cs) m := run_store P w a _ m rfl
attribute [local go_sem] run_store_funcA
theorem intinfoA : (Try.prog.info? 3).map (fun i => (i.zero, i.size, i.bytes)) = some (some (.int .i64 0), 1, 8) := by kernel_rfl
/-- What region 19 reads. -/
def AjR (bM mb b up : Nat) (L : List (Nat × SlI)) (W : World) : Prop :=
  W.cell? ⟨bM, 0, none⟩ = some (.map (some mb)) ∧ W.cell? ⟨b, 11, none⟩ = some (.int .u64 (up : Nat)) ∧
    (Instr.lookup 54 (.map (some mb)) (.int .u64 (up : Nat)) false).run Try.prog W = .ok (.slice (rwI L up).1 (rwI L up).2.1 (rwI L up).2.2) W
theorem AjR.of {bM mb b up : Nat} {L : List (Nat × SlI)} {W : World} (h1 : W.cell? ⟨bM, 0, none⟩ = some (.map (some mb))) (h2 : W.cell? ⟨b, 11, none⟩ = some (.int .u64 (up : Nat))) (h3 : Mh idA slI W mb L) : AjR bM mb b up L W := by
  refine ⟨h1, h2, ?_⟩
  have hlk := run_mhLook (z := .slice none 0 0) (e := 42) idRunA Try.underlying54 (by simp [Try.zeroValue42]) h3 up false
  have hsl : (((mgGet up L).map slI).getD (.slice none 0 0)) = slI ((mgGet up L).getD (none, 0, 0)) := by cases mgGet up L <;> rfl
  rw [hsl] at hlk
  simp only [Bool.false_eq_true, if_false] at hlk
  exact hlk
theorem wp_mhPutA {w : World} {o : Oper} {a : Act} {K : Act → World → Prop} {Q : Exit → Act → World → Prop}
    (m x y : Operand) (hop : o.op = Op.mapUpdate 54 m x y) (b : Nat) (L : List (Nat × SlI)) (hm : a.eval m = .map (some b)) (hb : Mh idA slI w b L) (k : Nat) (v : SlI) (hx : a.eval x = idA k) (hv : a.eval y = slI v)
    (hK : ∀ w', Mh idA slI w' b (mgPut k v L) → w.grownBy w' (some b) → K (a.put o.dst undef) w') : Oper.wp Try.prog o a w K Q := by
  obtain ⟨es, c, hrun, h2⟩ := run_mhPut idRunA Try.underlying54 hb k v
  unfold Oper.wp
  simp [execOp, hop, hm, hx, hv, hrun, Result.andThen]
  exact hK _ h2 (putObj_grown w b _)
set_option maxRecDepth 100000 in
theorem wp_appInt {w : World} {o : Oper} {a : Act} {K : Act → World → Prop} {Q : Exit → Act → World → Prop} (s x : Operand)
    (ho : o.op = .call { callee := .builtin .append, args := #[s, x], argTypes := #[42, 42] })
    (base : Nat) (v : Value) (n : Nat) (xs : List Value) (hs : a.eval s = v) (hown : w.ownsRow base 3 1 v n xs)
    (B : Nat) (A : Option Addr) (m c : Nat) (news : List Value) (hx : a.eval x = .slice A m c) (hl : news.length = m) (hr : Rd w B A news) (h1 : ∀ u ∈ news, u.oneCell' = true)
    (hbytes : n + m ≤ 1048576) (hbase : base ≤ w.heap.size)
    (h : ∀ A' c' w', w'.ownsRow base 3 1 (.slice A' (n + m) c') (n + m) (xs ++ news) → w.grownBy w' v.ownBlock → ((Value.slice A' (n + m) c').ownBlock = v.ownBlock ∨ (Value.slice A' (n + m) c').ownBlock = some w.heap.size) → K (a.put o.dst (.slice A' (n + m) c')) w') :
    Oper.wp Try.prog o a w K Q := by
  obtain ⟨i0, hi0, hz0, hz1, hz2⟩ := info_parts intinfoA
  exact wp_app w s x _ ho base 3 i0 _ 1 8 Try.underlying42 hi0 hz0 hz1 hz2 rfl (by omega) v n xs hs hown B A m c news hx (by omega) hr h1 (by simp only [maxLen]; omega) (by omega) hbase fun A' c' w' e1 e2 e3 _ => h A' c' w' e1 e2 e3
/-- What the loop over the rows keeps: base = where the rows of the map begin. -/
structure AjL (w6 : World) (base bM bO mb g n6 c6 i : Nat) (o : List Ad) (L : List (Nat × SlI)) (W : World) : Prop where
  bl : BlM W base mb i o L
  be : Below w6.heap.size w6 W
  kM : Bk W bM 54 #[.map (some mb)]
  kO : Bk W bO 23 #[.slice (some ⟨g, 0, none⟩) n6 c6]
  sz : base ≤ W.heap.size
theorem AjL.bS {w6 W W' : World} {base bM bO mb g n6 c6 i : Nat} {o : List Ad} {L : List (Nat × SlI)} (h : AjL w6 base bM bO mb g n6 c6 i o L W) (hb : Below W.heap.size W W') : AjL w6 base bM bO mb g n6 c6 i o L W' :=
  ⟨h.bl.bS hb, h.be.trans (hb.mono h.be.size), h.kM.below hb h.kM.lt, h.kO.below hb h.kO.lt, Nat.le_trans h.sz hb.size⟩
theorem below_grown {w W W' : World} {B : Nat} {k : Option Nat} (h : Below B w W) (hg : W.grownBy W' k) (hB : B ≤ W.heap.size) (hk : ∀ b, k = some b → B ≤ b) : Below B w W' :=
  h.trans ⟨hg.os, hg.tape, hg.output, hg.size, fun i hi => hg.block i (by omega) (fun e => by have := hk i e.symm; omega)⟩
theorem AjL.lo {w6 W : World} {base bM bO mb g n6 c6 i : Nat} {o : List Ad} {L : List (Nat × SlI)} (h : AjL w6 base bM bO mb g n6 c6 i o L W) (up b : Nat) (hq : (slI (rwI L up)).ownBlock = some b) : base ≤ b ∧ b < W.heap.size := by
  refine ⟨?_, ?_⟩
  · rcases (h.bl.rows up).1.2 with ⟨e1, _⟩ | ⟨g', cap', cur, hv, hbase, hbb, _⟩
    · rw [show slI (rwI L up) = _ from e1] at hq
      cases hq
    · rw [show slI (rwI L up) = _ from hv] at hq
      cases hq
      exact hbase
  · obtain ⟨cur, hc⟩ := own_bk (h.bl.rows up).1 hq
    exact (Array.getElem?_eq_some_iff.1 hc).1
/-- A round: the row grown, the map put. -/
theorem AjL.step {w6 W W' W'' : World} {base bM bO mb g n6 c6 i : Nat} {o : List Ad} {L : List (Nat × SlI)} {x : Ad} {s' : SlI} (h : AjL w6 base bM bO mb g n6 c6 i o L W) (hx : o[i]? = some x)
    (h1 : w6.heap.size ≤ mb) (h2 : mb < base) (h3 : bM < base) (h4 : bO < base) (h5 : bM ≠ mb) (h6 : bO ≠ mb)
    (hr : W'.ownsRow base 3 1 (slI s') ((kidsTo o x.up i).length + 1) ((kidsTo o x.up i).map natV ++ [natV i])) (hs : s'.2.1 = (kidsTo o x.up i).length + 1)
    (hg : W.grownBy W' (slI (rwI L x.up)).ownBlock) (hb : (slI s').ownBlock = (slI (rwI L x.up)).ownBlock ∨ (slI s').ownBlock = some W.heap.size)
    (hm : Mh idA slI W'' mb (mgPut x.up s' L)) (hg2 : W'.grownBy W'' (some mb)) : AjL w6 base bM bO mb g n6 c6 (i + 1) o (mgPut x.up s' L) W'' := by
  have hbk : ∀ b, (slI (rwI L x.up)).ownBlock = some b → base ≤ b := fun b hq => by
    rcases (h.bl.rows x.up).1.2 with ⟨e1, _⟩ | ⟨g', cap', cur, hv, hbase, hbb, _⟩
    · rw [show slI (rwI L x.up) = _ from e1] at hq
      cases hq
    · rw [show slI (rwI L x.up) = _ from hv] at hq
      cases hq
      exact hbase
  have b1 := below_grown h.be hg h.be.size (fun b hq => by have := hbk b hq; omega)
  refine ⟨h.bl.step hx hr hs hg hb hm hg2, below_grown b1 hg2 b1.size (fun b e => by cases e; exact h1), ?_, ?_, Nat.le_trans h.sz (Nat.le_trans hg.size hg2.size)⟩
  · exact (h.kM.grown hg (fun e => by have := hbk bM e.symm; omega)).grown hg2 (fun e => h5 (Option.some.inj e))
  · exact (h.kO.grown hg (fun e => by have := hbk bO e.symm; omega)).grown hg2 (fun e => h6 (Option.some.inj e))
set_option maxRecDepth 100000 in
set_option maxHeartbeats 8000000 in
theorem ajAdjust {A : Option Addr} {c n B : Nat} {l : List El} (w : World) (hf : RbS w B A l) (hn : l.length = n) (hB : B ≤ w.heap.size) (hnl : n ≤ 100000) (hsm : ∀ e ∈ l, e.n ≤ 1000000) (hu : ∀ e ∈ l, e.s.U64) :
    Calls Try.prog 8 #[.slice A n c] w (AdjPost w (adjS (sps l))) := by
  have hl := sps_length l
  have bk := Bk.new w 34 #[.slice A n c]
  have hb0 : Below w.heap.size w (w.alloc (.cells #[.slice A n c] 34)) := (Below.refl _ w).alloc (Nat.le_refl _) _
  obtain ⟨w0, hw0⟩ : ∃ w0, w.alloc (.cells #[.slice A n c] 34) = w0 := ⟨_, rfl⟩
  obtain ⟨g1, hg1⟩ : ∃ g1, w.heap.size = g1 := ⟨_, rfl⟩
  rw [hw0] at bk hb0
  rw [hg1] at bk
  have c1 : w0.cell? ⟨g1, 0, none⟩ = some (.slice A n c) := by rw [bk.cell 0]; rfl
  have HW0 := Lib.hid hw0
  have HG1 := Lib.hid hg1
  have HB0 := Lib.hid hb0
  by_cases h0 : n = 0
  · have he : adjS (sps l) = ([], 2) := by unfold adjS; rw [if_pos (by rw [hl, hn]; exact h0)]
    rw [he]
    subst h0
    clear hf hn hu he hl hw0 hg1 hb0 bk hsm
    go_enter Try.func8, Try.ntmps8
    go_upto_region 1 with fail
    rw [HW0.out, HG1.out]
    go_wp2
    go_ret2
    exact AdjPost.no HB0.out
  have h0z : ((n : Int) == 0) = false := by simp; omega
  by_cases h1 : 64 < n
  · have he : adjS (sps l) = ([], 3) := by unfold adjS; rw [if_neg (by rw [hl, hn]; exact h0), if_pos (by rw [hl, hn]; omega)]
    rw [he]
    have h1z : (64 : Int) < (n : Int) := by omega
    clear hf hn hu he hl hw0 hg1 hb0 bk hsm
    go_enter Try.func8, Try.ntmps8
    go_upto_region 1 with fail
    rw [HW0.out, HG1.out]
    go_wp2
    go_ret2
    exact AdjPost.no HB0.out
  have h1z : ¬ (64 : Int) < (n : Int) := by omega
  have HN := Lib.hid hn
  have HF : Aside _ := hf.below (hb0.mono hB)
  have HU : Aside _ := hu
  have HSM : Aside _ := hsm
  have BK : Aside _ := bk
  clear hf hn hu hl hw0 hg1 hb0 bk hsm
  go_enter Try.func8, Try.ntmps8
  go_upto_region 1 with fail
  rw [HW0.out, HG1.out]
  go_wp2_with fail
  obtain ⟨R, hR⟩ : ∃ R, adjS (sps l) = R := ⟨_, rfl⟩
  have HR : Hid (R = if spErr (sps l) ≠ 0 then ([], spErr (sps l)) else if oneTr (sps l) = false then ([], 2) else ((ajAll (ups (sps l))).o, 0)) := by
    show R = _
    rw [← hR]
    unfold adjS
    rw [if_neg (by rw [sps_length, HN.out]; exact h0), if_neg (by rw [sps_length, HN.out]; exact h1)]
  go_loopw [22] (fun v wr => ∃ t : Nat, t ≤ n ∧ v = .int .i64 (t : Nat) ∧ Hid (Below w0.heap.size w0 wr) ∧ Hid (spErr (sps l) = spErr ((sps l).drop t))) (fun v _ => n - (intOf v).toNat)
  case atStart => exact ⟨0, by omega, rfl, Below.refl _ _, rfl⟩
  case round =>
    obtain ⟨t, ht, rfl, HBT, HE⟩ := hrel
    by_cases hlt : t < n
    · have hltz : (t : Int) < (n : Int) := by omega
      obtain ⟨x, hx⟩ : ∃ x, l[t]? = some x := ⟨_, List.getElem?_eq_getElem (by rw [HN.out]; exact hlt)⟩
      have hBw : B ≤ w0.heap.size := Nat.le_trans hB HB0.out.size
      obtain ⟨b, o, hA, -, hc, hok⟩ := (HF.out.below (HBT.out.mono hBw)).get hx
      subst hA
      have hld := loadK_el hc
      have bk := Bk.new wr 32 (spC x.s x.A x.n x.c)
      have hls := loadK_sp bk
      have h6 : Below wr.heap.size wr (wr.alloc (.cells (spC x.s x.A x.n x.c) 32)) := (Below.refl _ wr).alloc (Nat.le_refl _) _
      have hBr : B ≤ wr.heap.size := Nat.le_trans hBw HBT.out.size
      have hck := spCheck (c := x.c) x.s _ (hok.below (h6.mono hBr)).rd hok.len (Nat.le_trans hBr h6.size) (by have := hok.max; omega)
      obtain ⟨q, hq⟩ : ∃ q, spChk x.s = q := ⟨_, rfl⟩
      rw [hq] at hck
      have hed := spErr_drop (l := sps l) (sps_get hx)
      rw [hq] at hed
      have HED := Lib.hid hed
      have HCK := Lib.hid hck
      have H6 : Hid (Below w0.heap.size w0 (wr.alloc (.cells (spC x.s x.A x.n x.c) 32))) := HBT.out.trans (h6.mono HBT.out.size)
      clear hc hok bk h6 hq hed hck hx
      by_cases hq0 : q = 0
      · subst hq0
        have HE2 : Hid (spErr (sps l) = spErr ((sps l).drop (t + 1))) := by
          show _ = _
          rw [HE.out, HED.out, if_neg (by simp)]
        go_wp2_with (go_at_call 23; refine HCK.out.mono ?_; rintro en w5 ⟨rfl, hb5⟩)
        have HB5 : Hid (Below w0.heap.size w0 w5) := H6.out.trans (hb5.mono H6.out.size)
        clear hb5 hld hls
        go_wp2
        go_roundw
        case rel => exact ⟨t + 1, by omega, by go_num, HB5, HE2⟩
        case measure => simp [intOf]; omega
      · have hqz : ((q : Int) == 0) = false := by simp; omega
        have HRR : Hid (adjS (sps l) = ([], q)) := by
          show _ = _
          rw [hR, HR.out, HE.out, HED.out, if_pos hq0, if_pos hq0]
        go_wp2_with (go_at_call 23; refine HCK.out.mono ?_; rintro en w5 ⟨rfl, hb5⟩)
        have HB5 : Hid (Below w.heap.size w w5) := HB0.out.trans ((H6.out.trans (hb5.mono H6.out.size)).mono HB0.out.size)
        clear hb5 hld hls
        go_wp2
        go_ret2
        rw [HRR.out]
        exact AdjPost.no HB5.out
    · have hltz : ¬ (t : Int) < (n : Int) := by omega
      obtain rfl : t = n := by omega
      have hse : spErr (sps l) = 0 := by
        rw [HE.out, List.drop_eq_nil_of_le (by rw [sps_length, HN.out]; exact Nat.le_refl _)]; rfl
      have HR2 : Hid (R = if oneTr (sps l) = false then ([], 2) else ((ajAll (ups (sps l))).o, 0)) := by
        show R = _
        rw [HR.out, if_neg (by rw [hse]; simp)]
      have HSE := Lib.hid hse
      obtain ⟨x, hx⟩ : ∃ x, l[0]? = some x := ⟨_, List.getElem?_eq_getElem (by rw [HN.out]; omega)⟩
      have hBw : B ≤ w0.heap.size := Nat.le_trans hB HB0.out.size
      have hfr := HF.out.below (HBT.out.mono hBw)
      obtain ⟨b, o, hA, -, -, -⟩ := hfr.get hx
      have hBr : B ≤ wr.heap.size := Nat.le_trans hBw HBT.out.size
      have bkr := Bk.below BK.out HBT.out (Bk.lt BK.out)
      have c1r : wr.cell? ⟨g1, 0, none⟩ = some (.slice A t c) := by rw [bkr.cell 0]; rfl
      have hone := oneTr_iff (sps_get hx)
      have hhas := ajHasSp (c := c) (g0 := 25) (cb := #[ptV g1]) (fun s => !(decide (s.hi = x.s.hi) && decide (s.lo = x.s.lo))) wr hfr HN.out hBr (by omega) (fun _ _ => rfl) (fun Y e hY _ => ajOther (A0 := A) (m := t) (c0 := c) e.s x Y (by omega) hA ((hY.cell (p := ⟨g1, 0, none⟩) bkr.lt).trans c1r) (fun j hj => by
        obtain ⟨b', o', e', -, hc', -⟩ := (hfr.below (hY.mono hBr)).get hx
        rw [hA] at e'
        cases e'
        have := hc' j hj
        rwa [show o + 0 * 11 + j = o + j by omega] at this))
      have hany : (sps l).any (fun s => !(decide (s.hi = x.s.hi) && decide (s.lo = x.s.lo))) = !oneTr (sps l) := by
        rw [hone, List.all_eq_not_any_not]; simp
      rw [hany] at hhas
      have HH := Lib.hid hhas
      clear hse hhas hany hone hx hfr bkr hA
      cases ho : oneTr (sps l) with
      | false =>
        rw [ho] at HH
        have HRR : Hid (adjS (sps l) = ([], 2)) := by
          show _ = _
          rw [hR, HR2.out, if_pos ho]
        go_wp2_with (go_at_call 24; refine HH.out.mono ?_; rintro en w5 ⟨rfl, hb5⟩)
        have HB5 : Hid (Below w.heap.size w w5) := HB0.out.trans ((HBT.out.trans (hb5.mono HBT.out.size)).mono HB0.out.size)
        clear hb5
        go_wp2
        go_ret2
        rw [HRR.out]
        exact AdjPost.no HB5.out
      | true =>
        rw [ho] at HH
        have HRR : Hid (adjS (sps l) = ((ajAll (ups (sps l))).o, 0)) := by
          show _ = _
          rw [hR, HR2.out, if_neg (by rw [ho]; simp)]
        have HBW : Hid (Below w0.heap.size w0 wr) := HBT.out
        clear hR
        go_wp2_with fail
        refine HH.out.mono ?_
        rintro en w5 ⟨rfl, hb5⟩
        have HB5 : Hid (Below w0.heap.size w0 w5) := HBT.out.trans (hb5.mono HBT.out.size)
        have bk5 := Bk.below BK.out HB5.out (Bk.lt BK.out)
        have c15 : w5.cell? ⟨g1, 0, none⟩ = some (.slice A t c) := by rw [bk5.cell 0]; rfl
        have hup := ajUp (c := c) w5 (HF.out.below (HB5.out.mono hBw)) HN.out (Nat.le_trans hBw HB5.out.size) (by omega) HSM.out (fun s hs => by
          have h1 := uniqTo_mem _ _ s hs
          unfold sps at h1
          obtain ⟨e, he, rfl⟩ := List.mem_map.1 h1
          exact HU.out e he)
        have HUP := Lib.hid hup
        clear hup bk5 hb5 HH c1r
        go_wp2_with fail
        refine HUP.out.mono ?_
        rintro en w6 ⟨A', c6, n6, lj, rfl, hlj, hro6, hb6⟩
        have hne : lj ≠ [] := fun e => by
          subst e
          have h1 := ups_len (sps l)
          rw [← hlj] at h1
          have h2 : (uniq (sps l)) ≠ [] := uniq_ne fun e2 => by
            have h3 := sps_length l
            rw [e2, HN.out] at h3
            simp at h3
            omega
          exact h2 (List.eq_nil_of_length_eq_zero h1.symm)
        have hn6 : 1 ≤ n6 := by
          rw [← hro6.len]
          exact List.length_pos_iff.2 hne
        obtain ⟨g, cap, hv, hg0, hglt⟩ := hro6.own.form (by omega)
        injection hv with hA' hnn hcc
        subst hA' hcc
        have ho6 : (ups (sps l)).length = n6 := by rw [← hlj, List.length_map, hro6.len]
        have hon : n6 ≤ 1000000 := by
          have h1 := ups_len (sps l)
          have h2 := uniqTo_len (sps l) (sps l).length
          rw [sps_length, HN.out] at h2
          unfold uniq at h1
          rw [sps_length, HN.out] at h1
          omega
        obtain ⟨base5, hb5e⟩ : ∃ base5, w5.heap.size = base5 := ⟨_, rfl⟩
        rw [hb5e] at hro6 hg0 hb6
        obtain ⟨o6, ho6e⟩ : ∃ o6, ups (sps l) = o6 := ⟨_, rfl⟩
        have R6 := Lib.hid hro6
        have HB6 : Hid (Below w.heap.size w w6) := HB0.out.trans ((HB5.out.trans (hb6.mono (by rw [← hb5e]; exact HB5.out.size))).mono HB0.out.size)
        have HLJ := Lib.hid hlj
        have HO6 := Lib.hid ho6
        have HO6E := Lib.hid ho6e
        clear hlj hro6 hb6 hne hnn HUP
        have kO : Bk (w6.alloc (.cells #[.slice (some ⟨g, 0, none⟩) n6 c6] 23)) w6.heap.size 23 #[.slice (some ⟨g, 0, none⟩) n6 c6] := Bk.new w6 _ _
        have b7 : Below w6.heap.size w6 (w6.alloc (.cells #[.slice (some ⟨g, 0, none⟩) n6 c6] 23)) := (Below.refl _ _).alloc (Nat.le_refl _) _
        have s7 : (w6.alloc (.cells #[.slice (some ⟨g, 0, none⟩) n6 c6] 23)).heap.size = w6.heap.size + 1 := by simp
        obtain ⟨w7, e7⟩ : ∃ w7, w6.alloc (.cells #[.slice (some ⟨g, 0, none⟩) n6 c6] 23) = w7 := ⟨_, rfl⟩
        obtain ⟨bO, hbO⟩ : ∃ bO, w6.heap.size = bO := ⟨_, rfl⟩
        rw [e7] at kO b7 s7
        rw [hbO] at kO s7
        have E7 := Lib.hid e7
        have HBO := Lib.hid hbO
        have hmm := @run_makeMap Try.prog
        have m9 := (Mh.new (kv := idA) (vv := slI) w7).alloc (.cells #[.map (some w7.heap.size)] 54)
        have kM : Bk ((w7.alloc (.map #[] 0)).alloc (.cells #[.map (some w7.heap.size)] 54)) (w7.heap.size + 1) 54 #[.map (some w7.heap.size)] := by
          have := Bk.new (w7.alloc (.map #[] 0)) 54 #[.map (some w7.heap.size)]
          rwa [World.size_alloc] at this
        have kO9 := (kO.alloc (.map #[] 0)).alloc (.cells #[.map (some w7.heap.size)] 54)
        have b9 := (b7.alloc b7.size (.map #[] 0)).alloc (by rw [World.size_alloc]; have := b7.size; omega) (.cells #[.map (some w7.heap.size)] 54)
        have s9 : ((w7.alloc (.map #[] 0)).alloc (.cells #[.map (some w7.heap.size)] 54)).heap.size = w7.heap.size + 2 := by simp
        obtain ⟨w9, e9⟩ : ∃ w9, (w7.alloc (.map #[] 0)).alloc (.cells #[.map (some w7.heap.size)] 54) = w9 := ⟨_, rfl⟩
        obtain ⟨mb, hmb⟩ : ∃ mb, w7.heap.size = mb := ⟨_, rfl⟩
        rw [e9] at m9 kM kO9 b9 s9
        rw [hmb] at m9 kM s9 s7
        have E9 := Lib.hid e9
        have HMB := Lib.hid hmb
        have J9 : Hid (AjL w6 (mb + 2) (mb + 1) bO mb g n6 c6 0 o6 [] w9) := Lib.hid ⟨BlM.start w9 w9 _ _ _ m9, b9, kM, kO9, by omega⟩
        have cO9 : w9.cell? ⟨bO, 0, none⟩ = some (.slice (some ⟨g, 0, none⟩) n6 c6) := by rw [kO9.cell 0]; rfl
        have S7 := Lib.hid s7
        clear e7 hbO kO b7 s7 m9 kM kO9 b9 s9 e9 hmb
        go_upto_region 15 with fail
        rw [E7.out, HBO.out]
        go_upto_region 16 with fail
        rw [E9.out, HMB.out]
        go_wp2_with fail
        go_loopw [40] (fun v wr => ∃ (i : Nat) (L : List (Nat × SlI)), i ≤ n6 ∧ v = .int .i64 (i : Nat) ∧ Hid (AjL w6 (mb + 2) (mb + 1) bO mb g n6 c6 i o6 L wr)) (fun v _ => n6 - (intOf v).toNat)
        case atStart => exact ⟨0, [], by omega, rfl, J9⟩
        case round =>
          obtain ⟨i, L, hi, rfl, HJ⟩ := hrel
          clear J9 cO9
          by_cases hlt : i < n6
          · have hltz : (i : Int) < (n6 : Int) := by omega
            obtain ⟨x, hx⟩ : ∃ x, lj[i]? = some x := ⟨_, List.getElem?_eq_getElem (by rw [R6.out.len]; exact hlt)⟩
            have hld : (loadK 47 ⟨g, i * 14, none⟩).run Try.prog wr = .ok (adV x.a x.A x.n x.c) wr := by
              obtain ⟨b', o', e', -, hc', -⟩ := (R6.out.bS HJ.out.be).rba.get hx
              cases e'
              have := loadK_ae hc'
              rwa [Nat.zero_add] at this
            have hxo : o6[i]? = some x.a := by rw [← HO6E.out, ← HLJ.out, List.getElem?_map, hx]; rfl
            have bk := Bk.new wr 47 (adC x.a x.A x.n x.c)
            have jB := HJ.out.bS ((Below.refl _ wr).alloc (Nat.le_refl _) (.cells (adC x.a x.A x.n x.c) 47))
            obtain ⟨wB, eB⟩ : ∃ wB, wr.alloc (.cells (adC x.a x.A x.n x.c) 47) = wB := ⟨_, rfl⟩
            obtain ⟨bx, hbx⟩ : ∃ bx, wr.heap.size = bx := ⟨_, rfl⟩
            rw [eB] at bk jB
            rw [hbx] at bk
            have hrb := fun b hq => HJ.out.lo x.a.up b hq
            rw [hbx] at hrb
            have HRB : Hid (∀ b, (slI (rwI L x.a.up)).ownBlock = some b → mb + 2 ≤ b ∧ b < bx) := Lib.hid hrb
            have EB := Lib.hid eB
            have HBX := Lib.hid hbx
            have JB : Hid (AjL w6 (mb + 2) (mb + 1) bO mb g n6 c6 i o6 L wB) := Lib.hid jB
            have BX : Hid (Bk wB bx 47 (adC x.a x.A x.n x.c)) := Lib.hid bk
            have HXO := Lib.hid hxo
            clear hx hxo bk jB eB hbx hrb
            go_upto_region 19 with fail
            rw [EB.out, HBX.out]
            clear hld
            have S0 : AjR (mb + 1) mb bx x.a.up L wB.drew := AjR.of (by rw [JB.out.kM.drew.cell 0]; rfl) (BX.out.drew.cell 11) (Mh.drew JB.out.bl.map)
            refine wp_region_K (k := 10) (S := AjR (mb + 1) mb bx x.a.up L) (by kernel_rfl) S0 (fun hHeld => ?_)
            simp only [List.size_toArray, List.length_cons, List.length_nil, Nat.zero_add, Nat.reduceAdd]
            clear S0
            refine' wpAnyK_take0 (k := 10) (i := 1) ?o1 (by kernel_rfl) (by kernel_rfl) (by kernel_rfl) (by rfl) ?q1 hHeld ?hw1 ?hy1 ?_
            case o1 => (simp only [List.getElem?_toArray, List.getElem?_cons_succ, List.getElem?_cons_zero]; rfl)
            case q1 => exact fun _ _ _ h => h
            case hw1 => rfl
            case hy1 => (intro w; go_simp; try (with_reducible rfl))
            simp only [Act.put, List.setIfInBounds_toArray, List.set_cons_zero, List.set_cons_succ]
            refine' wpAnyK_take0 (k := 10) (i := 4) ?o4 (by kernel_rfl) (by kernel_rfl) (by kernel_rfl) (by rfl) ?q4 hHeld ?hw4 ?hy4 ?_
            case o4 => (simp only [List.getElem?_toArray, List.getElem?_cons_succ, List.getElem?_cons_zero]; rfl)
            case q4 => exact fun _ _ _ h => h
            case hw4 => rfl
            case hy4 => (intro w; go_simp; try (with_reducible rfl))
            simp only [Act.put, List.setIfInBounds_toArray, List.set_cons_zero, List.set_cons_succ]
            refine' wpAnyK_take0 (k := 10) (i := 7) ?o7 (by kernel_rfl) (by kernel_rfl) (by kernel_rfl) (by rfl) ?q7 hHeld ?hw7 ?hy7 ?_
            case o7 => (simp only [List.getElem?_toArray, List.getElem?_cons_succ, List.getElem?_cons_zero]; rfl)
            case q7 => exact fun _ _ _ h => h
            case hw7 => rfl
            case hy7 => (intro w; go_simp; try (with_reducible rfl))
            simp only [Act.put, List.setIfInBounds_toArray, List.set_cons_zero, List.set_cons_succ]
            refine' wpAnyK_take (k := 10) (i := 0) ?o0 (by kernel_rfl) (by kernel_rfl) (by kernel_rfl) (by kernel_rfl) (by kernel_rfl) ?q0 hHeld ?hw0 ?hy0 ?_
            case o0 => (simp only [List.getElem?_toArray, List.getElem?_cons_succ, List.getElem?_cons_zero]; rfl)
            case q0 => exact fun _ _ _ h => h
            case hw0 => rfl
            case hy0 => (intro w hSw; (try unfold AjR at hSw); (try dsimp only at hSw); go_simp; try (with_reducible rfl))
            simp only [Act.put, List.setIfInBounds_toArray, List.set_cons_zero, List.set_cons_succ]
            refine' wpAnyK_take (k := 10) (i := 2) ?o2 (by kernel_rfl) (by kernel_rfl) (by kernel_rfl) (by kernel_rfl) (by kernel_rfl) ?q2 hHeld ?hw2 ?hy2 ?_
            case o2 => (simp only [List.getElem?_toArray, List.getElem?_cons_succ, List.getElem?_cons_zero]; rfl)
            case q2 => exact fun _ _ _ h => h
            case hw2 => rfl
            case hy2 => (intro w hSw; (try unfold AjR at hSw); (try dsimp only at hSw); go_simp; try (with_reducible rfl))
            simp only [Act.put, List.setIfInBounds_toArray, List.set_cons_zero, List.set_cons_succ]
            refine' wpAnyK_take (k := 10) (i := 3) ?o3 (by kernel_rfl) (by kernel_rfl) (by kernel_rfl) (by kernel_rfl) (by kernel_rfl) ?q3 hHeld ?hw3 ?hy3 ?_
            case o3 => (simp only [List.getElem?_toArray, List.getElem?_cons_succ, List.getElem?_cons_zero]; rfl)
            case q3 => exact fun _ _ _ h => h
            case hw3 => rfl
            case hy3 => (intro w hSw; (try unfold AjR at hSw); (try dsimp only at hSw); go_simp; try (with_reducible rfl))
            simp only [Act.put, List.setIfInBounds_toArray, List.set_cons_zero, List.set_cons_succ]
            refine' wpAnyK_take (k := 10) (i := 5) ?o5 (by kernel_rfl) (by kernel_rfl) (by kernel_rfl) (by kernel_rfl) (by kernel_rfl) ?q5 hHeld ?hw5 ?hy5 ?_
            case o5 => (simp only [List.getElem?_toArray, List.getElem?_cons_succ, List.getElem?_cons_zero]; rfl)
            case q5 => exact fun _ _ _ h => h
            case hw5 => rfl
            case hy5 => (intro w hSw; (try unfold AjR at hSw); (try dsimp only at hSw); go_simp; try (with_reducible rfl))
            simp only [Act.put, List.setIfInBounds_toArray, List.set_cons_zero, List.set_cons_succ]
            refine' wpAnyK_take (k := 10) (i := 6) ?o6 (by kernel_rfl) (by kernel_rfl) (by kernel_rfl) (by kernel_rfl) (by kernel_rfl) ?q6 hHeld ?hw6 ?hy6 ?_
            case o6 => (simp only [List.getElem?_toArray, List.getElem?_cons_succ, List.getElem?_cons_zero]; rfl)
            case q6 => exact fun _ _ _ h => h
            case hw6 => rfl
            case hy6 => (intro w hSw; (try unfold AjR at hSw); (try dsimp only at hSw); go_simp; try (with_reducible rfl))
            simp only [Act.put, List.setIfInBounds_toArray, List.set_cons_zero, List.set_cons_succ]
            refine' wpAnyK_step (k := 10) (i := 8) (by kernel_rfl) ?o8 ?hw8 ?_
            case o8 => (simp only [List.getElem?_toArray, List.getElem?_cons_succ, List.getElem?_cons_zero]; rfl)
            case hw8 => rfl
            intro KK hKK
            go_simp
            have JC : Hid (AjL w6 (mb + 2) (mb + 1) bO mb g n6 c6 i o6 L (wB.alloc (.cells #[.int .i64 (i : Nat)] 3)).drew) := Lib.hid (JB.out.bS ((Below.refl _ wB).alloc (Nat.le_refl _) _).drew)
            have BC : Hid (Bk (wB.alloc (.cells #[.int .i64 (i : Nat)] 3)).drew bx 47 (adC x.a x.A x.n x.c)) := Lib.hid (BX.out.alloc _).drew
            have RC : Hid (Rd (wB.alloc (.cells #[.int .i64 (i : Nat)] 3)).drew (wB.heap.size + 1) (some ⟨wB.heap.size, 0, none⟩) [natV i]) := Lib.hid (Rd.drewN (Rd.lit wB #[.int .i64 (i : Nat)] 3) 1)
            have S1 : AjR (mb + 1) mb bx x.a.up L (wB.alloc (.cells #[.int .i64 (i : Nat)] 3)).drew := AjR.of (by rw [JC.out.kM.cell 0]; rfl) (BC.out.cell 11) JC.out.bl.map
            obtain ⟨gB, hgB⟩ : ∃ gB, wB.heap.size = gB := ⟨_, rfl⟩
            obtain ⟨wC, eC⟩ : ∃ wC, (wB.alloc (.cells #[.int .i64 (i : Nat)] 3)).drew = wC := ⟨_, rfl⟩
            have JC : Hid (AjL w6 (mb + 2) (mb + 1) bO mb g n6 c6 i o6 L wC) := by rw [← eC]; exact JC
            have BC : Hid (Bk wC bx 47 (adC x.a x.A x.n x.c)) := by rw [← eC]; exact BC
            have RC : Hid (Rd wC (gB + 1) (some ⟨gB, 0, none⟩) [natV i]) := by rw [← eC, ← hgB]; exact RC
            rw [eC] at S1 ⊢
            rw [hgB]
            clear hHeld
            refine hKK.out _ _ S1 (fun hHeld => ?_)
            clear hKK KK S1
            try simp only [Act.put, List.setIfInBounds_toArray, List.set_cons_zero, List.set_cons_succ]
            refine' wpAnyK_step (k := 10) (i := 9) (by kernel_rfl) ?o9 ?hw9 ?_
            case o9 => (simp only [List.getElem?_toArray, List.getElem?_cons_succ, List.getElem?_cons_zero]; rfl)
            case hw9 => rfl
            intro KK hKK
            refine wp_appInt (.tmp 51) (.tmp 53) (by rfl) (mb + 2) _ (kidsTo o6 x.a.up i).length ((kidsTo o6 x.a.up i).map natV) (by rfl) (JC.out.bl.rows x.a.up).1 (gB + 1) (some ⟨gB, 0, none⟩) 1 1 [natV i] (by rfl) rfl RC.out (fun u hu => by rw [List.mem_singleton.1 hu]; rfl) (by
              have h1 : (kidsTo o6 x.a.up i).length ≤ i := by
                unfold kidsTo
                refine Nat.le_trans (List.length_filter_le _ _) ?_
                rw [List.length_range]; exact Nat.le_refl _
              omega) JC.out.sz ?_
            intro A9 c9 wD hown9 hgr9 hblk9
            have BD : Bk wD bx 47 (adC x.a x.A x.n x.c) := BC.out.grown hgr9 (fun e => by have := HRB.out bx e.symm; omega)
            have kD := JC.out.kM.grown hgr9 (fun e => by have := HRB.out _ e.symm; omega)
            have mD := Mh.grown JC.out.bl.map hgr9 (fun e => by have := HRB.out _ e.symm; omega)
            have S2 : AjR (mb + 1) mb bx x.a.up L wD := AjR.of (by rw [kD.cell 0]; rfl) (BD.cell 11) mD
            clear hHeld
            refine hKK.out _ _ S2 (fun hHeld => ?_)
            clear hKK KK S2
            try simp only [Act.put, List.setIfInBounds_toArray, List.set_cons_zero, List.set_cons_succ]
            refine wpAnyK_cut (by kernel_rfl) (by simp only [List.getElem?_toArray, List.getElem?_cons_succ, List.getElem?_cons_zero]; rfl) (by kernel_rfl) (by kernel_rfl) (by rfl) ?_
            refine wp_mhPutA (.tmp 45) (.tmp 47) (.tmp 54) (by rfl) mb L (by rfl) mD x.a.up (A9, (kidsTo o6 x.a.up i).length + 1, c9) (by rfl) (by rfl) ?_
            intro wE hmE hgE
            have JE : Hid (AjL w6 (mb + 2) (mb + 1) bO mb g n6 c6 (i + 1) o6 (mgPut x.a.up (A9, (kidsTo o6 x.a.up i).length + 1, c9) L) wE) := Lib.hid (JC.out.step HXO.out (by have := S7.out; have := HBO.out; omega) (by omega) (by omega) (by have := S7.out; omega) (by omega) (by have := S7.out; omega) hown9 rfl hgr9 hblk9 hmE hgE)
            clear hmE hgE hown9 hgr9 hblk9 BD kD mD hHeld
            try simp only [Act.put, List.setIfInBounds_toArray, List.set_cons_zero, List.set_cons_succ]
            go_wp2_with fail
            go_roundw
            case rel => exact ⟨i + 1, _, by omega, by go_num, JE⟩
            case measure => simp [intOf]; omega
          · have hltz : ¬ (i : Int) < (n6 : Int) := by omega
            obtain rfl : i = n6 := by omega
            have ck0 := Bk.new wr 55 #[.nilFunc]
            have jW := HJ.out.bS (((Below.refl _ wr).alloc (Nat.le_refl _) (.cells #[.nilFunc] 55)).setCell (p := ⟨wr.heap.size, 0, none⟩) (Nat.le_refl _) (wkF (mb + 1) bO wr.heap.size))
            have kW := ck0.set 0 (wkF (mb + 1) bO wr.heap.size)
            have c0W : (wr.alloc (.cells #[.nilFunc] 55)).cell? ⟨wr.heap.size, 0, none⟩ = some .nilFunc := ck0.cell 0
            have f0W : (wr.alloc (.cells #[.nilFunc] 55)).frozen? ⟨wr.heap.size, 0, none⟩ = false := ck0.frozen 0
            obtain ⟨wA, eA⟩ : ∃ wA, wr.alloc (.cells #[.nilFunc] 55) = wA := ⟨_, rfl⟩
            obtain ⟨bW, hbW⟩ : ∃ bW, wr.heap.size = bW := ⟨_, rfl⟩
            rw [eA, hbW] at jW kW c0W f0W
            obtain ⟨wX, eX⟩ : ∃ wX, wA.setCell ⟨bW, 0, none⟩ (wkF (mb + 1) bO bW) = wX := ⟨_, rfl⟩
            rw [eX] at jW kW
            have kW : Bk wX bW 55 #[wkF (mb + 1) bO bW] := kW
            have hbO6 := HBO.out
            have hs7 := S7.out
            have hszr := HJ.out.sz
            have hspc : spErr (sps l) = 0 := HSE.out
            have hgood : ∀ a ∈ o6, AdGood a ∧ a.s.id ≠ 0 ∧ a.shift = 0 := fun a ha => by
              rw [← HO6E.out] at ha
              obtain ⟨j, y, hy, rfl⟩ := upsTo_mem _ _ a ha
              have hyl : y ∈ sps l := uniqTo_mem _ _ y (List.mem_of_getElem? hy)
              have hp := spChk_parts (spErr_zero hspc y hyl)
              have hyl2 := hyl
              unfold sps at hyl2
              obtain ⟨e, he, rfl⟩ := List.mem_map.1 hyl2
              exact ⟨upOf_good hp.1 (HU.out e he), by rw [upOf_s]; exact hp.2.2, upOf_shift _ _ _⟩
            have hol : o6.length = i := by rw [← HO6E.out]; exact HO6.out
            have hwk : WkE wX (mb + 1) bO bW mb g i c6 L o6 := by
              refine ⟨jW.kM, jW.kO, kW, jW.bl.map, fun id => ?_, by omega, by omega, by omega, by omega⟩
              have hr := jW.bl.rows id
              have ek : kidsTo o6 id i = kids o6 id := by rw [kids, hol]
              rw [ek] at hr
              have h0 := hr.1
              rw [show slI (rwI L id) = .slice (rwI L id).1 (kids o6 id).length (rwI L id).2.2 from by rw [← hr.2]] at h0
              refine ⟨Rd.of_own h0, hr.2, fun a ha _ e => ?_⟩
              have h1 := (jW.lo id a.block (by show (Value.slice (rwI L id).1 _ _).ownBlock = _; rw [show (rwI L id).1 = some a from ha]; rfl)).1
              omega
            have hwalk := ajWalk (by rw [← HO6E.out]; exact ups_oneId _) (fun a ha => (hgood a ha).2.1) (fun a ha => (hgood a ha).1) (fun a ha => (hgood a ha).2.2) hol hon (o6.length + 1) 0 [] (fun _ => false) (.pointer none) wX lj (by show _ < 0 + _; omega) (.inl ⟨rfl, rfl, rfl⟩) (fun _ _ => rfl) hwk (R6.out.bS jW.be) (by rw [mixA_none, ← HO6E.out]; exact HLJ.out)
            have hBX : Below w.heap.size w wX := HB6.out.trans (jW.be.mono HB6.out.size)
            have c11 : wX.cell? ⟨bW, 0, none⟩ = some (wkF (mb + 1) bO bW) := kW.cell 0
            have hfin : (ajAll (ups (sps l))).o = mixA o6 (fun i => (fun _ => false) i || subS o6 [] i) := by
              rw [ajAll_fins (ups_oneId _), HO6E.out]
              exact wlk_top.symm
            have hlenR : (ajAll (ups (sps l))).o.length = i := by rw [hfin, mixA_len]; exact hol
            have HWK := Lib.hid hwalk
            have HKO := Lib.hid jW.kO
            have HBXX := Lib.hid hBX
            have HFIN := Lib.hid hfin
            have HLENR := Lib.hid hlenR
            have EA := Lib.hid eA
            have EX := Lib.hid eX
            have HBW := Lib.hid hbW
            have HSZ : Hid (g < bO ∧ w.heap.size ≤ base5) := Lib.hid ⟨by omega, by have h1 := HB5.out.size; have h2 := HB0.out.size; omega⟩
            clear hs7 hbO6 hszr jW kW eA hbW eX hgood hol hwk hwalk hBX hfin hlenR hspc ck0
            go_upto_region 22 with fail
            rw [EA.out, HBW.out]
            go_upto_region 23 with fail
            rw [EX.out]
            clear c0W f0W
            go_wp2_with fail
            refine HWK.out.mono ?_
            rintro en w20 ⟨rfl, hgr, lj', hro, hmp⟩
            have kO20 := HKO.out.grown hgr (fun e => by have := Option.some.inj e; have := HSZ.out.1; omega)
            have c20 : w20.cell? ⟨bO, 0, none⟩ = some (.slice (some ⟨g, 0, none⟩) i c6) := by rw [kO20.cell 0]; rfl
            have hfinal : AdjPost w (adjS (sps l)) (.returned (.tuple #[.slice (some ⟨g, 0, none⟩) i c6, .int .i64 0])) w20 := by
              rw [HRR.out]
              refine ⟨some ⟨g, 0, none⟩, c6, lj', by rw [HLENR.out]; rfl, by rw [hmp, HFIN.out], hro.rba, below_grown HBXX.out hgr HBXX.out.size (fun b e => by cases e; have := HSZ.out.2; omega), ?_⟩
              rw [HLENR.out]
              obtain ⟨A9, c9, e9, h9, -⟩ := own_form hro.own
              cases e9
              exact h9
            have HFINAL := Lib.hid hfinal
            clear kO20 hgr hro hmp hfinal
            go_wp2
            go_ret2
            exact HFINAL.out
end Go.Proofs.Ytchpekidnbdpdaa

/- Layer 21: Find. -/
namespace Go.Proofs.Ytchpekidnbdpdaa
open Go.RowKit
def storeKF (t : TypeId) (a : Addr) (v : Value) : Sem Unit := storeVar t a v
theorem storeKF_shutS (a : Addr) (v : Value) : storeVar 32 a v = storeKF 32 a v := rfl
theorem storeKF_shutA (a : Addr) (v : Value) : storeVar 47 a v = storeKF 47 a v := rfl
attribute [local go_sem ↓] loadSp_shutU loadAd_shutU storeKF_shutS storeKF_shutA
set_option maxRecDepth 100000 in
set_option maxHeartbeats 2000000 in
theorem ajFind1 {A : Option Addr} {n c g3 : Nat} (a : Ad) (id : Nat) (w : World) (hk : w.cell? ⟨g3, 0, none⟩ = some (.int .u64 id)) :
    Calls Try.prog 48 #[adV a A n c, ptV g3] w fun e w' => e = .returned (.bool (decide (a.s.id = id))) ∧ Below w.heap.size w w' := by
  have hb0 : Below w.heap.size w (w.alloc (.cells (adC a A n c) 47)) := (Below.refl _ w).alloc (Nat.le_refl _) _
  have bk := Bk.new w 47 (adC a A n c)
  have hlt : g3 < w.heap.size := by
    rcases Nat.lt_or_ge g3 w.heap.size with h | h
    · exact h
    · simp [World.cell?, Array.getElem?_eq_none h] at hk
  have k3 := (hb0.cell (p := ⟨g3, 0, none⟩) hlt).trans hk
  have k2 : (w.alloc (.cells (adC a A n c) 47)).cell? ⟨w.heap.size, 2, none⟩ = some (.int .u64 a.s.id) := bk.cell 2
  obtain ⟨W, hW⟩ : ∃ W, w.alloc (.cells (adC a A n c) 47) = W := ⟨_, rfl⟩
  obtain ⟨g, hg⟩ : ∃ g, w.heap.size = g := ⟨_, rfl⟩
  rw [hW] at k2 k3 hb0
  rw [hg] at k2
  obtain ⟨q, hq⟩ : ∃ q, decide (a.s.id = id) = q := ⟨_, rfl⟩
  have he : ((a.s.id : Int) == (id : Int)) = q := by rw [← hq]; by_cases h : a.s.id = id <;> simp [h] <;> omega
  rw [hq]
  have HW := Lib.hid hW
  have HG := Lib.hid hg
  have HB := Lib.hid hb0
  clear hW hg hb0 bk hk hq hlt
  go_enter Try.func48, Try.ntmps48
  go_upto_region 1 with fail
  rw [HW.out, HG.out]
  go_wp2
  all_goals go_ret
  all_goals exact ⟨rfl, HB.out⟩
set_option maxRecDepth 100000 in
theorem loadK_adB {w : World} {b : Nat} {a : Ad} {A : Option Addr} {n c : Nat} (h : Bk w b 47 (adC a A n c)) : (loadK 47 ⟨b, 0, none⟩).run Try.prog w = .ok (adV a A n c) w := loadK_ad h
set_option maxRecDepth 100000 in
theorem loadK_spB {w : World} {b : Nat} {a : Ad} {A : Option Addr} {n c : Nat} (h : Bk w b 47 (adC a A n c)) : (loadK 32 ⟨b, 0, none⟩).run Try.prog w = .ok (spV a.s A n c) w := by
  have := loadK_aeSp (w := w) (b := b) (o := 0) (e := ⟨a, A, n, c⟩) (fun j hj => by rw [Nat.zero_add, h.cell j]; simp [aeC])
  exact this
set_option maxRecDepth 100000 in
theorem storeSp_ad {w : World} {b : Nat} {a : Ad} {A A2 : Option Addr} {n c n2 c2 : Nat} (h : Bk w b 47 (adC a A n c)) :
    ∃ W', (storeKF 32 ⟨b, 0, none⟩ (spV a.s A2 n2 c2)).run Try.prog w = .ok () W' ∧ Bk W' b 47 (adC a A2 n2 c2) ∧ w.grownBy W' (some b) := by
  have h1 := run_storeVar_row (P := Try.prog) w b 0 47 32 (spC a.s A2 n2 c2) (adC a A n c) h (by show 0 + 11 ≤ 14; omega) (fun v hv => by
    have := spC_one a.s A2 n2 c2
    rw [Array.all_eq_true'] at this
    exact this v (by simpa using hv)) (by rfl)
  exact ⟨_, h1, h.row _, only_row b _⟩
set_option maxRecDepth 100000 in
theorem storeAd_ad {w : World} {b : Nat} {old : Array Value} {a : Ad} {A2 : Option Addr} {n2 c2 : Nat} (h : Bk w b 47 old) (ho : old.size = 14) :
    ∃ W', (storeKF 47 ⟨b, 0, none⟩ (adV a A2 n2 c2)).run Try.prog w = .ok () W' ∧ Bk W' b 47 (adC a A2 n2 c2) ∧ w.grownBy W' (some b) := by
  have h1 := run_storeVar_row (P := Try.prog) w b 0 47 47 (adC a A2 n2 c2) old h (by rw [ho]; show 0 + 14 ≤ 14; omega) (fun v hv => by
    have := aeC_one ⟨a, A2, n2, c2⟩ v (by simpa [aeC] using hv)
    exact this) (by rfl)
  refine ⟨_, h1, ?_, only_row b _⟩
  have h2 := h.row (old.toList.take 0 ++ (adC a A2 n2 c2).toList ++ old.toList.drop (0 + (adC a A2 n2 c2).size)).toArray
  have e : (old.toList.take 0 ++ (adC a A2 n2 c2).toList ++ old.toList.drop (0 + (adC a A2 n2 c2).size)).toArray = adC a A2 n2 c2 := by
    rw [List.drop_eq_nil_of_le (by rw [Array.length_toList, ho]; show 14 ≤ 0 + 14; omega)]
    simp
  rw [e] at h2 ⊢
  exact h2
/-- What Find hands back. -/
def FdPost (w : World) (r : Option Ad) (e : Ending) (w' : World) : Prop :=
  Below w.heap.size w w' ∧ match r with
  | none => e = .returned (.tuple #[.agg zadC, .bool false])
  | some a => ∃ A' n' c', e = .returned (.tuple #[adV a A' n' c', .bool true]) ∧ RbT w' w'.heap.size A' a.s.tags ∧ a.s.tags.length = n'
theorem ixP_find (id : Nat) (l : List AE) : (ixP (fun e : AE => decide (e.a.s.id = id)) l = -1 ∧ fndA (l.map (·.a)) id = none) ∨ ∃ (j : Nat) (x : AE), ixP (fun e : AE => decide (e.a.s.id = id)) l = (j : Int) ∧ l[j]? = some x ∧ fndA (l.map (·.a)) id = some x.a := by
  unfold ixP fndA
  rw [List.find?_map]
  cases h : l.findIdx? (fun e : AE => decide (e.a.s.id = id)) with
  | none =>
    left
    refine ⟨rfl, ?_⟩
    have : l.find? ((fun a : Ad => decide (a.s.id = id)) ∘ fun x : AE => x.a) = none := List.find?_eq_none.2 fun x hx => by
      have := List.findIdx?_eq_none_iff.1 h x hx
      simpa using this
    rw [this]; rfl
  | some j =>
    right
    obtain ⟨h1, h2, h3⟩ := List.findIdx?_eq_some_iff_getElem.1 h
    refine ⟨j, l[j], rfl, List.getElem?_eq_getElem h1, ?_⟩
    have : l.find? ((fun a : Ad => decide (a.s.id = id)) ∘ fun x : AE => x.a) = some l[j] := by
      rw [List.find?_eq_some_iff_getElem]
      exact ⟨h2, j, h1, rfl, fun k hk => by simpa using h3 k hk⟩
    rw [this]; rfl
set_option maxRecDepth 100000 in
set_option maxHeartbeats 4000000 in
theorem ajFind {A : Option Addr} {c n B : Nat} {l : List AE} (id : Nat) (w : World) (hf : RbA w B A l) (hn : l.length = n) (hB : B ≤ w.heap.size) (hz : n ≤ 1000000) (hsm : ∀ e ∈ l, e.n ≤ 1000000) :
    Calls Try.prog 22 #[.slice A n c, .int .u64 (id : Nat)] w (FdPost w (fndA (l.map (·.a)) id)) := by
  have hb0 : Below w.heap.size w ((w.alloc (.cells #[.int .u64 (id : Nat)] 27)).alloc (.cells zadC 47)) := ((Below.refl _ w).alloc (Nat.le_refl _) _).alloc (by simp) _
  have bk3 := (Bk.new w 27 #[.int .u64 (id : Nat)]).alloc (.cells zadC 47)
  have bk4 := Bk.new (w.alloc (.cells #[.int .u64 (id : Nat)] 27)) 47 zadC
  rw [World.size_alloc] at bk4
  obtain ⟨W, hW⟩ : ∃ W, (w.alloc (.cells #[.int .u64 (id : Nat)] 27)).alloc (.cells zadC 47) = W := ⟨_, rfl⟩
  obtain ⟨g, hg⟩ : ∃ g, w.heap.size = g := ⟨_, rfl⟩
  rw [hW] at bk3 bk4 hb0
  have hfW := hf.below (hb0.mono hB)
  rw [hg] at bk3 bk4
  have hc := ajIxAd (c := c) (g0 := 48) (cb := #[ptV g]) (fun a => decide (a.s.id = id)) W hfW hn (Nat.le_trans hB hb0.size) hz (fun _ _ => rfl) (fun Y e hY _ => ajFind1 e.a id Y ((hY.cell (p := ⟨g, 0, none⟩) bk3.lt).trans (by rw [bk3.cell 0]; rfl)))
  have HW := Lib.hid hW
  have HG := Lib.hid hg
  have HB := Lib.hid hb0
  have HF := Lib.hid hfW
  have HC := Lib.hid hc
  have HN := Lib.hid hn
  have HSM := Lib.hid hsm
  have BK4 := Lib.hid bk4
  have hgW : Hid (g + 1 < W.heap.size) := bk4.lt
  clear hW hg hb0 hfW hc bk3 bk4 hf hn hsm
  rcases ixP_find id l with ⟨e1, e2⟩ | ⟨j, x, e1, e2, e3⟩
  · rw [e2]
    rw [e1] at HC
    clear e1 e2
    go_enter Try.func22, Try.ntmps22
    go_upto_region 1 with fail
    rw [HW.out, HG.out]
    go_wp2_with fail
    refine HC.out.mono ?_
    rintro en w5 ⟨rfl, hb5⟩
    have b5 := BK4.out.below hb5 hgW.out
    obtain ⟨W6, st, b6, g6⟩ := storeAd_ad (a := ⟨zeroSp, 0, 0, 0⟩) (A2 := none) (n2 := 0) (c2 := 0) b5 rfl
    have st2 : (storeKF 47 ⟨g + 1, 0, none⟩ (.agg zadC)).run Try.prog w5 = .ok () W6 := st
    have HB6 : Hid (Below w.heap.size w W6) := (HB.out.trans (hb5.mono HB.out.size)).trans ⟨g6.os, g6.tape, g6.output, g6.size, fun i hi => g6.block i (by have := hb5.size; have := HB.out.size; omega) (fun e => by have := Option.some.inj e; have := HG.out; omega)⟩
    have B6 : Hid (Bk W6 (g + 1) 47 zadC) := b6
    clear st b5 b6 g6 hb5
    go_wp2
    refine bodyPost_ret (results_cell_row_tmp rfl _ _ (g + 1) 47 zadC _ rfl B6.out Try.underlying47 rfl (by rfl)) rfl ?_
    exact ⟨HB6.out, rfl⟩
  · rw [e3]
    rw [e1] at HC
    have hjn : j < n := by rw [← HN.out]; exact (List.getElem?_eq_some_iff.1 e2).1
    have hjz : (j : Int) < (n : Int) := by omega
    have HX := Lib.hid e2
    obtain ⟨b, o, rfl, hbb, -, hok⟩ := HF.out.get e2
    have hxn := HSM.out x (List.mem_of_getElem? e2)
    have HOK := Lib.hid hok
    clear e1 e2 e3 hok
    go_enter Try.func22, Try.ntmps22
    go_upto_region 1 with fail
    rw [HW.out, HG.out]
    go_wp2_with fail
    refine HC.out.mono ?_
    rintro en w5 ⟨rfl, hb5⟩
    have b5 := BK4.out.below hb5 hgW.out
    obtain ⟨b', o', e', -, hc, hok5⟩ := (HF.out.below (hb5.mono (Nat.le_trans hB HB.out.size))).get HX.out
    cases e'
    have hld := loadK_ae hc
    have bz := Bk.new w5 47 zadC
    have h5z : Below w5.heap.size w5 (w5.alloc (.cells zadC 47)) := (Below.refl _ w5).alloc (Nat.le_refl _) _
    have hB5 : B ≤ w5.heap.size := Nat.le_trans (Nat.le_trans hB HB.out.size) hb5.size
    have b5z := b5.alloc (.cells zadC 47)
    obtain ⟨wz, hwz⟩ : ∃ wz, w5.alloc (.cells zadC 47) = wz := ⟨_, rfl⟩
    obtain ⟨g7, hg7⟩ : ∃ g7, w5.heap.size = g7 := ⟨_, rfl⟩
    have hg17 : g + 1 < g7 := by rw [← hg7]; exact b5.lt
    have hzs : w5.heap.size < wz.heap.size := by rw [← hwz]; simp
    rw [hwz] at bz h5z b5z
    rw [hg7] at bz
    obtain ⟨w7, st7, bk7, gr7⟩ := storeAd_ad (a := x.a) (A2 := x.A) (n2 := x.n) (c2 := x.c) bz rfl
    have h57 : Below w5.heap.size w5 w7 := h5z.trans ⟨gr7.os, gr7.tape, gr7.output, gr7.size, fun i hi => gr7.block i (by omega) (fun e => by have := Option.some.inj e; omega)⟩
    have b57 := b5z.grown gr7 (fun e => by have := Option.some.inj e; omega)
    have hrt := (hok5.below (h57.mono hB5)).rd
    have hB7 : B ≤ w7.heap.size := Nat.le_trans hB5 h57.size
    have hls := loadK_spB bk7
    have hcp := spCopy (c := x.c) x.a.s w7 hrt hok5.len hB7 (by omega)
    have HWZ := Lib.hid hwz
    have HG7 := Lib.hid hg7
    have HCP := Lib.hid hcp
    have HB7 : Hid (Below w.heap.size w w7) := (HB.out.trans (hb5.mono HB.out.size)).trans (h57.mono (Nat.le_trans HB.out.size hb5.size))
    have hl := hok5.len
    clear hc hok5 hwz hg7 hcp hrt b5 hb5 h57 h5z b5z gr7 bz hzs
    go_wp2_with (first | (rw [HWZ.out, HG7.out]) | fail)
    go_wp2_with fail
    refine HCP.out.mono ?_
    rintro en w8 ⟨A2, c2, rfl, hr2, hb2, -, hlo2, -⟩
    have bk8 := bk7.below hb2 bk7.lt
    have b8 := b57.below hb2 b57.lt
    obtain ⟨w9, st9, b9, g9⟩ := storeSp_ad (A2 := A2) (n2 := x.n) (c2 := c2) bk8
    have b49 := b8.grown g9 (fun e => by have := Option.some.inj e; omega)
    have hl9 := loadK_adB b9
    obtain ⟨w10, st10, b10, g10⟩ := storeAd_ad (a := x.a) (A2 := A2) (n2 := x.n) (c2 := c2) b49 rfl
    have hl7 := bk7.lt
    have h8 := hb2.size
    have hr9 : RbT w9 w9.heap.size A2 x.a.s.tags := Rd.grownS hr2 g9 fun a ha e => by have := hlo2 a ha; have := Option.some.inj e; omega
    have hr10 : RbT w10 w10.heap.size A2 x.a.s.tags := Rd.grownS hr9 g10 fun a ha e => by have := hlo2 a ha; have := Option.some.inj e; omega
    have HBX : Hid (Below w.heap.size w w10) := by
      have q := HB7.out.trans (hb2.mono HB7.out.size)
      have s1 := q.size
      have s9 := g9.size
      have s0 := HB7.out.size
      have hgg := HG.out
      have hbs := HB.out.size
      exact (q.trans ⟨g9.os, g9.tape, g9.output, g9.size, fun i hi => g9.block i (by omega) (fun e => by have := Option.some.inj e; omega)⟩).trans ⟨g10.os, g10.tape, g10.output, g10.size, fun i hi => g10.block i (by omega) (fun e => by have := Option.some.inj e; omega)⟩
    have HR10 := Lib.hid hr10
    have B10 := Lib.hid b10
    clear hr2 hr9 hr10 hb2 hlo2 b10 b49 b9 bk8 b8 bk7 b57 g9 g10 h8 hl7 hls st7
    go_wp2
    refine bodyPost_ret (results_cell_row_tmp rfl _ _ (g + 1) 47 (adC x.a A2 x.n c2) _ rfl B10.out Try.underlying47 rfl (by rfl)) rfl ?_
    exact ⟨HBX.out, A2, x.n, c2, rfl, HR10.out, hl⟩
end Go.Proofs.Ytchpekidnbdpdaa


/- Layer 21: what each law asks first: 'lives' answers true. -/
namespace Go.Proofs.Ytchpekidnbdpdaa
open Go.RowKit
/-- The law's span. -/
def lwS (id parent : Nat) (service : ByteArray) (start length : Int) : Sp := ⟨0, 1, id, parent, service, ⟨#[120]⟩, 0, start, length, false, []⟩
def lwE (id parent : Nat) (service : ByteArray) (start length : Int) : El := ⟨lwS id parent service start length, none, 0, 0⟩
abbrev lwC (id parent : Nat) (service : ByteArray) (start length : Int) : Array Value := spC (lwS id parent service start length) none 0 0
set_option maxRecDepth 100000 in
theorem lawSp21 (id parent : Nat) (service : ByteArray) (start length : Int) (w : World) :
    Calls Try.prog 9 #[.int .u64 id, .int .u64 parent, .string service, .int .i64 start, .int .i64 length] w fun en w' => en = .returned (spV (lwS id parent service start length) none 0 0) ∧ Below w.heap.size w w' := by
  go_enter Try.func9, Try.ntmps9
  go_wp2
  refine bodyPost_ret (results_cell_row rfl _ _ w.heap.size 32 (lwC id parent service start length) (0, 0) _ rfl ?_ Try.underlying32 rfl ?_) rfl ?_
  · show (w.alloc _).heap[w.heap.size]? = _
    rw [heap_alloc_new]
    rfl
  · rfl
  · exact ⟨rfl, (Below.refl _ w).alloc (Nat.le_refl _) _⟩
set_option maxRecDepth 100000 in
/-- Find in what Adjust handed back: an 'is' that is true. -/
theorem lawIs {A : Option Addr} {c n B : Nat} {l : List AE} {a : Ad} (id : Nat) (w : World) (hf : RbA w B A l) (hn : l.length = n) (hB : B ≤ w.heap.size) (hz : n ≤ 1000000) (hsm : ∀ e ∈ l, e.n ≤ 1000000) (h : fndA (l.map (·.a)) id = some a) :
    Calls Try.prog 10 #[.slice A n c, .int .u64 (id : Nat), .int .i64 a.s.start, .int .i64 a.shift, .int .u64 (a.up : Nat), .int .i64 a.flag] w fun en w' => en = .returned (.bool true) ∧ Below w.heap.size w w' := by
  have hc := ajFind (c := c) id w hf hn hB hz hsm
  rw [h] at hc
  have HC := Lib.hid hc
  clear hc hf hn hsm h
  go_enter Try.func10, Try.ntmps10
  go_wp2_with fail
  refine HC.out.mono ?_
  rintro en w5 ⟨hb5, A', n', c', rfl, hrt, hln⟩
  have bk := Bk.new w5 47 (adC a A' n' c')
  have k7 : (w5.alloc (.cells (adC a A' n' c') 47)).cell? ⟨w5.heap.size, 7, none⟩ = some (.int .i64 a.s.start) := bk.cell 7
  have k12 : (w5.alloc (.cells (adC a A' n' c') 47)).cell? ⟨w5.heap.size, 12, none⟩ = some (.int .i64 a.shift) := bk.cell 12
  have k11 : (w5.alloc (.cells (adC a A' n' c') 47)).cell? ⟨w5.heap.size, 11, none⟩ = some (.int .u64 a.up) := bk.cell 11
  have k13 : (w5.alloc (.cells (adC a A' n' c') 47)).cell? ⟨w5.heap.size, 13, none⟩ = some (.int .i64 a.flag) := bk.cell 13
  have hal := hb5.alloc hb5.size (.cells (adC a A' n' c') 47)
  have HAL := Lib.hid hal
  clear bk hal hrt hln hb5
  go_wp2
  go_ret
  exact ⟨rfl, HAL.out⟩
/-- Some spans written out. -/
theorem lw_rbs {w : World} {B : Nat} {A : Option Addr} {l : List El} (h : Rd w B A (els l)) (hl : ∀ e ∈ l, e.s.tags = [] ∧ e.n = 0) : RbS w B A l :=
  ⟨h, fun e he => ⟨by rw [(hl e he).1]; exact Rd.nil, by rw [(hl e he).1, (hl e he).2]; rfl, by rw [(hl e he).2]; omega⟩⟩
def lw1 : List El := [lwE 1 0 ⟨#[97]⟩ 10 10, lwE 2 1 ⟨#[98]⟩ 0 4]
/-- What Adjust makes of spans without tags. -/
theorem adj_small {l : List El} {r : List AE} (h : r.map (·.a) = (adjS (sps l)).1) (hk : ∀ e ∈ r, e.a.s.tags.length = e.n) (hd : (adjS (sps l)).1.all (fun a => decide (a.s.tags.length ≤ 1000000)) = true) : ∀ e ∈ r, e.n ≤ 1000000 := fun e he => by
  have h1 : e.a ∈ (adjS (sps l)).1 := by rw [← h]; exact List.mem_map_of_mem he
  have h2 := of_decide_eq_true (List.all_eq_true.1 hd e.a h1)
  rw [← hk e he]
  exact h2
theorem lw1_ok : (adjS (sps lw1)).2 = 0 ∧ (adjS (sps lw1)).1.length = 2 ∧ fndA (adjS (sps lw1)).1 2 = some ⟨lwS 2 1 ⟨#[98]⟩ 13 4, 1, 13, 0⟩ ∧ (adjS (sps lw1)).1.all (fun a => decide (a.s.tags.length ≤ 1000000)) = true := by decide +kernel
theorem lwU {l : List El} (h : l.all (fun e => decide (e.s.hi < 18446744073709551616) && decide (e.s.lo < 18446744073709551616) && decide (e.s.id < 18446744073709551616) && decide (e.s.parent < 18446744073709551616) && decide (e.s.tags = []) && decide (e.n = 0)) = true) : ∀ e ∈ l, e.s.U64 ∧ e.s.tags = [] ∧ e.n = 0 := fun e he => by
  have := List.all_eq_true.1 h e he
  simp only [Bool.and_eq_true, decide_eq_true_eq] at this
  obtain ⟨⟨⟨⟨⟨h1, h2⟩, h3⟩, h4⟩, h5⟩, h6⟩ := this
  exact ⟨⟨h1, h2, h3, h4⟩, h5, h6⟩
theorem lw1_u : lw1.all (fun e => decide (e.s.hi < 18446744073709551616) && decide (e.s.lo < 18446744073709551616) && decide (e.s.id < 18446744073709551616) && decide (e.s.parent < 18446744073709551616) && decide (e.s.tags = []) && decide (e.n = 0)) = true := by decide +kernel
/-- Adjust of spans that a law wrote out. -/
theorem lwAdjust {A : Option Addr} {c n B : Nat} {l : List El} (w : World) (h : Rd w B A (els l)) (hn : l.length = n) (hB : B ≤ w.heap.size) (hnl : n ≤ 100)
    (hu : l.all (fun e => decide (e.s.hi < 18446744073709551616) && decide (e.s.lo < 18446744073709551616) && decide (e.s.id < 18446744073709551616) && decide (e.s.parent < 18446744073709551616) && decide (e.s.tags = []) && decide (e.n = 0)) = true)
    (hd : (adjS (sps l)).1.all (fun a => decide (a.s.tags.length ≤ 1000000)) = true) :
    Calls Try.prog 8 #[.slice A n c] w fun e w' => ∃ A' c' l', e = .returned (.tuple #[.slice A' (adjS (sps l)).1.length c', .int .i64 (adjS (sps l)).2]) ∧ l'.map (·.a) = (adjS (sps l)).1 ∧ RbA w' w'.heap.size A' l' ∧ (∀ e ∈ l', e.n ≤ 1000000) ∧ Below w.heap.size w w' :=
  (ajAdjust (c := c) w (lw_rbs h fun e he => (lwU hu e he).2) hn hB (by omega) (fun e he => by rw [(lwU hu e he).2.2]; omega) fun e he => (lwU hu e he).1).mono fun e w' hp => by
    obtain ⟨A', c', l', h1, h2, h3, h4, h5⟩ := hp
    exact ⟨A', c', l', h1, h2, h3, adj_small h2 (fun e he => (h3.ok e he).len) hd, h4⟩
set_option maxRecDepth 100000 in
set_option maxHeartbeats 4000000 in
theorem ajLives (w : World) : Calls Try.prog 7 #[] w fun en w' => en = .returned (.bool true) ∧ Below w.heap.size w w' := by
  go_enter Try.func7, Try.ntmps7
  go_wp2_with fail
  refine (lawSp21 1 0 ⟨#[97]⟩ 10 10 w).mono ?_
  rintro e w1 ⟨rfl, hb1⟩
  go_wp2_with fail
  refine (lawSp21 2 1 ⟨#[98]⟩ 0 4 w1).mono ?_
  rintro e w2 ⟨rfl, hb2⟩
  have hb02 := hb1.trans (hb2.mono hb1.size)
  have hr : Rd (w2.alloc (.cells (lwC 1 0 ⟨#[97]⟩ 10 10 ++ lwC 2 1 ⟨#[98]⟩ 0 4) 32)) (w2.heap.size + 1) (some ⟨w2.heap.size, 0, none⟩) (els lw1) := Rd.lit w2 (lwC 1 0 ⟨#[97]⟩ 10 10 ++ lwC 2 1 ⟨#[98]⟩ 0 4) 32
  have hal := hb02.alloc hb02.size (.cells (lwC 1 0 ⟨#[97]⟩ 10 10 ++ lwC 2 1 ⟨#[98]⟩ 0 4) 32)
  have hc := lwAdjust (c := 2) _ hr (n := 2) rfl (by simp) (by omega) lw1_u lw1_ok.2.2.2
  rw [lw1_ok.1, lw1_ok.2.1] at hc
  have HC := Lib.hid hc
  have HAL := Lib.hid hal
  clear hr hal hc hb1 hb2 hb02
  go_wp2_with fail
  refine HC.out.mono ?_
  rintro e w3 ⟨A', c', l', rfl, hl', hr3, hs3, hb3⟩
  have hb03 := HAL.out.trans (hb3.mono HAL.out.size)
  have hnil := ajAdjust (A := none) (c := 0) (n := 0) (B := w3.heap.size) (l := []) w3 RbS.nil rfl (Nat.le_refl _) (by omega) (fun e h => by cases h) (fun e h => by cases h)
  rw [show adjS (sps []) = ([], 2) from rfl] at hnil
  have HNIL := Lib.hid hnil
  have HR3 := Lib.hid hr3
  have HS3 := Lib.hid hs3
  have HL := Lib.hid hl'
  have HB03 := Lib.hid hb03
  clear hnil hr3 hs3 hl' hb03 hb3 HC HAL
  go_wp2_with fail
  refine HNIL.out.mono ?_
  rintro e w4 ⟨A4, c4, l4, rfl, -, -, hb4, -⟩
  have hlen : l'.length = 2 := by have := congrArg List.length HL.out; rw [List.length_map, lw1_ok.2.1] at this; exact this
  have hi := lawIs (c := c') 2 w4 (HR3.out.below hb4) hlen hb4.size (by omega) HS3.out (a := ⟨lwS 2 1 ⟨#[98]⟩ 13 4, 1, 13, 0⟩) (by rw [HL.out]; exact lw1_ok.2.2.1)
  have HI := Lib.hid hi
  have HB4 : Hid (Below w.heap.size w w4) := HB03.out.trans (hb4.mono HB03.out.size)
  clear hi hlen hb4 HNIL
  go_wp2_with fail
  refine HI.out.mono ?_
  rintro e w5 ⟨rfl, hb5⟩
  have HB5 : Hid (Below w.heap.size w w5) := HB4.out.trans (hb5.mono HB4.out.size)
  clear hb5
  go_wp2
  go_ret
  exact ⟨rfl, HB5.out⟩
end Go.Proofs.Ytchpekidnbdpdaa
