/- Make: the filter of some keys. -/
import Derived.Test.YtccpjjpceokodaaMake0
import Derived.Test.YtccpjjpceokodaaRound
namespace Go.Proofs.Ytccpjjpceokodaa
open Go.RowKit Go.Shelf
attribute [local go_sem] Oper.semAt_some

theorem shift_pw {x : Int} (hx : 0 ≤ x) : Op.shift .shl .u8 1 .i64 (x.tmod 8) = pure (.int .u8 (pw x)) := by
  rw [Int.tmod_eq_emod_of_nonneg hx, shift_shl _ _ _ _ (by omega) (by simp only [IntKind.bits]; omega)]
  have h : (x % 8).toNat = 0 ∨ (x % 8).toNat = 1 ∨ (x % 8).toNat = 2 ∨ (x % 8).toNat = 3 ∨ (x % 8).toNat = 4 ∨ (x % 8).toNat = 5 ∨ (x % 8).toNat = 6 ∨ (x % 8).toNat = 7 := by omega
  unfold pw
  rcases h with h | h | h | h | h | h | h | h <;> rw [h] <;> rfl
theorem run_make_byte (n8 : Nat) (h : n8 ≤ 1048576) (w : World) : (Instr.makeSlice 25 (.int .i64 (n8 : Int)) (.int .i64 ((n8 : Int) + 1))).run Try.prog w = .ok (.slice (some ⟨w.heap.size, 0, none⟩) n8 (n8 + 1)) (w.alloc (.cells (madeCells #[Value.int .u8 0] (n8 + 1)) 5)) := by
  obtain ⟨i, hi, hz0, hz1, hz2⟩ := info_parts byteinfo
  have h1 := run_make (P := Try.prog) w 25 5 i (.int .u8 0) Try.underlying25 hi hz0 .i64 .i64 n8 (n8 + 1) (by omega) (by omega) (by rw [hz2]; omega) (by omega)
  rw [h1, hz1, show ((n8 : Int) + 1).toNat = n8 + 1 from by omega, Int.toNat_natCast, Nat.mul_one]
  rfl
theorem ownsRow_made {base : Nat} {w : World} {t : TypeId} {n cap : Nat} {xs : List Value} (hn : n ≤ cap) (hc : cap ≤ maxLen) {cs : Array Value} (hs : cs.size = cap) (hl : xs.length = n) (hx : cs.toList.take n = xs) (hb : base ≤ w.heap.size) :
    (w.alloc (.cells cs t)).ownsRow base t 1 (.slice (some ⟨w.heap.size, 0, none⟩) n cap) n xs :=
  ⟨by simpa using hl, .inr ⟨w.heap.size, cap, cs, rfl, hb, heap_alloc_new w _, hn, hc, by simpa using hs, by simpa using hx⟩⟩

/-- The marks that ranges over a function have left, their blocks empty and shut but for the marks' own word. -/
def mark (D : Nat) : Deferred := { target := .collected D, args := #[] }
def Marks (lo : Nat) (W : World) (Ds : List Nat) : Prop := Ds.Nodup ∧ ∀ D ∈ Ds, lo ≤ D ∧ W.heap[D]? = some (.deferred (some []))
theorem Marks.nil (lo : Nat) (W : World) : Marks lo W [] := ⟨List.nodup_nil, fun D h => by cases h⟩
theorem Marks.kept {lo : Nat} {W W' : World} {Ds : List Nat} {row : Option Nat} (h : Marks lo W Ds) (hg : W.grownBy W' row) (hr : ∀ r, row = some r → r ∉ Ds) : Marks lo W' Ds :=
  ⟨h.1, fun D hD => ⟨(h.2 D hD).1, (hg.block D (Array.getElem?_eq_some_iff.1 (h.2 D hD).2).1 (fun e => hr D e.symm hD)).trans (h.2 D hD).2⟩⟩
theorem Marks.lt {lo : Nat} {W : World} {Ds : List Nat} (h : Marks lo W Ds) {D : Nat} (hD : D ∈ Ds) : D < W.heap.size := (Array.getElem?_eq_some_iff.1 (h.2 D hD).2).1
theorem Marks.cons {lo B D : Nat} {W : World} {Ds : List Nat} (h : Marks lo W Ds) (hB : ∀ D ∈ Ds, D < B) (hlo : lo ≤ B) (hD : B ≤ D) (hk : W.heap[D]? = some (.deferred (some []))) : Marks lo W (D :: Ds) :=
  ⟨List.nodup_cons.2 ⟨fun hm => by have := hB D hm; omega, h.1⟩, fun D' hD' => by
    rcases List.mem_cons.1 hD' with rfl | h'
    · exact ⟨by omega, hk⟩
    · exact h.2 D' h'⟩
theorem marks_own {β : Type} (lo B : Nat) (Ds : List Nat) (hB : ∀ D ∈ Ds, D < B) : OwnFrom B (fun (_ : β) W => Marks lo W Ds) := fun s W W' row hs hg hr =>
  hs.kept hg (fun r e hm => by have := hB r hm; have := (hr r e).1; omega)
theorem leaves_marks {P : Program} {F : Fence} {n : Nat} {fn : Func} {tmps : Array Value} {R : Ending → World → Prop} {lo : Nat} (K : World → Prop)
    (hK : ∀ (W : World) (D : Nat), lo ≤ D → W.heap[D]? = some (.deferred (some [])) → K W → K (W.putObj D (.deferred none))) (h : ∀ W, K W → LeavesIn F n P fn tmps R [] .returning W) :
    ∀ (Ds : List Nat) (W : World), Marks lo W Ds → K W → LeavesInM F n P fn tmps R (Ds.map mark) .returning W := by
  intro Ds
  induction Ds with
  | nil => intro W _ hk; exact h W hk
  | cons D Ds ih =>
    intro W hm hk
    obtain ⟨hlo, hd⟩ := hm.2 D (List.mem_cons_self ..)
    refine ⟨by simp, .inl ⟨D, _, rfl, run_takeDeferred hd, ?_⟩⟩
    refine ih _ ⟨(List.nodup_cons.1 hm.1).2, fun D' hD' => ?_⟩ (hK W D hlo hd hk)
    have hne : D' ≠ D := fun e => (List.nodup_cons.1 hm.1).1 (by rw [← e]; exact hD')
    have := hm.2 D' (List.mem_cons_of_mem _ hD')
    exact ⟨this.1, (World.putObj_heap_other hne).trans this.2⟩

set_option maxHeartbeats 2000000 in
theorem bloomMake1 {A : Option Addr} {c n B n8 k : Nat} {keys : List (List Int)} {d : Int} (w : World) (hf : RbM w B A keys) (hkb : ∀ z ∈ keys, Byt z ∧ z.length ≤ maxLen) (hn : keys.length = n) (hB : B ≤ w.heap.size) (hd : (Lit.int .i64 d).wf = true)
    (h80 : 8 ≤ n8) (h81 : n8 ≤ 1048576) (hk0 : 1 ≤ k) (hk1 : k ≤ 30) (hbits : bitsOf n d = ((n8 : Int) * 8, (k : Int), 0)) (hnl : n ≤ 8388608) :
    Calls Try.prog 7 #[.slice A n c, .int .i64 d] w (RetNew2 5 1 w (n8 + 1) (bv (filterOf n8 k keys)) (.int .i64 0) (· ≠ none)) := by
  have hmk := run_make_byte n8 h81
  have HB := Lib.hid hbits
  have HF := Lib.hid hf
  have HN := Lib.hid hn
  clear hbits hn hf
  have hdiv : (n8 : Int) * 8 / 8 = n8 := by omega
  refine (callsIn_wide (n := 4)).1 ?_
  refine callsIn_of_wp_marks Try.func7 rfl trivial ?_ rfl
  simp only [Try.ntmps7, List.size_toArray, List.length_cons, List.length_nil, Nat.reduceAdd, Nat.reduceSub, Array.replicate_succ, Array.replicate_zero, List.push_toArray, List.append_toArray, List.nil_append, List.cons_append]
  gi_wp2_with (refine ⟨trivial, ?_⟩; gi_at_call 6; refine (callsIn_wide.2 (bloomBits (n : Int) d w (WalkArith.wf_i64 (by omega)) hd)).mono ?_; rintro e w ⟨rfl, rfl⟩; rw [HB.out]; simp only [])
  have bF := (Boxed.new (w.alloc (.cells (madeCells #[.int .u8 0] (n8 + 1)) 5)) 25 (.slice (some ⟨w.heap.size, 0, none⟩) n8 (n8 + 1)))
  rw [World.size_alloc] at bF
  have hb0 : Below w.heap.size w ((w.alloc (.cells (madeCells #[.int .u8 0] (n8 + 1)) 5)).alloc (.cells #[.slice (some ⟨w.heap.size, 0, none⟩) n8 (n8 + 1)] 25)) := ((Below.refl _ w).alloc (Nat.le_refl _) _).alloc (by simp) _
  have hrow0 : ((w.alloc (.cells (madeCells #[.int .u8 0] (n8 + 1)) 5)).alloc (.cells #[.slice (some ⟨w.heap.size, 0, none⟩) n8 (n8 + 1)] 25)).ownsRow w.heap.size 5 1 (.slice (some ⟨w.heap.size, 0, none⟩) n8 (n8 + 1)) n8 (bv (fillAll (n8 * 8) k (List.replicate n8 0) (keys.take 0))) := by
    refine World.ownsRow.alloc (ownsRow_made (by omega) (by simp only [maxLen]; omega) (by rw [← Array.length_toList, bv_zeros, bv_length, List.length_replicate]) (by rw [bv_length, fillAll_len, List.length_replicate]) ?_ (Nat.le_refl _)) _
    rw [bv_zeros, bv_take, List.take_replicate, show min n8 (n8 + 1) = n8 from by omega]
    rfl
  refine wpIn_loop (fun a' w' => ∃ (j : Nat) (Ds : List Nat) (u11 u33 u34 u35 u36 u37 u38 u39 u40 u52 : Value), j ≤ n ∧ Marks (w.heap.size + 2) w' Ds ∧ Boxed w' (w.heap.size + 1) 25 (.slice (some ⟨w.heap.size, 0, none⟩) n8 (n8 + 1)) ∧ Below w.heap.size w w' ∧
      w'.ownsRow w.heap.size 5 1 (.slice (some ⟨w.heap.size, 0, none⟩) n8 (n8 + 1)) n8 (bv (fillAll (n8 * 8) k (List.replicate n8 0) (keys.take j))) ∧
      a' = { tmps := #[.slice A n c, .int .i64 d, undef, undef, .slice none 0 0, .int .i64 0, .int .i64 ((n8 : Int) * 8), .int .i64 k, .int .i64 0, .pointer (some ⟨w.heap.size + 1, 0, none⟩), undef, u11, undef, .tuple #[.int .i64 ((n8 : Int) * 8), .int .i64 k, .int .i64 0], .slice A n c, .int .i64 n, .int .i64 d, .tuple #[.int .i64 ((n8 : Int) * 8), .int .i64 k, .int .i64 0], .int .i64 ((n8 : Int) * 8), .int .i64 k, .int .i64 0, .int .i64 0, .bool false, undef, .int .i64 ((n8 : Int) * 8), .int .i64 n8, .int .i64 ((n8 : Int) * 8), .int .i64 n8, .int .i64 ((n8 : Int) + 1), .slice (some ⟨w.heap.size, 0, none⟩) n8 (n8 + 1), .slice A n c, .int .i64 n, .int .i64 j, u33, u34, u35, u36, u37, u38, u39, u40, undef, undef, undef, undef, undef, undef, undef, undef, undef, undef, undef, u52, undef, undef, undef, undef, undef], defers := Ds.map mark }) (fun a' _ => n - (intOf (a'.tmps.getD 32 undef)).toNat) ?_ ?_
  · exact ⟨0, [], undef, undef, undef, undef, undef, undef, undef, undef, undef, undef, by omega, Marks.nil _ _, bF, hb0, hrow0, rfl⟩
  rintro a' wr ⟨j, Ds, u11, u33, u34, u35, u36, u37, u38, u39, u40, u52, hj, hmarks, bF', hbw, hrow, rfl⟩
  clear bF hb0 hrow0
  by_cases hlt : j < n
  · obtain ⟨key, hkey⟩ : ∃ key, keys[j]? = some key := ⟨_, List.getElem?_eq_getElem (by rw [HN.out]; exact hlt)⟩
    obtain ⟨b, o, A1, c1, rfl, hb, hc, hle, hr1⟩ := RbM.get (HF.out.below (hbw.mono hB)) hkey
    obtain ⟨hkb1, hkb2⟩ := hkb key (List.mem_of_getElem? hkey)
    have hs := hashOf_rng key
    obtain ⟨h, hh⟩ : ∃ h, hashOf key = h := ⟨_, rfl⟩
    have hsn : fillAll (n8 * 8) k (List.replicate n8 0) (keys.take (j + 1)) = fill (fillAll (n8 * 8) k (List.replicate n8 0) (keys.take j)) (prb h ((n8 : Int) * 8) k) := by
      rw [take_snoc hkey, fillAll_snoc, hh]
      simp
    have hfb : Byt (fillAll (n8 * 8) k (List.replicate n8 0) (keys.take j)) := fillAll_byt _ _ _ (replicate_byt n8)
    have hfl : (fillAll (n8 * 8) k (List.replicate n8 0) (keys.take j)).length = n8 := by rw [fillAll_len, List.length_replicate]
    obtain ⟨f0, hf0⟩ : ∃ f0, fillAll (n8 * 8) k (List.replicate n8 0) (keys.take j) = f0 := ⟨_, rfl⟩
    rw [hf0] at hsn hfb hfl hrow
    rw [hh] at hs
    have hs0 := hs.1
    have HSN := Lib.hid hsn
    have HS := Lib.hid hs.2
    have HH := Lib.hid hh
    have HFL := Lib.hid hfl
    have HKB := Lib.hid hkb
    clear hsn hs hf0 hfl hkey hkb hh
    gi_wp2_with (first
      | (refine ⟨trivial, ?_⟩; gi_at_call 18; refine (callsIn_wide.2 (bloomHash (A := A1) (c := c1) wr hr1 hkb1 hkb2 rfl)).mono ?_; rintro e wr ⟨rfl, rfl⟩; rw [HH.out])
      | (refine ⟨trivial, ?_⟩; gi_at_call 22; refine (probes_in 3 _ _ _ _).mono ?_; rintro e w' ⟨rfl, rfl⟩))
    have bH := ((Boxed.new wr 36 (.int .u64 h)).alloc (.cells #[.int .i64 ((n8 : Int) * 8)] 3)).alloc (.cells #[.int .i64 k] 3)
    have bN := (Boxed.new (wr.alloc (.cells #[.int .u64 h] 36)) 3 (.int .i64 ((n8 : Int) * 8))).alloc (.cells #[.int .i64 k] 3)
    have bK := Boxed.new ((wr.alloc (.cells #[.int .u64 h] 36)).alloc (.cells #[.int .i64 ((n8 : Int) * 8)] 3)) 3 (.int .i64 k)
    rw [World.size_alloc] at bN
    rw [World.size_alloc, World.size_alloc] at bK
    have hws := hbw.size
    have hB0 : Below w.heap.size w (((wr.alloc (.cells #[.int .u64 h] 36)).alloc (.cells #[.int .i64 ((n8 : Int) * 8)] 3)).alloc (.cells #[.int .i64 k] 3)) := hbw.trans ((((Below.refl _ wr).alloc hws _).alloc (by simp; omega) _).alloc (by simp; omega) _)
    have bF3 := ((bF'.alloc (.cells #[.int .u64 h] 36)).alloc (.cells #[.int .i64 ((n8 : Int) * 8)] 3)).alloc (.cells #[.int .i64 k] 3)
    have hrow3 := ((hrow.alloc (.cells #[.int .u64 h] 36)).alloc (.cells #[.int .i64 ((n8 : Int) * 8)] 3)).alloc (.cells #[.int .i64 k] 3)
    have hm3 : Marks (w.heap.size + 2) (((wr.alloc (.cells #[.int .u64 h] 36)).alloc (.cells #[.int .i64 ((n8 : Int) * 8)] 3)).alloc (.cells #[.int .i64 k] 3)) Ds := ((hmarks.kept (World.grownBy_alloc _ _ none) (fun r e => by cases e)).kept (World.grownBy_alloc _ _ none) (fun r e => by cases e)).kept (World.grownBy_alloc _ _ none) (fun r e => by cases e)
    have hDs : ∀ D ∈ Ds, D < wr.heap.size := fun D hD => hmarks.lt hD
    have hf1 := bF'.lt
    refine wpIn_rangeFunc_ownG rfl (by omega) (gf := 24) (lb := #[.pointer (some ⟨wr.heap.size, 0, none⟩), .pointer (some ⟨wr.heap.size + 2, 0, none⟩), .pointer (some ⟨wr.heap.size + 1, 0, none⟩)]) rfl trivial (enters_of Try.func24 (by kernel_rfl) rfl)
      (probes_stopsB 3 (by omega) wr.heap.size (wr.heap.size + 2) (wr.heap.size + 1) h ((n8 : Int) * 8) k hs0 HS.out (by omega) (by omega) hk1 _ bH.cell bK.cell bN.cell (by simp; omega) (by simp) (by simp)) (fun a b => Eq.trans b a) (fun W l o o' hl ho _ _ => (grownBy_putObj' W l o').block _ (by have := (Array.getElem?_eq_some_iff.1 ho).1; simp at hl; omega) (by simp at hl ⊢; omega)) (Below.refl _ _) (fun _ => rfl)
      (fun (pre : List (Pl ((n8 : Int) * 8))) W => (∃ v, Boxed W (w.heap.size + 1) 25 v ∧ W.ownsRow w.heap.size 5 1 v n8 (bv (fill f0 (pre.map (·.1)))) ∧ v = .slice (some ⟨w.heap.size, 0, none⟩) n8 (n8 + 1)) ∧ Below w.heap.size w W ∧ Marks (w.heap.size + 2) W Ds ∧ wr.heap.size + 3 ≤ W.heap.size)
      (fun _ _ _ => False)
      (OwnFrom.and (Own.from (holdsRow_own w.heap.size (w.heap.size + 1) 25 5 1 (fun _ => n8) (fun (pre : List (Pl ((n8 : Int) * 8))) => bv (fill f0 (pre.map (·.1)))) (fun _ v => v = .slice (some ⟨w.heap.size, 0, none⟩) n8 (n8 + 1))) _) (OwnFrom.and (ownFrom_below (Nat.le_refl _) (by simp; omega)) (OwnFrom.and (marks_own _ _ Ds (fun D hD => by have := hDs D hD; simp; omega)) (fun s W W' row hs hg hr => by have := hg.size; omega))))
      (fun _ _ _ _ _ hs _ _ => hs)
      ⟨⟨_, bF3, hrow3, rfl⟩, hB0, hm3, by simp⟩
      ?a1 ?assign ?body ?done ?stop
    case assign =>
      intro l x W K hK
      gi_wp2
      exact hK
    case body =>
      rintro l pre ⟨x, hx0, hx1⟩ W ⟨⟨v, hv, hrw, rfl⟩, hB, hms, hsz⟩ hlt2
      have hcf := hv.cell
      obtain ⟨y, hy⟩ : ∃ y, (fill f0 (pre.map (·.1))).getD (x / 8).toNat 0 = y := ⟨_, rfl⟩
      have hfb2 : Byt (fill f0 (pre.map (·.1))) := fill_byt _ hfb
      have hfl2 : (fill f0 (pre.map (·.1))).length = n8 := (fill_len _ _).trans HFL.out
      have hyb := hfb2.getD (x / 8).toNat
      rw [hy] at hyb
      have hyc := hrw.cellAt (x / 8).toNat (by omega)
      have hyv : (bv (fill f0 (pre.map (·.1))))[(x / 8).toNat]? = some (.int .u8 y) := by
        apply bv_get
        rw [← hy, List.getD_eq_getElem?_getD, List.getElem?_eq_getElem (by omega)]
        rfl
      have hyc : W.cell? ⟨w.heap.size, (x / 8).toNat, none⟩ = some (.int .u8 y) := hyc.trans hyv
      have hfr := hrw.frozenAt (x / 8).toNat
      have hsx : fill f0 ((pre ++ [(⟨x, hx0, hx1⟩ : Pl ((n8 : Int) * 8))]).map (·.1)) = (fill f0 (pre.map (·.1))).set (x / 8).toNat (bits .or .u8 y (pw x)) := by
        rw [List.map_append, List.map_cons, List.map_nil, fill_snoc, setb, hy]
      have HSX := Lib.hid hsx
      have HFB := Lib.hid hfb2
      clear hsx hyv hy hfl2 hfb2
      obtain ⟨t, ht⟩ : ∃ t, (x / 8).toNat = t := ⟨_, rfl⟩
      rw [ht] at hyc hfr
      have e1 : IntKind.i64.wrap (x.tdiv 8) = (t : Int) := by
        rw [Int.tdiv_eq_ediv_of_nonneg hx0, wrap_i64_in (by omega) (by omega)]; omega
      have hsh := shift_pw hx0
      have htl : t < n8 := by omega
      have HT := Lib.hid ht
      clear ht
      gi_wp2
      refine wpIn_region_still_round 10 (by kernel_rfl) (by kernel_rfl) (by kernel_rfl) ?_
      simp only [List.take_succ_cons, List.take_zero, List.drop_succ_cons, List.drop_zero]
      repeat still_step
      refine wpStill_nil ?_
      change wpList _ _ _ _ _ W.drew
      go_wp2
      obtain ⟨hst1, hst2⟩ := hrw.stored t (.int .u8 (bits .or .u8 y (pw x)))
      rw [bv_set, ← HT.out, ← HSX.out, HT.out] at hst1
      have hb2 := hB.setCell (p := ⟨w.heap.size, t, none⟩) (Nat.le_refl _) (.int .u8 (bits .or .u8 y (pw x)))
      have hbx : Boxed (W.setCell ⟨w.heap.size, t, none⟩ (.int .u8 (bits .or .u8 y (pw x)))) (w.heap.size + 1) 25 (.slice (some ⟨w.heap.size, 0, none⟩) n8 (n8 + 1)) := hv.kept hst2 (by simp)
      have hmx : Marks (w.heap.size + 2) (W.setCell ⟨w.heap.size, t, none⟩ (.int .u8 (bits .or .u8 y (pw x)))) Ds := hms.kept hst2 (fun r e hm => by cases e; have := (hms.2 _ hm).1; omega)
      refine ⟨((KeepsOthers.setCell W _ _).trans (KeepsOthers.drew _)).from _, (heap_setCell_other W ⟨w.heap.size, t, none⟩ (wr.heap.size + 1) _ (by simp; omega)), ⟨_, hbx, hst1, rfl⟩, ⟨hb2.os, hb2.tape, hb2.output, hb2.size, hb2.block⟩, hmx, Nat.le_trans hsz hst2.size⟩
    case done =>
      rintro D ys W hD hys ⟨⟨v, hv, hrw, rfl⟩, hB, hms, hsz⟩ hK
      simp only [World.size_alloc] at hD
      have hys' : ys.map (·.1) = prb h ((n8 : Int) * 8) k := hys
      rw [hys', ← HSN.out] at hrw
      gi_wp2
      refine ⟨⟨j + 1, D :: Ds, _, _, _, _, _, _, _, _, _, _, by omega, hms.cons hDs (by omega) (by omega) hK, hv, hB, hrw, rfl⟩, ?_⟩
      simp [intOf]
      omega
    case stop =>
      rintro D c pre W _ _ h _
      exact h.elim
  · have hc9 := bF'.cell
    have hjn : j = n := by omega
    have he : fillAll (n8 * 8) k (List.replicate n8 0) (keys.take j) = fillAll (n8 * 8) k (List.replicate n8 0) keys := by rw [hjn, List.take_of_length_le (by have := HN.out; omega)]
    rw [he] at hrow
    clear he
    obtain ⟨i0, hi, hz0, hz1, hz2⟩ := info_parts byteinfo
    gi_wp2_with (gi_at_builtin; refine wpListIn_append_own _ rfl _ _ 25 rfl w.heap.size 5 i0 (.int .u8 0) 1 1 Try.underlying25 hi hz0 hz1 hz2 rfl (by decide) _ _ _ rfl (hrow.alloc _) ⟨wr.heap.size, 0, none⟩ 1 1 [.int .u8 k] rfl rfl (cell_one_new _ _ _) (by simp [Value.oneCell']) (by simp only [maxLen]; omega) (by omega) (by have := hbw.size; simp; omega) ?_; intro v' w1 hown' hgrow _; obtain ⟨g', cap', rfl⟩ := ownsRow_succ hown')
    have hgrow : (wr.alloc (.cells #[.int .u8 k] 5)).grownBy w1 (some w.heap.size) := hgrow
    have hws := hbw.size
    have hgb : Below w.heap.size wr w1 := ((Below.refl _ wr).alloc hws _).trans (grown_below hgrow (by simp; omega) (fun k hk => by cases hk; exact Nat.le_refl _))
    have hm1 : Marks (w.heap.size + 2) w1 Ds := (hmarks.kept (World.grownBy_alloc wr _ none) (fun r e => by cases e)).kept hgrow (fun r e hm => by have := (hmarks.2 r hm).1; cases e; omega)
    have hown1 : w1.ownsRow w.heap.size 5 1 (.slice (some ⟨g', 0, none⟩) (n8 + 1) cap') (n8 + 1) (bv (filterOf n8 k keys)) := by
      rw [filterOf, bv_append]
      exact hown'
    show LeavesInM _ _ _ _ _ _ (Ds.map mark) .returning w1
    refine leaves_marks (lo := w.heap.size + 2) (fun W => W.ownsRow w.heap.size 5 1 (.slice (some ⟨g', 0, none⟩) (n8 + 1) cap') (n8 + 1) (bv (filterOf n8 k keys)) ∧ Below w.heap.size w W) ?_ ?_ Ds w1 hm1 ⟨hown1, hbw.trans hgb⟩
    · rintro W D hD hd ⟨h1, h2⟩
      exact ⟨ownsRow_putObj h1 (.deferred none) hd rfl, h2.trans (belowK_b (w := w) (Nat.le_refl _) W D _ _ (by omega) hd rfl rfl)⟩
    · rintro W ⟨h1, h2⟩
      exact ⟨_, results_tmp2 rfl _ _ _, _, _, rfl, ⟨h1, ⟨h2.os, h2.tape, h2.output, h2.size, fun k hk _ => h2.block k hk⟩, .inr ⟨g', rfl, (h1.lt g' rfl).1⟩⟩, by simp⟩
end Go.Proofs.Ytccpjjpceokodaa
