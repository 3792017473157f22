/- Texts of the proof of GatherScriptSaid, joined: GaG GaH GaI GaK SoH. -/
import Derived.Test.YtoojpagpkbcfjaaGreatJGatherScript12
import Derived.Deep.QuietTactic
import Derived.Test.YtoojpagpkbcfjaaGreatJGatherScript10
/- Layer 20: what is due is pushed. -/
namespace Go.Proofs.YtoojpagpkbcfjaaGreat
open Go.RowKit
def appKG (ts : Array TypeId) (t : TypeId) (xs : Array Value) : Sem Value := Builtin.append_ ts t xs
theorem appKG_shut (ts : Array TypeId) (t : TypeId) (xs : Array Value) : Builtin.append_ ts t xs = appKG ts t xs := rfl
attribute [local go_sem ↓] appKG_shut
theorem duinfo : (Tryz.prog.info? 74).map (fun i => (i.zero, i.size, i.bytes)) = some (some (.agg #[.int .u64 0, .int .u64 0, .int .i64 0]), 3, 24) := by kernel_rfl
abbrev dueI (d : Due) : Value := .iface 74 (dueV d)
theorem taDue (d : Due) (W : World) : (Instr.typeAssert (dueI d) 20 74 false).run Tryz.prog W = .ok (dueV d) W := by
  simp [Instr.typeAssert, run_underlying Tryz.underlying74, Result.andThen]
/-- What is due lies anew, behind the gatherer's cell 4. -/
def DuPost (base : Nat) (w : World) (F : Nat) (cs : Array Value) (v : Value) (l' : List Due) (e : Ending) (w' : World) : Prop :=
  e = .returned (.tuple #[]) ∧ ∃ v', Bk w' F 69 (cs.setIfInBounds 4 v') ∧ DuR w' base v' l' ∧ FrK w w' (fun b => b = F ∨ v.ownBlock = some b) ∧ (v'.ownBlock = v.ownBlock ∨ ∃ k, v'.ownBlock = some k ∧ w.heap.size ≤ k)
set_option maxRecDepth 100000 in
set_option maxHeartbeats 2000000 in
theorem gaPush0 {F base : Nat} {cs : Array Value} {v : Value} {l : List Due} (w : World) (hB : Bk w F 69 cs) (h4 : cs[4]? = some v) (hr : DuR w base v l) (hn : l.length ≤ 1000000000) (hb : base ≤ w.heap.size) (d : Due) :
    Calls Tryz.prog 133 #[.pointer (some ⟨F, 4, none⟩), dueI d] w (DuPost base w F cs v (l ++ [d])) := by
  have hFv : v.ownBlock ≠ some F := fun e => by
    obtain ⟨cur, hc⟩ := own_bk hr e
    exact ne_of_type hc hB (by decide) rfl
  obtain ⟨A, c, hv, hnc, -⟩ := own_form hr
  obtain ⟨n, hln⟩ : ∃ n, l.length = n := ⟨_, rfl⟩
  rw [hln] at hv hn
  subst hv
  have c4 : w.cell? ⟨F, 4, none⟩ = some (.slice A n c) := by rw [hB.cell 4]; exact h4
  obtain ⟨i0, hi0, hz0, hz1, hz2⟩ := info_parts duinfo
  have own1 := hr.alloc (.cells #[.int .u64 (d.1.hi : Nat), .int .u64 (d.1.lo : Nat), .int .i64 d.2] 74)
  rw [hln] at own1
  have rd1 := Rd.lit w #[.int .u64 (d.1.hi : Nat), .int .u64 (d.1.lo : Nat), .int .i64 d.2] 74
  have hB1 := hB.alloc (.cells #[.int .u64 (d.1.hi : Nat), .int .u64 (d.1.lo : Nat), .int .i64 d.2] 74)
  have HB1 := Lib.hid hB1
  have OWN1 := Lib.hid own1
  have RD1 := Lib.hid rd1
  have HLN := Lib.hid hln
  have HI := Lib.hid (And.intro hi0 (And.intro hz0 (And.intro hz1 hz2)))
  have HR := Lib.hid hr
  clear hB1 own1 rd1 hi0 hz0 hz1 hz2 hr hln hB
  go_enter Tryz.func133, Tryz.ntmps133
  have c4d : w.drew.cell? ⟨F, 4, none⟩ = some (.slice A n c) := c4
  have c4a : ((w.alloc (.cells #[.int .u64 (d.1.hi : Nat), .int .u64 (d.1.lo : Nat), .int .i64 d.2] 74)).drew).cell? ⟨F, 4, none⟩ = some (.slice A n c) := by
    have h1 := World.cell?_alloc_lt w (.cells #[.int .u64 (d.1.hi : Nat), .int .u64 (d.1.lo : Nat), .int .i64 d.2] 74) ⟨F, 4, none⟩ (World.block_lt_of_cell? w _ c4)
    exact h1.trans c4
  have END : Hid (∀ (A2 : Option Addr) (c2 : Nat) (w3 : World), w3.ownsRow base 74 3 (.slice A2 (n + 1) c2) (n + 1) (flatR dueC l ++ [.int .u64 (d.1.hi : Nat), .int .u64 (d.1.lo : Nat), .int .i64 d.2]) → ((w.alloc (.cells #[.int .u64 (d.1.hi : Nat), .int .u64 (d.1.lo : Nat), .int .i64 d.2] 74)).drew).grownBy w3 (Value.slice A n c).ownBlock → ((Value.slice A2 (n + 1) c2).ownBlock = (Value.slice A n c).ownBlock ∨ (Value.slice A2 (n + 1) c2).ownBlock = some (w.alloc (.cells #[.int .u64 (d.1.hi : Nat), .int .u64 (d.1.lo : Nat), .int .i64 d.2] 74)).drew.heap.size) →
      (w3.cell? ⟨F, 4, none⟩ = some (.slice A n c) ∧ w3.frozen? ⟨F, 4, none⟩ = false) ∧ DuPost base w F cs (.slice A n c) (l ++ [d]) (.returned (.tuple #[])) (w3.setCell ⟨F, 4, none⟩ (.slice A2 (n + 1) c2))) := Lib.hid fun A2 c2 w3 hown2 hgr2 hblk2 => by
    have hB3 := (show Bk ((w.alloc (.cells #[.int .u64 (d.1.hi : Nat), .int .u64 (d.1.lo : Nat), .int .i64 d.2] 74)).drew) F _ cs from HB1.out).grown hgr2 (fun e => hFv e.symm)
    have z4 : w3.cell? ⟨F, 4, none⟩ = some (.slice A n c) := by rw [hB3.cell 4]; exact h4
    have y4 := hB3.frozen 4
    have hB4 := hB3.set 4 (.slice A2 (n + 1) c2)
    have hown4 := own_of (w' := w3.setCell ⟨F, 4, none⟩ (.slice A2 (n + 1) c2)) hown2 fun q hq => by
      obtain ⟨cur, hc⟩ := own_bk hown2 hq
      exact (FrK.set w3 F 4 _).block q hc.lt (ne_of_type hc hB3 (by decide))
    have hf4 : FrK w (w3.setCell ⟨F, 4, none⟩ (.slice A2 (n + 1) c2)) (fun b => b = F ∨ (Value.slice A n c).ownBlock = some b) :=
      ((((FrK.refl w _).alloc _).drew).trans (FrK.of_grown (K := fun b => b = F ∨ (Value.slice A n c).ownBlock = some b) hgr2 fun b _ e => .inr e) fun _ _ e => e).trans (FrK.set w3 F 4 _) fun _ _ e => .inl e
    refine ⟨⟨z4, y4⟩, rfl, .slice A2 (n + 1) c2, hB4, ?_, hf4, ?_⟩
    · have e1 : flatR dueC (l ++ [d]) = flatR dueC l ++ dueC d := by rw [flatR_append, flatR_cons]; simp [flatR]
      unfold DuR
      rw [e1, List.length_append, List.length_singleton, HLN.out]
      exact hown4
    · rcases hblk2 with h1 | h1
      · exact .inl h1
      · exact .inr ⟨_, h1, by simp⟩
  have hbz : base ≤ (w.alloc (.cells #[.int .u64 (d.1.hi : Nat), .int .u64 (d.1.lo : Nat), .int .i64 d.2] 74)).drew.heap.size := by simp; omega
  obtain ⟨v', w3, hrun, hown2, hgr2, hblk2, ⟨A2, c2, rfl⟩, -⟩ := run_app (P := Tryz.prog) ((w.alloc (.cells #[.int .u64 (d.1.hi : Nat), .int .u64 (d.1.lo : Nat), .int .i64 d.2] 74)).drew) base 66 66 74 i0 _ 3 24 Tryz.underlying66 HI.out.1 HI.out.2.1 HI.out.2.2.1 HI.out.2.2.2 rfl (by omega) (.slice A n c) n (flatR dueC l) (World.ownsRow.drew OWN1.out) (w.heap.size + 1) (some ⟨w.heap.size, 0, none⟩) 1 1 [.int .u64 (d.1.hi : Nat), .int .u64 (d.1.lo : Nat), .int .i64 d.2] rfl RD1.out.drew (fun u hu => dueC_one d u hu) (by simp only [maxLen]; omega) (by omega) hbz
  change (appKG _ _ _).run _ _ = _ at hrun
  obtain ⟨⟨z4, y4⟩, P4⟩ := END.out A2 c2 w3 hown2 hgr2 hblk2
  have hta := taDue d
  have HP4 := Lib.hid P4
  clear hbz h4 hown2 hgr2 hblk2 END P4 HI OWN1 RD1
  go_wp2_with fail
  go_region
  all_goals go_wp2_with fail
  all_goals go_end0
  all_goals exact HP4.out
set_option maxRecDepth 100000 in
set_option maxHeartbeats 2000000 in
theorem gaPush {F base : Nat} {cs : Array Value} {v : Value} {l : List Due} (w : World) (hB : Bk w F 69 cs) (h4 : cs[4]? = some v) (hr : DuR w base v l) (hn : l.length ≤ 1000000000) (hb : base ≤ w.heap.size) (d : Due) :
    Calls Tryz.prog 42 #[hpV F, dueI d] w (DuPost base w F cs v (hPush dLt l d)) := by
  have CP := Lib.hid (gaPush0 w hB h4 hr hn hb d)
  have mP := fun w => mPush w ⟨F, 4, none⟩
  have eP := enPush
  have eL := enLen
  have h4s := (Array.getElem?_eq_some_iff.1 h4).1
  obtain ⟨n, hln⟩ : ∃ n, l.length = n := ⟨_, rfl⟩
  have HLN := Lib.hid hln
  rw [hln] at hn
  clear hB h4 hr hln
  go_enter Tryz.func42, Tryz.ntmps42
  go_wp2_with fail
  refine CP.out.mono ?_
  rintro e w2 ⟨rfl, v2, hB2, hr2, hf2, hbl2⟩
  obtain ⟨A2, c2, hv2, -, -⟩ := own_form hr2
  have hl2 : (l ++ [d]).length = n + 1 := by rw [List.length_append, HLN.out]; rfl
  rw [hl2] at hv2
  subst hv2
  obtain ⟨g, cap, hv3, -, -⟩ := hr2.form (by rw [hl2]; omega)
  have hA : A2 = some ⟨g, 0, none⟩ := by injection hv3
  clear hv3
  subst hA
  have k4 : (cs.setIfInBounds 4 (.slice (some ⟨g, 0, none⟩) (n + 1) c2))[4]? = some (.slice (some ⟨g, 0, none⟩) (n + 1) c2) := by simp [h4s]
  have c4 : w2.cell? ⟨F, 4, none⟩ = some (.slice (some ⟨g, 0, none⟩) (n + 1) c2) := by rw [hB2.cell 4]; exact k4
  have mL := mLen c4
  have CL := Lib.hid (gaLen w2 (some ⟨g, 0, none⟩) (n + 1) c2)
  have CU := Lib.hid (gaUp (f := n + 1) (j := n) w2 hB2 k4 hr2 hl2 (by omega) (by omega) (by omega))
  have HB2 := Lib.hid hB2
  have OWN := Lib.hid hr2
  have HF2 := Lib.hid hf2
  have HBL := Lib.hid hbl2
  clear hB2 hr2 hf2 hbl2 c4 CP mP eP k4 h4s hl2
  go_wp2_with fail
  refine CL.out.mono ?_
  rintro e w9 ⟨rfl, rfl⟩
  go_wp2_with fail
  refine CU.out.mono ?_
  rintro e w3 ⟨rfl, r3, f3⟩
  go_wp2_with fail
  go_end0
  have hgF : F ≠ g := fun e => by
    obtain ⟨cur, hc⟩ := own_bk (g := g) OWN.out rfl
    exact ne_of_type hc HB2.out (by decide) e.symm
  have hB3 := f3.bk HB2.out (fun e => hgF e)
  have hres : hUp dLt (n + 1) (l ++ [d]) n = hPush dLt l d := by
    unfold hPush
    rw [HLN.out]
  rw [hres] at r3
  refine ⟨rfl, _, hB3, r3, ⟨f3.os.trans HF2.out.os, f3.tape.trans HF2.out.tape, f3.output.trans HF2.out.output, Nat.le_trans HF2.out.size f3.size, fun b hb hK => ?_⟩, HBL.out⟩
  refine (f3.block b (Nat.lt_of_lt_of_le hb HF2.out.size) fun e => ?_).trans (HF2.out.block b hb hK)
  rcases HBL.out with h1 | ⟨q, h1, h2⟩
  · exact hK (.inr (by rw [← h1, show b = g from e]; rfl))
  · have h3 : g = q := Option.some.inj h1
    have h4 : b = g := e
    omega
end Go.Proofs.YtoojpagpkbcfjaaGreat


/- Layer 20: the first of what is due is popped. -/
namespace Go.Proofs.YtoojpagpkbcfjaaGreat
open Go.RowKit
attribute [local go_sem ↓] loadDu_shut storeKD_shut
theorem du_take {w : World} {base n m c : Nat} {A : Option Addr} {l : List Due} (h : DuR w base (.slice A n c) l) (hl : l.length = n) (hm : m ≤ n) : DuR w base (.slice A m c) (l.take m) := by
  unfold DuR at *
  rw [hl] at h
  have h2 := own_takeK h hm
  rw [flatR_take dueC_length] at h2
  rwa [List.length_take, Nat.min_eq_left (by omega)]
set_option maxRecDepth 100000 in
theorem run_slH3 (w : World) (g n c k : Nat) (hk : k ≤ c) (hn : n ≤ c) : (Instr.slice 66 (.slice (some ⟨g, 0, none⟩) n c) none (some (.int .i64 (k : Nat))) none).run Tryz.prog w = .ok (.slice (some ⟨g, 0, none⟩) k c) w := by
  have h1 := run_slice_h (P := Tryz.prog) w 66 (some ⟨g, 0, none⟩) n c Tryz.underlying66 .i64 (k : Nat) (by omega) (by omega)
  rw [h1]
  have hs : (sizeOf (Tryz.prog.elem 66)).run Tryz.prog w = .ok 3 w := by kernel_rfl
  rw [hs]
  simp [Result.andThen, sliced, Addr.add]
set_option maxRecDepth 100000 in
set_option maxHeartbeats 2000000 in
theorem gaPop0 {F g n c base : Nat} {cs : Array Value} {l : List Due} {x : Due} (w : World) (hB : Bk w F 69 cs) (h4 : cs[4]? = some (.slice (some ⟨g, 0, none⟩) (n + 1) c)) (hr : DuR w base (.slice (some ⟨g, 0, none⟩) (n + 1) c) l) (hn : l.length = n + 1) (hnl : n ≤ 1000000000) (hx : l[n]? = some x) :
    Calls Tryz.prog 132 #[.pointer (some ⟨F, 4, none⟩)] w fun e w' => e = .returned (dueI x) ∧ Bk w' F 69 (cs.setIfInBounds 4 (.slice (some ⟨g, 0, none⟩) n c)) ∧ DuR w' base (.slice (some ⟨g, 0, none⟩) n c) (l.take n) ∧ FrK w w' (Kis F) := by
  obtain ⟨A, cc, e0, hcap, -⟩ := own_form hr
  injection e0 with e1 e2 e3
  subst e3
  rw [hn] at hcap
  clear e1 e2
  have ld := du_load hr hn hx
  have hW1 : Bk (w.alloc (.cells #[.int .u64 0, .int .u64 0, .int .i64 0] 74)).drew w.heap.size 74 #[.int .u64 0, .int .u64 0, .int .i64 0] := Bk.new w _ _
  have hst := run_storeVar_row (P := Tryz.prog) _ w.heap.size 0 74 74 (dueC x).toArray _ hW1 (by simp [dueC]) (fun u hu => dueC_one x u (by simpa using hu)) (by rfl)
  have hW2 := setRow_heap _ w.heap.size _ ((#[Value.int .u64 0, Value.int .u64 0, Value.int .i64 0] : Array Value).toList.take 0 ++ (dueC x).toArray.toList ++ (#[Value.int .u64 0, Value.int .u64 0, Value.int .i64 0] : Array Value).toList.drop (0 + (dueC x).toArray.size)).toArray _ _ hW1
  have hb2 : Below w.heap.size w ((w.alloc (.cells #[.int .u64 0, .int .u64 0, .int .i64 0] 74)).drew.setRow w.heap.size ((#[Value.int .u64 0, Value.int .u64 0, Value.int .i64 0] : Array Value).toList.take 0 ++ (dueC x).toArray.toList ++ (#[Value.int .u64 0, Value.int .u64 0, Value.int .i64 0] : Array Value).toList.drop (0 + (dueC x).toArray.size)).toArray) :=
    ((Below.refl w.heap.size w).alloc (Nat.le_refl _) _).drew.grown (only_row w.heap.size _) (by simp) (fun g hg => by
      have h1 : w.heap.size = g := Option.some.inj hg
      omega)
  obtain ⟨w2, hw2⟩ : ∃ w2, (w.alloc (.cells #[.int .u64 0, .int .u64 0, .int .i64 0] 74)).drew.setRow w.heap.size ((#[Value.int .u64 0, Value.int .u64 0, Value.int .i64 0] : Array Value).toList.take 0 ++ (dueC x).toArray.toList ++ (#[Value.int .u64 0, Value.int .u64 0, Value.int .i64 0] : Array Value).toList.drop (0 + (dueC x).toArray.size)).toArray = w2 := ⟨_, rfl⟩
  rw [hw2] at hst hW2 hb2
  have hbk2 : Bk w2 w.heap.size 74 (dueC x).toArray := hW2
  change (storeKD _ _ (dueV x)).run _ _ = _ at hst
  have B2 := Lib.hid hb2
  have K2 := Lib.hid hbk2
  have BA : Hid (Below w.heap.size w (w.alloc (.cells #[.int .u64 0, .int .u64 0, .int .i64 0] 74)).drew) := Lib.hid ((Below.refl _ w).alloc (Nat.le_refl _) _).drew
  have c4 : w.cell? ⟨F, 4, none⟩ = some (.slice (some ⟨g, 0, none⟩) (n + 1) c) := by rw [hB.cell 4]; exact h4
  have f4 := hB.frozen 4
  have HB := Lib.hid hB
  have HR := Lib.hid hr
  have HN := Lib.hid hn
  have HX := Lib.hid hx
  have hwr : IntKind.i64.wrap (n : Int) = (n : Int) := IntWalk.i64_in _ ⟨by omega, by omega⟩
  have hbn : (n : Int) < (n : Int) + 1 := by omega
  have hbn0 : (0 : Int) ≤ (n : Int) := by omega
  clear hB hr hn hx h4 hW1 hW2 hb2 hbk2 hw2
  go_enter Tryz.func132, Tryz.ntmps132
  have KS : Hid (∀ W, Below w.heap.size w W → W.cell? ⟨F, 4, none⟩ = some (.slice (some ⟨g, 0, none⟩) (n + 1) c) ∧ (loadK 74 ⟨g, n * 3, none⟩).run Tryz.prog W = .ok (dueV x) W) := Lib.hid fun W hW => by
    refine ⟨(hW.cell (World.block_lt_of_cell? w _ c4)).trans c4, ?_⟩
    exact du_load (own_of HR.out fun q hq => hW.block q (HR.out.lt q hq).2) HN.out HX.out
  go_wp2_with fail
  go_region_held3 (fun W => W.cell? ⟨F, 4, none⟩ = some (.slice (some ⟨g, 0, none⟩) (n + 1) c) ∧ (loadK 74 ⟨g, n * 3, none⟩).run Tryz.prog W = .ok (dueV x) W) (first | exact KS.out _ (Below.refl _ w).drew | exact KS.out _ BA.out | exact KS.out _ B2.out) (fail)
  obtain ⟨p4, p5⟩ := KS.out w2 B2.out
  have hB2 := (B2.out.block F HB.out.lt).trans HB.out
  have hR2 : DuR w2 base (.slice (some ⟨g, 0, none⟩) (n + 1) c) l := own_of HR.out fun q hq => B2.out.block q (HR.out.lt q hq).2
  have y4 := Bk.frozen hB2 4
  have hB3 := Bk.set hB2 4 (.slice (some ⟨g, 0, none⟩) n c)
  have hR3 : DuR (w2.setCell ⟨F, 4, none⟩ (.slice (some ⟨g, 0, none⟩) n c)) base (.slice (some ⟨g, 0, none⟩) n c) (l.take n) := du_take (own_of hR2 fun q hq => by
    obtain ⟨cur, hc⟩ := own_bk hR2 hq
    exact (FrK.set w2 F 4 _).block q hc.lt (ne_of_type hc hB2 (by decide))) HN.out (Nat.le_succ n)
  have hF3 : FrK w (w2.setCell ⟨F, 4, none⟩ (.slice (some ⟨g, 0, none⟩) n c)) (Kis F) := (FrK.of_below B2.out (Nat.le_refl _) (Kis F)).trans (FrK.set w2 F 4 _) fun _ _ e => e
  have hFw := HB.out.lt
  have hK3 : Bk (w2.setCell ⟨F, 4, none⟩ (.slice (some ⟨g, 0, none⟩) n c)) w.heap.size 74 (dueC x).toArray := ((FrK.set w2 F 4 (.slice (some ⟨g, 0, none⟩) n c)).block _ K2.out.lt (show ¬ w.heap.size = F by omega)).trans K2.out
  have hB3 := hB3.drew
  have hR3 : DuR (w2.setCell ⟨F, 4, none⟩ (.slice (some ⟨g, 0, none⟩) n c)).drew base (.slice (some ⟨g, 0, none⟩) n c) (l.take n) := World.ownsRow.drew hR3
  have hF3 := hF3.drew
  have hK3 := hK3.drew
  obtain ⟨w3, hw3⟩ : ∃ w3, (w2.setCell ⟨F, 4, none⟩ (.slice (some ⟨g, 0, none⟩) n c)).drew = w3 := ⟨_, rfl⟩
  rw [hw3] at hB3 hR3 hF3 hK3
  have HB3 := Lib.hid hB3
  have HR3 := Lib.hid hR3
  have HF3 := Lib.hid hF3
  have HW3 := Lib.hid hw3
  have ld3 : (loadK 74 ⟨w.heap.size, 0, none⟩).run Tryz.prog w3 = .ok (dueV x) w3 := run_loadVar_row w3 w.heap.size _ _ (dueC x).toArray (0, 0) _ hK3 Tryz.underlying74 rfl (by rfl)
  have hcap' : n ≤ c := by omega
  clear hB2 hR2 hB3 hR3 hF3 hK3 hw3 p5 KS B2 K2 BA
  have hsl := run_slH3 w2.drew g (n + 1) c n hcap' hcap
  have p4d : w2.drew.cell? ⟨F, 4, none⟩ = some (.slice (some ⟨g, 0, none⟩) (n + 1) c) := p4
  have y4d : w2.drew.frozen? ⟨F, 4, none⟩ = false := y4
  go_wp2_with fail
  go_region
  rw [HW3.out]
  go_wp2_with fail
  go_ret
  exact ⟨rfl, HB3.out, HR3.out, HF3.out⟩
end Go.Proofs.YtoojpagpkbcfjaaGreat


/- Layer 20: heap.Pop. -/
namespace Go.Proofs.YtoojpagpkbcfjaaGreat
open Go.RowKit
set_option maxRecDepth 100000 in
set_option maxHeartbeats 2000000 in
theorem gaHPop {F g m c base : Nat} {cs : Array Value} {l : List Due} (w : World) (hB : Bk w F 69 cs) (h4 : cs[4]? = some (.slice (some ⟨g, 0, none⟩) (m + 1) c)) (hr : DuR w base (.slice (some ⟨g, 0, none⟩) (m + 1) c) l) (hn : l.length = m + 1) (hnl : m ≤ 1000000000) :
    Calls Tryz.prog 48 #[hpV F] w fun e w' => (∃ u, e = .returned u) ∧ Bk w' F 69 (cs.setIfInBounds 4 (.slice (some ⟨g, 0, none⟩) m c)) ∧ DuR w' base (.slice (some ⟨g, 0, none⟩) m c) (hPop dLt l) ∧ FrK w w' (fun b => b = F ∨ b = g) := by
  have hgF : F ≠ g := fun e => by
    obtain ⟨cur, hc⟩ := own_bk (g := g) hr rfl
    exact ne_of_type hc hB (by decide) e.symm
  have c4 : w.cell? ⟨F, 4, none⟩ = some (.slice (some ⟨g, 0, none⟩) (m + 1) c) := by rw [hB.cell 4]; exact h4
  have mL := mLen c4
  have mS := mSwap c4
  have mP := fun w => mPop w ⟨F, 4, none⟩
  have eL := enLen
  have eS := enSwap
  have eP := enPop
  have CL := Lib.hid (gaLen w (some ⟨g, 0, none⟩) (m + 1) c)
  have CS : Hid (Calls Tryz.prog 131 #[.slice (some ⟨g, 0, none⟩) (m + 1) c, .int .i64 0, .int .i64 (m : Nat)] w fun e w' => e = .returned (.tuple #[]) ∧ DuR w' base (.slice (some ⟨g, 0, none⟩) (m + 1) c) (swp l 0 m) ∧ w.grownBy w' (some g)) := Lib.hid (gaSwap (c := c) (i := 0) (j := m) w hr hn (by omega) (by omega) (by omega))
  have HB := Lib.hid hB
  have HN := Lib.hid hn
  have H4 := Lib.hid h4
  clear hB hr hn c4 h4
  go_enter Tryz.func48, Tryz.ntmps48
  go_wp2_with fail
  refine CL.out.mono ?_
  rintro e w9 ⟨rfl, rfl⟩
  go_wp2_with fail
  refine CS.out.mono ?_
  rintro e w2 ⟨rfl, r2, g2⟩
  have f2 := FrK.of_grown (K := Kis g) g2 fun b _ e => (Option.some.inj e).symm
  have hB2 := f2.bk HB.out (fun e => hgF e)
  have CD : Hid (Calls Tryz.prog 61 #[hpV F, .int .i64 0, .int .i64 (m : Nat)] w2 fun e w' => (∃ q, e = .returned (.bool q)) ∧ DuR w' base (.slice (some ⟨g, 0, none⟩) (m + 1) c) (hDown dLt (m + 1) (swp l 0 m) 0 m) ∧ FrK w2 w' (Kis g)) := Lib.hid (gaDown (f := m + 1) (i := 0) (n := m) w2 hB2 H4.out r2 (by rw [swp_len]; exact HN.out) (by omega) (by omega) (by omega) (by omega) (by omega))
  have HB2 := Lib.hid hB2
  have F2 := Lib.hid f2
  clear r2 g2 f2 hB2 CS CL mS
  go_wp2_with fail
  refine CD.out.mono ?_
  rintro e w3 ⟨⟨q, rfl⟩, r3, f3⟩
  have hB3 := f3.bk HB2.out (fun e => hgF e)
  have hl3 : (hDown dLt (m + 1) (swp l 0 m) 0 m).length = m + 1 := by
    have h1 : ∀ (f : Nat) (a : List Due) (i n : Nat), (hDown dLt f a i n).length = a.length := by
      intro f
      induction f with
      | zero => exact fun _ _ _ => rfl
      | succ f ih =>
        intro a i n
        unfold hDown
        split
        · rfl
        · split
          · split
            · rw [ih, swp_len]
            · rfl
          · rfl
    rw [h1, swp_len, HN.out]
  obtain ⟨x, hx⟩ : ∃ x, (hDown dLt (m + 1) (swp l 0 m) 0 m)[m]? = some x := ⟨_, List.getElem?_eq_getElem (by omega)⟩
  have CP := Lib.hid (gaPop0 w3 hB3 H4.out r3 hl3 (by omega) hx)
  have F3 := Lib.hid (F2.out.trans f3 fun _ _ e => e)
  clear hB3 r3 f3 hl3 hx CD
  go_wp2_with fail
  refine CP.out.mono ?_
  rintro e w4 ⟨rfl, hB4, hr4, hf4⟩
  have HB4 := Lib.hid hB4
  have HR4 := Lib.hid hr4
  have HF4 := Lib.hid hf4
  clear hB4 hr4 hf4 CP
  go_wp2_with fail
  go_ret
  have hres : (hDown dLt (m + 1) (swp l 0 m) 0 m).take m = hPop dLt l := by
    unfold hPop
    rw [HN.out]
    rfl
  exact ⟨⟨_, rfl⟩, HB4.out, hres ▸ HR4.out, (F3.out.mono fun b _ e => .inr e).trans HF4.out fun b _ e => .inl e⟩
end Go.Proofs.YtoojpagpkbcfjaaGreat


/- Layer 20: traces as keys of a map. -/
namespace Go.Proofs.YtoojpagpkbcfjaaGreat
open Go.RowKit Go.MapKept

theorem eqTr (W : World) (x y : Tr) : (Op.equal 37 (trV x) (trV y)).run Tryz.prog W = .ok (decide (x = y)) W := by
  obtain ⟨xh, xl⟩ := x
  obtain ⟨yh, yl⟩ := y
  simp only [Tr.mk.injEq, trV]
  rw [show Op.equal 37 (.agg #[.int .u64 xh, .int .u64 xl]) (.agg #[.int .u64 yh, .int .u64 yl]) = Op.equalIn 10000 37 (.agg #[.int .u64 xh, .int .u64 xl]) (.agg #[.int .u64 yh, .int .u64 yl]) from rfl]
  by_cases h1 : xh = yh
  · subst h1
    have e1 : ((xh : Int) == (xh : Int)) = true := by simp
    by_cases h2 : xl = yl
    · subst h2
      simp only [and_self, decide_true]
      go_simp
    · have e2 : ((xl : Int) == (yl : Int)) = false := by simp; omega
      simp only [h2, and_false, decide_false]
      go_simp
  · have e1 : ((xh : Int) == (yh : Int)) = false := by simp; omega
    simp only [h1, false_and, decide_false]
    go_simp
theorem chkTr (W : World) (em : Bool) (x : Tr) : (Instr.checkKey em 10000 37 (trV x)).run Tryz.prog W = .ok () W := by
  have c1 : ∀ W', (Instr.checkKey em 9999 35 (.int .u64 x.hi)).run Tryz.prog W' = .ok () W' := fun W' => MapKept.run_checkKey Tryz.underlying35 (by simp [IsKey]) em 9998
  have c2 : ∀ W', (Instr.checkKey em 9999 35 (.int .u64 x.lo)).run Tryz.prog W' = .ok () W' := fun W' => MapKept.run_checkKey Tryz.underlying35 (by simp [IsKey]) em 9998
  unfold Instr.checkKey
  go_simp
theorem trV_inj {x y : Tr} (h : trV x = trV y) : x = y := by
  obtain ⟨xh, xl⟩ := x
  obtain ⟨yh, yl⟩ := y
  simp at h
  obtain ⟨h1, h2⟩ := h
  have h1 : xh = yh := by omega
  have h2 : xl = yl := by omega
  subst h1 h2
  rfl
theorem findAskTr (W : World) (x : Tr) : ∀ (es : List MapEntry) (i : Nat), (∀ e ∈ es, ∃ y, e.key = trV y) →
    ((Instr.findAsking 37 (trV x) es i).run Tryz.prog W = .ok none W ∧ ∀ e ∈ es, e.key ≠ trV x) ∨ ∃ j e, (Instr.findAsking 37 (trV x) es i).run Tryz.prog W = .ok (some (i + j, e.val)) W ∧ es[j]? = some e ∧ e.key = trV x
  | [], i, _ => .inl ⟨rfl, by simp⟩
  | e :: es, i, h => by
    obtain ⟨y, hy⟩ := h e (.head _)
    have hq := eqTr W x y
    by_cases hxy : x = y
    · refine .inr ⟨0, e, ?_, rfl, by rw [hy, hxy]⟩
      rw [decide_eq_true hxy] at hq
      simp [Instr.findAsking, hy, Sem.run_bind, hq, Result.andThen]
    · rw [decide_eq_false hxy] at hq
      have hne : e.key ≠ trV x := fun e1 => hxy (trV_inj (e1.symm.trans hy))
      rcases findAskTr W x es (i + 1) (fun z hz => h z (.tail _ hz)) with ⟨h1, h2⟩ | ⟨j, e', h1, h2, h3⟩
      · exact .inl ⟨by simp [Instr.findAsking, hy, Sem.run_bind, hq, Result.andThen, h1], fun z hz => by
          cases hz with
          | head => exact hne
          | tail _ hz => exact h2 z hz⟩
      · exact .inr ⟨j + 1, e', by simp [Instr.findAsking, hy, Sem.run_bind, hq, Result.andThen, h1]; omega, by simpa using h2, h3⟩
theorem trRun : KeyRun Tryz.prog 37 trV where
  inj {x y} h := trV_inj h
  check W em x := chkTr W em x
  find W x es hes := by
    have hk : ∀ fs, Instr.findNow (.struct fs) (trV x) es 0 = if es = [] then some none else none := fun fs => by
      cases es with
      | nil => rfl
      | cons e es => rfl
    have hu := Tryz.underlying37
    have hrun : (Instr.findKey 37 (trV x) es).run Tryz.prog W = (Instr.findAsking 37 (trV x) es 0).run Tryz.prog W := by
      unfold Instr.findKey
      rw [Sem.run_bind, run_underlying hu]
      simp only [Result.andThen, hk]
      cases es with
      | nil => rfl
      | cons e es => rfl
    rcases findAskTr W x es 0 hes with ⟨h1, h2⟩ | ⟨j, e, h1, h2, h3⟩
    · exact .inl ⟨hrun.trans h1, h2⟩
    · exact .inr ⟨j, e, by rw [hrun, h1, Nat.zero_add], h2, h3⟩
  stays W x := by
    have h : Instr.sameBits 10000 (trV x) (trV x) = true := by simp [Instr.sameBits]
    unfold Instr.keyThatStays
    rw [h]
    rfl
end Go.Proofs.YtoojpagpkbcfjaaGreat


/- ref.Order: by insertion. -/
namespace Go.Proofs.YtoojpagpkbcfjaaGreat
open Go.RowKit
attribute [local go_sem ↓] loadK_shut
attribute [local go_sem ↓] appK_shut
attribute [local go_sem ↓] sliced_s
attribute [local go_sem ↓ high] sliced_s0

theorem insS_split (x : Sp) : ∀ (a b : List Sp), (∀ y ∈ a, ¬ spCmp x y < 0) → (∀ y ∈ b, spCmp x y < 0) → insS x (a ++ b) = a ++ x :: b
  | [], [], _, _ => rfl
  | [], y :: b, _, h => by simp [insS, h y (by simp)]
  | y :: a, b, h1, h2 => by
    rw [List.cons_append, insS, if_neg (h1 y (by simp)), insS_split x a b (fun z hz => h1 z (by simp [hz])) h2]
    rfl
theorem insS_at {x : Sp} {l : List Sp} {k : Nat} (hs : SortedS l) (hd : ∀ y ∈ l.drop k, spCmp x y < 0) (hl : k ≤ l.length) (hk : ∀ y, k ≠ 0 → l[k - 1]? = some y → ¬ spCmp x y < 0) : insS x l = l.take k ++ x :: l.drop k := by
  have h := insS_split x (l.take k) (l.drop k) (fun z hz => ?_) hd
  · rwa [List.take_append_drop] at h
  · obtain ⟨i, hi, rfl⟩ := List.mem_iff_getElem.1 hz
    simp only [List.length_take] at hi
    rw [List.getElem_take]
    have h1 := hk _ (by omega) (List.getElem?_eq_getElem (by omega : k - 1 < l.length))
    intro h2
    have h3 : spCmp l[i] (l[k - 1]'(by omega)) ≤ 0 := by
      by_cases hik : i = k - 1
      · subst hik
        rw [(spCmp_cmp.eq _ _).2 rfl]
        exact Int.le_refl _
      · exact (List.pairwise_iff_getElem.1 hs) i (k - 1) (by omega) (by omega) (by omega)
    have h4 := spCmp_cmp.le (show spCmp x l[i] ≤ 0 by omega) h3
    have h5 := (spCmp_cmp.eq _ _).1 (show spCmp x (l[k - 1]'(by omega)) = 0 by omega)
    have h6 := spCmp_cmp.neg l[i] (l[k - 1]'(by omega))
    rw [← h5] at h6 h3
    omega
theorem insS_sp {x : Sp} {l : List El} {k : Nat} (hs : SortedS (sps l)) (hd : ∀ y ∈ l.drop k, spCmp x y.s < 0) (hl : k ≤ l.length) (hk : ∀ y, k ≠ 0 → l[k - 1]? = some y → ¬ spCmp x y.s < 0) : insS x (sps l) = sps (l.take k) ++ x :: sps (l.drop k) := by
  have h := insS_at (x := x) (k := k) hs (fun y hy => by
    rw [sps, ← List.map_drop] at hy
    obtain ⟨e, he, rfl⟩ := List.mem_map.1 hy
    exact hd e he) (by rw [sps_length]; exact hl) (fun y h0 hy => by
    simp only [sps, List.getElem?_map, Option.map_eq_some_iff] at hy
    obtain ⟨e, he, rfl⟩ := hy
    exact hk e h0 he)
  rw [h]
  simp only [sps, List.map_take, List.map_drop]
set_option maxRecDepth 100000 in
set_option maxHeartbeats 4000000 in
theorem rOrder {A : Option Addr} {c n B : Nat} {l : List El} (w : World) (hf : RbS w B A l) (hn : l.length = n) (hB : B ≤ w.heap.size) (hnl : n ≤ 100000) (hsm : ∀ e ∈ l, e.n ≤ 1000000) :
    Calls Tryz.prog 50 #[.slice A n c] w (OutPost w n (ordS (sps l))) := by
  have HN := Lib.hid hn
  have HSM := Lib.hid hsm
  clear hn hsm
  go_enter Tryz.func50, Tryz.ntmps50
  go_wp2
  go_loopw [3, 4] (fun v iv_ wr => ∃ (j : Nat) (A' : Option Addr) (c' : Nat) (l' : List El), j ≤ n ∧ v = .slice A' j c' ∧ iv_ = .int .i64 j ∧ sps l' = ordS (sps (l.take j)) ∧ RowS wr w.heap.size (.slice A' j c') j l' ∧ Below w.heap.size w wr) (fun _ i _ => n - (intOf i).toNat)
  case atStart => exact ⟨0, none, 0, [], by omega, rfl, rfl, rfl, RowS.nil _ _, Below.refl _ _⟩
  case round =>
    obtain ⟨j, A', c', l', hj, rfl, rfl, hl', hrow, hb⟩ := hrel
    have HL := Lib.hid hl'
    clear hl'
    by_cases hlt : j < n
    · have hlt' : (j : Int) < (n : Int) := by omega
      obtain ⟨x, hx⟩ : ∃ x, l[j]? = some x := ⟨_, List.getElem?_eq_getElem (by rw [HN.out]; exact hlt)⟩
      have HX := Lib.hid hx
      have hxn := HSM.out x (List.mem_of_getElem? hx)
      obtain ⟨b, o, rfl, hbb, -, -⟩ := hf.get hx
      have HLOAD : Hid (∀ {W : World}, Below w.heap.size w W → (loadK 40 ⟨b, o + j * 11, none⟩).run Tryz.prog W = .ok (spV x.s x.A x.n x.c) W ∧ ElOk W B x) := fun {W} hW => by
        obtain ⟨b', o', e', -, hc', hok'⟩ := (hf.below (hW.mono hB)).get HX.out
        cases e'
        exact ⟨loadK_el hc', hok'⟩
      have hcap : l'.length ≤ c' := by rw [hrow.len]; exact hrow.cap
      have hjc := hrow.cap
      clear hx
      go_wp2
      obtain ⟨wO, hwO⟩ : ∃ wO, wO = wr := ⟨_, rfl⟩
      subst hwO
      go_loopw [5] (fun v wr2 => ∃ k : Nat, k ≤ j ∧ v = .int .i64 k ∧ (∀ y ∈ l'.drop k, spCmp x.s y.s < 0) ∧ Below wO.heap.size wO wr2) (fun v _ => (intOf v).toNat)
      case atStart => exact ⟨j, Nat.le_refl _, rfl, (fun y hy => by rw [List.drop_eq_nil_of_le (by rw [hrow.len]; exact Nat.le_refl _)] at hy; cases hy), Below.refl _ _⟩
      case round =>
        obtain ⟨k, hk, rfl, hall, hb2⟩ := hrel
        have HA := Lib.hid hall
        clear hall
        by_cases hk0 : k = 0
        · have k0 : decide ((0 : Int) < (k : Int)) = false := by simp; omega
          have k0' : decide (0 < k) = false := by simp; omega
          have HSP : Hid (insS x.s (sps l') = sps (l'.take k) ++ x.s :: sps (l'.drop k)) := insS_sp (by rw [HL.out]; exact ordS_sorted _) HA.out (by rw [hrow.len]; exact hk) (fun y h0 _ => absurd hk0 h0)
          go_wp2_with fail
          go_quiet (fail)
          have HK0 := Lib.hid hk0
          clear hk0 k0 k0'
          have HBW : Hid (Below wO.heap.size wO (wr.drewN nq)) := below_drewN hb2 nq
          obtain ⟨WX, hWX⟩ : ∃ WX, wr.drewN nq = WX := ⟨_, rfl⟩
          rw [hWX] at HBW ⊢
          clear hWX
          have hrowW := hrow.bS HBW.out
          have hbase : w.heap.size ≤ WX.heap.size := Nat.le_trans hb.size HBW.out.size
          have hkj : (k : Int) ≤ (j : Int) := by omega
          have hkc : (k : Int) ≤ (c' : Int) := by omega
          go_wp2_with (at_builtin; go_loud (refine wpList_appS _ rfl (.tmp 32) (.tmp 35) rfl WX.heap.size _ 0 [] rfl (World.ownsRow_lit WX #[] 0 (Nat.le_refl _) (by simp [maxLen]) rfl) WX.heap.size _ (j - k) _ (l'.drop k) rfl (by rw [List.length_drop, hrow.len]) (Rd.alloc (Rd.dropS (cap := c') hrowW.rbs.rd hcap) (Nat.le_refl _) _) (by omega) (by simp) ?_))
          intro A3 c3 w3 hap _
          have hap1 := hap.fresh1
          have hb3 := hap1.below0
          have hrow3 := hrowW.bS hb3
          have hlt3 := hb.trans ((HBW.out.trans (hb3.mono HBW.out.size)).mono hb.size)
          obtain ⟨hld, hokx⟩ := HLOAD.out hlt3
          have hldd : (loadK 40 ⟨b, o + j * 11, none⟩).run Tryz.prog w3.drew = .ok (spV x.s x.A x.n x.c) w3.drew := (HLOAD.out (below_drewN hlt3 1)).1
          have hokd := (HLOAD.out (below_drewN hlt3 1)).2
          have hBd : B ≤ w3.drew.heap.size := Nat.le_trans hB hlt3.size
          have hcp := rCopy (c := x.c) x.s w3.drew hokd.rd hokd.len hBd (by omega)
          have HCP := Lib.hid hcp
          clear hcp
          have hlo := hap1.lo
          have hownW := hrowW.own_lt
          have hne3 : ∀ a, A3 = some a → (Value.slice A' j c').ownBlock ≠ some a.block := fun a ha e1 => by
            have h1 := (hownW _ e1).1
            have h2 := (hlo a ha).1
            omega
          have hown3 := hap1.drew.own
          have hrow3d := hrow3.drewN 1
          have hbase3 : w.heap.size ≤ w3.drew.heap.size := hlt3.size
          go_wp2_with fail
          go_region_with
            (first
              | (go_at_call 45
                 refine HCP.out.mono ?_
                 rintro e w4 ⟨A4, c4, rfl, hr4, hb4, hc4, hlo4, -⟩
                 obtain ⟨A5, c5, w5, A6, c6, w6, hrun5, hrun6, hrow6, hb6⟩ := insRow (e := ⟨x.s, A4, x.n, c4⟩) w3.drew w4 hrow3d hk (by omega) hown3 hne3 hbase3 hb4 ⟨hr4, hokd.len, by show x.n ≤ _; omega⟩ hlo4
                 have HR6 := Lib.hid hrow6
                 clear hrow6)
              | fail)
          have hsps : sps (l'.take k ++ ⟨x.s, A4, x.n, c4⟩ :: l'.drop k) = ordS (sps (l.take (j + 1))) := by
            rw [take_snoc HX.out, sps_append, sps_append, show sps [x] = [x.s] from rfl, ordS_snoc, ← HL.out, HSP.out]
            rfl
          have HSS := Lib.hid hsps
          clear hsps
          go_wp2
          go_roundw
          case rel => exact ⟨j + 1, A6, c6, _, by omega, rfl, by go_num, HSS.out, HR6.out, (below_drewN hlt3 1).trans hb6⟩
          case measure => simp [intOf]; omega
        · obtain ⟨kk, hkk⟩ : ∃ kk, kk + 1 = k := ⟨k - 1, by omega⟩
          have k0 : (0 : Int) < (k : Int) := by omega
          have k0' : 0 < k := by omega
          have hsubw : IntKind.i64.wrap ((k : Int) - 1) = (kk : Int) := by simp [IntKind.wrap, IntKind.bits, IntKind.signed]; omega
          have hkj' : (kk : Int) < (j : Int) := by omega
          have hkjn : kk < j := by omega
          have hbd : Below wO.heap.size wO wr.drew := below_drewN hb2 1
          have hbwd : Below w.heap.size w wr.drew := hb.trans (hbd.mono hb.size)
          obtain ⟨hld1, hok1⟩ := HLOAD.out hbwd
          have hrowd := hrow.bS hbd
          obtain ⟨y, hy⟩ : ∃ y, l'[kk]? = some y := ⟨_, List.getElem?_eq_getElem (by rw [hrow.len]; omega)⟩
          have HY := Lib.hid hy
          obtain ⟨b2, o2, hAe, -, -, hok2⟩ := hrowd.rbs.get hy
          subst hAe
          have HLOAD2 : Hid (∀ {W : World}, Below wO.heap.size wO W → (loadK 40 ⟨b2, o2 + kk * 11, none⟩).run Tryz.prog W = .ok (spV y.s y.A y.n y.c) W) := fun {W} hW => by
            obtain ⟨b', o', e', -, hc', -⟩ := (hrow.bS hW).rbs.get HY.out
            cases e'
            exact loadK_el hc'
          have hld2 := HLOAD2.out hbd
          have hcm := rCompare (c1 := x.c) (c2 := y.c) x.s y.s wr.drew (hok1.more (Nat.le_trans hB hbwd.size)).rd hok2.rd hok1.len hok2.len (Nat.le_refl _) hok1.max hok2.max
          obtain ⟨cv, hcv⟩ : ∃ cv, spCmp x.s y.s = cv := ⟨_, rfl⟩
          rw [hcv] at hcm
          have HCV := Lib.hid hcv
          have HCM := Lib.hid hcm
          have HK0 := Lib.hid hk0
          have HKK := Lib.hid hkk
          clear hcm hcv hok1 hok2 hy hk0 hkk hrowd
          go_wp2_with fail
          go_region_held3 (fun w' => (loadK 40 ⟨b, o + j * 11, none⟩).run Tryz.prog w' = .ok (spV x.s x.A x.n x.c) w' ∧ (loadK 40 ⟨b2, o2 + kk * 11, none⟩).run Tryz.prog w' = .ok (spV y.s y.A y.n y.c) w')
            (first | exact ⟨hld1, hld2⟩ | exact ⟨hle1, hle2⟩)
            (first
              | (go_at_call 64
                 refine HCM.out.mono ?_
                 rintro e w5 ⟨rfl, hb5⟩
                 have hb05 := hbd.trans (hb5.mono hbd.size)
                 have hle1 := (HLOAD.out (hb.trans (hb05.mono hb.size))).1
                 have hle2 := HLOAD2.out hb05)
              | fail)
          by_cases hneg : cv < 0
          · have hall2 : ∀ z ∈ l'.drop kk, spCmp x.s z.s < 0 := fun z hz => by
              have h1 : l'.drop kk = y :: l'.drop (kk + 1) := by
                obtain ⟨h2, h3⟩ := List.getElem?_eq_some_iff.1 HY.out
                rw [List.drop_eq_getElem_cons h2, h3]
              rw [h1] at hz
              rcases List.mem_cons.1 hz with rfl | hz
              · rw [HCV.out]
                exact hneg
              · rw [HKK.out] at hz
                exact HA.out z hz
            have HA2 := Lib.hid hall2
            clear hall2 hld1 hld2 hle1 hle2
            go_wp2
            go_roundw
            case rel => exact ⟨kk, by omega, by go_num, HA2.out, hb05⟩
            case measure =>
              have := HKK.out
              simp [intOf]
              omega
          · have hnegd : decide (cv < 0) = false := by simp; omega
            have HSP : Hid (insS x.s (sps l') = sps (l'.take k) ++ x.s :: sps (l'.drop k)) := insS_sp (by rw [HL.out]; exact ordS_sorted _) HA.out (by rw [hrow.len]; exact hk) (fun z h0 hz => by
              rw [show k - 1 = kk from by have := HKK.out; omega, HY.out] at hz
              cases hz
              rw [HCV.out]
              exact hneg)
            have HBW : Hid (Below wO.heap.size wO w5) := hb05
            obtain ⟨WX, hWX⟩ : ∃ WX, w5 = WX := ⟨_, rfl⟩
            subst hWX
            clear hld1 hld2 hle1 hle2 hsubw k0 k0' hkj' hkjn
            have hrowW := hrow.bS HBW.out
            have hbase : w.heap.size ≤ w5.heap.size := Nat.le_trans hb.size HBW.out.size
            have hkj : (k : Int) ≤ (j : Int) := by omega
            have hkc : (k : Int) ≤ (c' : Int) := by omega
            go_wp2_with (at_builtin; go_loud (refine wpList_appS _ rfl (.tmp 32) (.tmp 35) rfl w5.heap.size _ 0 [] rfl (World.ownsRow_lit w5 #[] 0 (Nat.le_refl _) (by simp [maxLen]) rfl) w5.heap.size _ (j - k) _ (l'.drop k) rfl (by rw [List.length_drop, hrow.len]) (Rd.alloc (Rd.dropS (cap := c') hrowW.rbs.rd hcap) (Nat.le_refl _) _) (by omega) (by simp) ?_))
            intro A3 c3 w3 hap _
            have hap1 := hap.fresh1
            have hb3 := hap1.below0
            have hrow3 := hrowW.bS hb3
            have hlt3 := hb.trans ((HBW.out.trans (hb3.mono HBW.out.size)).mono hb.size)
            obtain ⟨hld, hokx⟩ := HLOAD.out hlt3
            have hldd : (loadK 40 ⟨b, o + j * 11, none⟩).run Tryz.prog w3.drew = .ok (spV x.s x.A x.n x.c) w3.drew := (HLOAD.out (below_drewN hlt3 1)).1
            have hokd := (HLOAD.out (below_drewN hlt3 1)).2
            have hBd : B ≤ w3.drew.heap.size := Nat.le_trans hB hlt3.size
            have hcp := rCopy (c := x.c) x.s w3.drew hokd.rd hokd.len hBd (by omega)
            have HCP := Lib.hid hcp
            clear hcp
            have hlo := hap1.lo
            have hownW := hrowW.own_lt
            have hne3 : ∀ a, A3 = some a → (Value.slice (some ⟨b2, o2, none⟩) j c').ownBlock ≠ some a.block := fun a ha e1 => by
              have h1 := (hownW _ e1).1
              have h2 := (hlo a ha).1
              omega
            have hown3 := hap1.drew.own
            have hrow3d := hrow3.drewN 1
            have hbase3 : w.heap.size ≤ w3.drew.heap.size := hlt3.size
            go_wp2_with fail
            go_region_with
              (first
                | (go_at_call 45
                   refine HCP.out.mono ?_
                   rintro e w4 ⟨A4, c4, rfl, hr4, hb4, hc4, hlo4, -⟩
                   obtain ⟨A5, c5, w5, A6, c6, w6, hrun5, hrun6, hrow6, hb6⟩ := insRow (e := ⟨x.s, A4, x.n, c4⟩) w3.drew w4 hrow3d hk (by omega) hown3 hne3 hbase3 hb4 ⟨hr4, hokd.len, by show x.n ≤ _; omega⟩ hlo4
                   have HR6 := Lib.hid hrow6
                   clear hrow6)
                | fail)
            have hsps : sps (l'.take k ++ ⟨x.s, A4, x.n, c4⟩ :: l'.drop k) = ordS (sps (l.take (j + 1))) := by
              rw [take_snoc HX.out, sps_append, sps_append, show sps [x] = [x.s] from rfl, ordS_snoc, ← HL.out, HSP.out]
              rfl
            have HSS := Lib.hid hsps
            clear hsps
            go_wp2
            go_roundw
            case rel => exact ⟨j + 1, A6, c6, _, by omega, rfl, by go_num, HSS.out, HR6.out, (below_drewN hlt3 1).trans hb6⟩
            case measure => simp [intOf]; omega
    · have hlt' : decide ((j : Int) < (n : Int)) = false := by simp; omega
      obtain rfl : j = n := by omega
      have hfin : sps l' = ordS (sps l) := by rw [HL.out, List.take_of_length_le (by rw [HN.out]; omega)]
      have HF := Lib.hid hfin
      clear hfin
      go_wp2
      go_ret
      exact ⟨A', c', l', rfl, HF.out, hrow, hb⟩
end Go.Proofs.YtoojpagpkbcfjaaGreat

