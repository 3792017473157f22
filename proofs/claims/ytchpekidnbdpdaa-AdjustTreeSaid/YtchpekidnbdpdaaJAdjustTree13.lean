/- Texts of the proof of AdjustTreeSaid, joined: PlA PlB LeA. -/
import Derived.RangeFuncNested
import Derived.RangeFuncBound
import Derived.RangeFuncCalls
import Derived.RangeFuncLeaves
import Derived.RangeFuncBox
import Derived.Shelf.Abstract
import Derived.Shelf.RegionOpen
import Derived.WalkKit
import Derived.OwnWalkIn
import Derived.TacticsInMore
import Derived.LoopNIn
import Derived.LoopIn
import Derived.Maps.AppendAt
import Derived.Sort.QuietIn
import Derived.Deep.Onto
import Derived.Test.YtchpekidnbdpdaaJAdjustTree9
import Derived.Test.YtchpekidnbdpdaaJAdjustTree10
import Derived.Test.YtchpekidnbdpdaaJAdjustTree11
/- Layer 21: slices.Backward of adjusted spans: its iterator. -/
namespace Go.Proofs.Ytchpekidnbdpdaa
open Go.RowKit Go.Shelf
theorem loadAd_shutP (a : Addr) : loadVar 47 a = loadK 47 a := rfl
attribute [local go_sem] Oper.semAt_some
attribute [local go_sem ↓] loadAd_shutP

/-- What a round keeps: all cells. -/
structure KpC (W W' : World) : Prop where
  size : W.heap.size ≤ W'.heap.size
  cells : ∀ (b : Nat) cs t fr, W.heap[b]? = some (Obj.cells cs t fr) → W'.heap[b]? = W.heap[b]?
theorem KpC.refl (W : World) : KpC W W := ⟨Nat.le_refl _, fun _ _ _ _ _ => rfl⟩
theorem KpC.trans {A B C : World} (h : KpC A B) (k : KpC B C) : KpC A C :=
  ⟨Nat.le_trans h.size k.size, fun b cs t fr hb => by
    have h1 := h.cells b cs t fr hb
    exact (k.cells b cs t fr (h1.trans hb)).trans h1⟩
theorem KpC.put (W : World) (l : Nat) (o o' : Obj) (h : W.heap[l]? = some o) (hc : o.isCells = false) : KpC W (W.putObj l o') :=
  ⟨by simp [World.putObj], fun b cs t fr hb => World.putObj_heap_other (fun e => by
    subst e
    rw [h] at hb
    cases hb
    cases hc)⟩
theorem KpC.cell {W W' : World} (h : KpC W W') {a : Addr} {v : Value} (hc : W.cell? a = some v) : W'.cell? a = some v := by
  have hb : ∃ cs t fr, W.heap[a.block]? = some (Obj.cells cs t fr) := by
    unfold World.cell? at hc
    cases hq : W.heap[a.block]? with
    | none => rw [hq] at hc; cases hc
    | some o =>
      cases o with
      | cells cs t fr => exact ⟨cs, t, fr, rfl⟩
      | _ => rw [hq] at hc; cases hc
  obtain ⟨cs, t, fr, hb⟩ := hb
  rw [← hc]
  unfold World.cell?
  rw [h.cells _ _ _ _ hb]
theorem KpC.rd {W W' : World} (h : KpC W W') {B : Nat} {A : Option Addr} {xs : List Value} (hr : Rd W B A xs) : Rd W' B A xs := fun hne => by
  obtain ⟨b, o, hA, hlt, hc⟩ := hr hne
  exact ⟨b, o, hA, hlt, fun j u hu => h.cell (hc j u hu)⟩
theorem KpC.bk {W W' : World} (h : KpC W W') {b : Nat} {t : TypeId} {cs : Array Value} (hb : Bk W b t cs) : Bk W' b t cs := (h.cells b _ _ _ hb).trans hb
/-- What comes of a list, the last first. -/
def bwG : List AE → Nat → List (Nat × AE)
  | [], _ => []
  | x :: l, i => bwG l (i + 1) ++ [(i, x)]
theorem bwG_len : ∀ (l : List AE) (i : Nat), (bwG l i).length = l.length
  | [], _ => rfl
  | x :: l, i => by rw [bwG, List.length_append, bwG_len l]; rfl
theorem bwG_drop {l : List AE} {k : Nat} {x : AE} (h : l[k]? = some x) : bwG (l.drop k) k = bwG (l.drop (k + 1)) (k + 1) ++ [(k, x)] := by
  rw [List.drop_eq_getElem_cons (List.getElem?_eq_some_iff.1 h).1, bwG, (List.getElem?_eq_some_iff.1 h).2]
set_option maxRecDepth 100000 in
theorem bwFn (N : Nat) (A : Option Addr) (n c : Nat) (w : World) :
    CallsIn Fence.wide N Try.prog 70 #[.slice A n c] w fun e w' => e = .returned (.func (.func 81) #[] #[ptV w.heap.size]) ∧ w' = w.alloc (.cells #[.slice A n c] 23) := by
  have hmf : ∀ (fn : Fn) (first cap : Array Value) (w : World), (Instr.makeFunc fn first cap).run Try.prog w = .ok (.func fn first cap) w := fun _ _ _ _ => rfl
  refine callsIn_of_wp Try.func70 rfl trivial ?_ rfl
  simp only [Try.ntmps70, List.size_toArray, List.length_cons, List.length_nil, Nat.reduceAdd, Nat.reduceSub, Array.replicate_succ, Array.replicate_zero, List.push_toArray, List.append_toArray, List.nil_append, List.cons_append]
  gi_wp2
  go_ret
  exact ⟨rfl, rfl⟩
set_option maxRecDepth 100000 in
set_option maxHeartbeats 2000000 in
theorem bw1_in (N : Nat) (hN : 1 ≤ N) (l Bn B : Nat) {A : Option Addr} {n c : Nat} {xs : List AE} (hn : xs.length = n) (hz : n ≤ 1000000)
    (J Jx : List (Nat × AE) → World → Prop) (W : World) (hB : Bk W Bn 23 #[.slice A n c]) (hr : Rd W B A (aes xs)) (hJ0 : J [] W)
    (hY : ∀ pre (x : Nat × AE) W1, J pre W1 → pre.length < n → YieldAt Fence.wide (N - 1) Try.prog l #[.int .i64 (x.1 : Nat), adV x.2.a x.2.A x.2.n x.2.c] W1 fun e W' =>
      (e = .returned (.bool true) ∧ J (pre ++ [x]) W' ∧ KpC W1 W') ∨ (e = .returned (.bool false) ∧ Jx (pre ++ [x]) W')) :
    CallsIn Fence.wide N Try.prog 81 #[.func (.yield l) #[] #[], ptV Bn] W fun e W' => (∃ v, e = .returned v) ∧
      ((∃ ys, ys = bwG xs 0 ∧ J ys W') ∨ (∃ pre : List (Nat × AE), True ∧ Jx pre W')) := by
  have c0 : W.cell? ⟨Bn, 0, none⟩ = some (.slice A n c) := by rw [hB.cell 0]; rfl
  have HY := Lib.hid hY
  have HB := Lib.hid hB
  have HR := Lib.hid hr
  have HN := Lib.hid hn
  have rn : IntKind.i64.wrap ((n : Int) - 1) = (n : Int) - 1 := by rw [IntKind.wrap_i64]; omega
  clear hY hB hr hn
  refine callsIn_of_wp Try.func81 rfl trivial ?_ rfl
  simp only [Try.ntmps81, List.size_toArray, List.length_cons, List.length_nil, Nat.reduceAdd, Nat.reduceSub, Array.replicate_succ, Array.replicate_zero, List.push_toArray, List.append_toArray, List.nil_append, List.cons_append]
  gi_wp2
  gi_loopw [3] (fun i_ wr => ∃ k : Nat, k ≤ n ∧ i_ = .int .i64 ((k : Int) - 1) ∧ Hid (KpC W wr) ∧ Hid (J (bwG (xs.drop k) k) wr)) (fun i_ _ => (intOf i_ + 1).toNat)
  case atStart => exact ⟨n, Nat.le_refl _, rfl, Lib.hid (KpC.refl W), (by
    show J _ _
    rw [List.drop_eq_nil_of_le (by rw [HN.out]; omega)]
    exact hJ0)⟩
  case round =>
    obtain ⟨k, hk, rfl, HK, HJ1⟩ := hrel
    clear rn
    cases k with
    | zero =>
      have hlt' : decide ((0 : Int) ≤ ((0 : Nat) : Int) - 1) = false := by simp
      gi_wp2
      go_end0
      exact ⟨⟨_, rfl⟩, .inl ⟨_, rfl, HJ1.out⟩⟩
    | succ k =>
      have ek : ((k + 1 : Nat) : Int) - 1 = (k : Int) := by omega
      rw [ek]
      have hlt' : decide ((0 : Int) ≤ (k : Int)) = true := by simp
      have hkn : (k : Int) < (n : Int) := by omega
      have rk : IntKind.i64.wrap ((k : Int) - 1) = (k : Int) - 1 := by rw [IntKind.wrap_i64]; omega
      obtain ⟨x, hx⟩ : ∃ x, xs[k]? = some x := ⟨_, List.getElem?_eq_getElem (by rw [HN.out]; omega)⟩
      have c1 := HK.out.cell c0
      obtain ⟨b, o, rfl, -, hc⟩ := flatR_at aeC_length (by omega) (HK.out.rd HR.out) hx
      have hld := loadK_ae hc
      obtain ⟨fn, tmps, assign, body, hy, hRY⟩ := HY.out (bwG (xs.drop (k + 1)) (k + 1)) (k, x) wr HJ1.out (by rw [bwG_len, List.length_drop, HN.out]; omega)
      have HT : Hid (bwG (xs.drop k) k = bwG (xs.drop (k + 1)) (k + 1) ++ [(k, x)]) := bwG_drop hx
      clear hc hx ek
      gi_wp2
      refine hRY.mono ?_
      rintro e W3 (⟨rfl, hJ3, hk3⟩ | ⟨rfl, hJx3⟩)
      · have HK3 := Lib.hid (HK.out.trans hk3)
        have HJ3 : Hid (J (bwG (xs.drop k) k) W3) := Lib.hid (by rw [HT.out]; exact hJ3)
        clear hJ3 hk3
        gi_wp2
        exact ⟨⟨k, by omega, rfl, HK3, HJ3⟩, by simp only [intOf]; omega⟩
      · gi_wp2
        refine bodyPost_ret (results_none rfl _ _ _) rfl ?_
        exact ⟨⟨_, rfl⟩, .inr ⟨_, trivial, hJx3⟩⟩
theorem bw_stops (N : Nat) (hN : 1 ≤ N) (Bn B : Nat) {A : Option Addr} {n c : Nat} {xs : List AE} (hn : xs.length = n) (hz : n ≤ 1000000) (w : World) (hB : Bk w Bn 23 #[.slice A n c]) (hr : Rd w B A (aes xs)) (hBw : B ≤ w.heap.size) :
    SeqStopsK Fence.wide N Try.prog 81 #[ptV Bn] (fun x : Nat × AE => #[.int .i64 (x.1 : Nat), adV x.2.a x.2.A x.2.n x.2.c]) KpC (fun ys => ys = bwG xs 0) (fun _ => True) n w := fun l J Jx W hW hJ _ hY hj =>
  bw1_in N hN l Bn B hn hz J Jx W (hB.below hW hB.lt) (Rd.below hr (hW.mono hBw)) hj hY
end Go.Proofs.Ytchpekidnbdpdaa


/- Layer 21: places: a map of each ID to where it first stands. -/
namespace Go.Proofs.Ytchpekidnbdpdaa
open Go.RowKit Go.Shelf
attribute [local go_sem] Oper.semAt_some
abbrev idA (n : Nat) : Value := .int .u64 n
abbrev natV (n : Nat) : Value := .int .i64 n
theorem idRunA : KeyRun Try.prog 27 idA := intRun Try.underlying27
/-- The map behind some of them. -/
def pmA (ys : List (Nat × AE)) : List (Nat × Nat) := ys.foldl (fun L y => mgPut y.2.a.s.id y.1 L) []
theorem pmA_snoc (ys : List (Nat × AE)) (y : Nat × AE) : pmA (ys ++ [y]) = mgPut y.2.a.s.id y.1 (pmA ys) := by unfold pmA; rw [List.foldl_append]; rfl
theorem pmA_get (id : Nat) : ∀ (l : List AE) (i : Nat), mgGet id (pmA (bwG l i)) = (posA (l.map (·.a)) id).map (· + i)
  | [], i => rfl
  | x :: l, i => by
    rw [bwG, pmA_snoc, mgGet_put, pmA_get id l]
    show _ = Option.map (· + i) (List.findIdx? _ (x.a :: l.map (·.a)))
    rw [List.findIdx?_cons]
    by_cases h : id = x.a.s.id
    · rw [if_pos h, h]; simp
    · rw [if_neg h]
      have : decide (x.a.s.id = id) = false := decide_eq_false fun e => h e.symm
      rw [this]
      simp only [Bool.false_eq_true, if_false, Option.map_map]
      show Option.map _ (posA _ _) = _
      unfold posA
      congr 1
      funext j
      simp; omega
theorem pmA_pos (l : List AE) (id : Nat) : mgGet id (pmA (bwG l 0)) = posA (l.map (·.a)) id := by
  rw [pmA_get]; simp
/-- What places hands back. -/
def PlPost (w : World) (o : List Ad) (e : Ending) (w' : World) : Prop :=
  ∃ mb L, e = .returned (.map (some mb)) ∧ Mh idA natV w' mb L ∧ (∀ id, mgGet id L = posA o id) ∧ w.heap.size ≤ mb ∧ Below w.heap.size w w'
set_option maxRecDepth 100000 in
set_option maxHeartbeats 2000000 in
theorem ajPlaces {A : Option Addr} {n c B : Nat} {xs : List AE} (w : World) (hr : RbA w B A xs) (hn : xs.length = n) (hB : B ≤ w.heap.size) (hz : n ≤ 1000000) :
    Calls Try.prog 43 #[.slice A n c] w (PlPost w (xs.map (·.a))) := by
  refine (callsIn_wide (n := 4)).1 ?_
  have HR := Lib.hid hr
  have HN := Lib.hid hn
  clear hr hn
  have hmm := @run_makeMap Try.prog
  refine callsIn_of_wp_marks Try.func43 rfl trivial ?_ rfl
  simp only [Try.ntmps43, List.size_toArray, List.length_cons, List.length_nil, Nat.reduceAdd, Nat.reduceSub, Array.replicate_succ, Array.replicate_zero, List.push_toArray, List.append_toArray, List.nil_append, List.cons_append]
  gi_wp2_with (refine ⟨trivial, ?_⟩; gi_at_call 70; refine (bwFn _ _ _ _ _).mono ?_; rintro e w' ⟨rfl, rfl⟩)
  have hM0 := ((Mh.new (kv := idA) (vv := natV) w).alloc (.cells #[.map (some w.heap.size)] 69)).alloc (.cells #[.slice A n c] 23)
  have hX0 := (Boxed.new (w.alloc (.map #[] 0)) 69 (.map (some w.heap.size))).alloc (.cells #[.slice A n c] 23)
  have hB0 := Bk.new ((w.alloc (.map #[] 0)).alloc (.cells #[.map (some w.heap.size)] 69)) 23 #[.slice A n c]
  have hb2 : Below w.heap.size w (((w.alloc (.map #[] 0)).alloc (.cells #[.map (some w.heap.size)] 69)).alloc (.cells #[.slice A n c] 23)) := (((Below.refl _ w).alloc (Nat.le_refl _) _).alloc (by simp) _).alloc (by simp; omega) _
  obtain ⟨w2, e2⟩ : ∃ w2, (((w.alloc (.map #[] 0)).alloc (.cells #[.map (some w.heap.size)] 69)).alloc (.cells #[.slice A n c] 23)) = w2 := ⟨_, rfl⟩
  have s2 : w2.heap.size = w.heap.size + 3 := by rw [← e2]; simp
  rw [e2] at hM0 hX0 hB0 hb2 ⊢
  rw [World.size_alloc, World.size_alloc] at hB0
  rw [World.size_alloc] at hX0
  have hrd := Rd.below HR.out.rd (hb2.mono hB)
  obtain ⟨g, hg⟩ : ∃ g, w.heap.size = g := ⟨_, rfl⟩
  rw [hg] at hM0 hX0 hB0 hb2 s2 hB ⊢
  have HG := Lib.hid hg
  have HB2 := Lib.hid hb2
  clear e2 hg hmm
  refine wpIn_rangeFunc_ownH rfl (by omega) (gf := 81) (lb := #[ptV (g + 1 + 1)]) rfl trivial (enters_of Try.func81 (by kernel_rfl) rfl)
    (bw_stops 3 (by omega) (g + 1 + 1) B (c := c) HN.out hz w2 hB0 hrd (by omega)) (fun a b => a.trans b) (fun W l o o' _ ho hc _ => KpC.put W l o o' ho hc) (Below.refl _ _) (fun _ => rfl)
    (fun (pre : List (Nat × AE)) W => Mh idA natV W g (pmA pre) ∧ Boxed W (g + 1) 69 (.map (some g)) ∧ Below g w W)
    (fun _ _ _ => False)
    (fun pre W W' row hs hgr hrow => ⟨hs.1.of (hgr.block g hs.1.lt fun e => by have := (hrow g e.symm).1; omega), hs.2.1.kept hgr (fun e => by have := (hrow _ e.symm).1; omega), hs.2.2.trans ⟨hgr.os, hgr.tape, hgr.output, hgr.size, fun i hi => hgr.block i (by have := hs.1.lt; omega) (fun e => by have := (hrow i e.symm).1; omega)⟩⟩)
    (fun _ _ _ _ _ hs _ _ => hs)
    ⟨hM0, hX0, HB2.out⟩
    (fun x a' W => ∃ b, a' = { tmps := #[.slice A n c, undef, .map none, ptV (g + 1), .int .i64 (x.1 : Nat), ptV b, .map (some g), .slice A n c, .func (.func 81) #[] #[ptV (g + 1 + 1)], .int .i64 (x.1 : Nat), adV x.2.a x.2.A x.2.n x.2.c, undef, undef, undef, undef, undef, undef], defers := [] } ∧ Bk W b 47 (adC x.2.a x.2.A x.2.n x.2.c))
    (fun x a' _ W W' row hs hgr hrow => by
      obtain ⟨b, h1, h2⟩ := hs
      refine ⟨b, h1, (hgr.block b (Array.getElem?_eq_some_iff.1 h2).1 fun e => ?_).trans h2⟩
      obtain ⟨-, o, ho, hc⟩ := hrow b e.symm
      rw [show W.heap[b]? = _ from h2] at ho
      cases ho
      cases hc) ?assign ?body ?done ?stop
  case assign =>
    rintro l pre x W K ⟨h1, h2, h3⟩ hK
    have hbk := Bk.new W 47 (adC x.2.a x.2.A x.2.n x.2.c)
    have hsz := h2.lt
    have hk := hK { tmps := #[.slice A n c, undef, .map none, ptV (g + 1), .int .i64 (x.1 : Nat), ptV W.heap.size, .map (some g), .slice A n c, .func (.func 81) #[] #[ptV (g + 1 + 1)], .int .i64 (x.1 : Nat), adV x.2.a x.2.A x.2.n x.2.c, undef, undef, undef, undef, undef, undef], defers := [] } (W.alloc (.cells (adC x.2.a x.2.A x.2.n x.2.c) 47))
      ⟨by simp, fun k o _ hk _ => (Below.heap_alloc W _ k (Array.getElem?_eq_some_iff.1 hk).1).trans hk⟩ ⟨by simp, fun b cs t fr hb => Below.heap_alloc W _ b (Array.getElem?_eq_some_iff.1 hb).1⟩ ⟨h1.alloc _, h2.alloc _, h3.alloc (by omega) _⟩ ⟨_, rfl, hbk⟩
    have HK := Lib.hid hk
    clear h1 h2 h3 hK hbk hk
    gi_wp2
    exact HK.out
  case body =>
    rintro l pre x a' W hl - ⟨h1, h2, h3⟩ ⟨b, rfl, hbk⟩ hlt
    obtain ⟨es, cl, hrun, hm⟩ := run_mhPut idRunA Try.underlying69 h1 x.2.a.s.id x.1
    have c1 := h2.cell
    have c2 : W.cell? ⟨b, 2, none⟩ = some (.int .u64 x.2.a.s.id) := hbk.cell 2
    have hgr := putObj_grown W g (.map es cl)
    have hI : Mh idA natV (putObj W g (.map es cl)) g (pmA (pre ++ [x])) ∧ Boxed (putObj W g (.map es cl)) (g + 1) 69 (.map (some g)) ∧ Below g w (putObj W g (.map es cl)) := by
      rw [pmA_snoc]
      exact ⟨hm, h2.kept hgr (fun e => by have := Option.some.inj e; omega), h3.trans ⟨hgr.os, hgr.tape, hgr.output, hgr.size, fun i hi => hgr.block i (by have := h1.lt; omega) (fun e => by have := Option.some.inj e; omega)⟩⟩
    obtain ⟨es0, cl0, hob⟩ := h1.obj
    have hkeep : KeepsFrom w2.heap.size W (putObj W g (.map es cl)) := ⟨hgr.size, fun k o hk hko _ => (hgr.block k (Array.getElem?_eq_some_iff.1 hko).1 fun e => by have := Option.some.inj e; omega).trans hko⟩
    have hkc : KpC W (putObj W g (.map es cl)) := ⟨hgr.size, fun k cs t fr hk => hgr.block k (Array.getElem?_eq_some_iff.1 hk).1 fun e => by
      have := Option.some.inj e
      subst this
      rw [hob] at hk
      cases hk⟩
    have HI := Lib.hid hI
    have HKC := Lib.hid hkc
    have HKE := Lib.hid hkeep
    clear hI hkc hkeep hgr hm h1 h2 h3 hbk hob
    gi_wp2
    exact ⟨HKE.out, HKC.out, HI.out⟩
  case done =>
    rintro D ys W hD rfl ⟨h1, h2, h3⟩ hK
    have hc := h2.cell
    have HW1 := Lib.hid h1
    have HW3 := Lib.hid h3
    clear h1 h2 h3
    gi_wp2
    refine ⟨by simp, .inl ⟨_, _, rfl, run_takeDeferred hK, ?_⟩⟩
    have hgr := putObj_grown W D (.deferred none)
    have hl := HW1.out.lt
    refine ⟨_, results_tmp rfl _ _ _, g, _, rfl, HW1.out.of (hgr.block g hl fun e => by have := Option.some.inj e; omega), fun id => pmA_pos xs id, by rw [HG.out]; exact Nat.le_refl _, ?_⟩
    rw [HG.out]
    exact HW3.out.trans ⟨hgr.os, hgr.tape, hgr.output, hgr.size, fun i hi => hgr.block i (by omega) (fun e => by have := Option.some.inj e; omega)⟩
  case stop =>
    rintro D c pre W _ _ h _
    exact h.elim
end Go.Proofs.Ytchpekidnbdpdaa


/- Layer 21: least: the least ID of the cycle that a span is on. -/
namespace Go.Proofs.Ytchpekidnbdpdaa
open Go.RowKit
/-- Where an ID is: as a place, and as the document's number. -/
theorem posA_none {o : List Ad} {u : List Sp} (hu : o.map (·.s) = u) {id : Nat} (h : posA o id = none) : plc u id < 0 := by
  refine plcG_neg.2 fun x hx e => ?_
  rw [← hu] at hx
  obtain ⟨a, ha, rfl⟩ := List.mem_map.1 hx
  have := List.findIdx?_eq_none_iff.1 h a ha
  simp [e] at this
theorem plcG_find {id : Nat} : ∀ (o : List Ad) (i j : Nat), posA o id = some j → plcG id (o.map (·.s)) i = ((i + j : Nat) : Int)
  | [], i, j, h => by cases h
  | x :: o, i, j, h => by
    unfold posA at h
    rw [List.findIdx?_cons] at h
    show (if x.s.id = id then (i : Int) else plcG id (o.map (·.s)) (i + 1)) = _
    by_cases hx : x.s.id = id
    · rw [if_pos (decide_eq_true hx)] at h
      rw [if_pos hx, ← Option.some.inj h]; simp
    · rw [if_neg (by simp [hx])] at h
      rw [if_neg hx]
      cases hq : posA o id with
      | none => unfold posA at hq; rw [hq] at h; cases h
      | some k =>
        have hq' := hq
        unfold posA at hq'
        rw [hq'] at h
        have : k + 1 = j := Option.some.inj h
        rw [plcG_find o (i + 1) k hq, ← this]
        congr 1
        omega
theorem posA_some {o : List Ad} {u : List Sp} (hu : o.map (·.s) = u) {id j : Nat} (h : posA o id = some j) : plc u id = (j : Int) := by
  rw [← hu]
  unfold plc
  rw [plcG_find o 0 j h]; simp
theorem lstGo_zero (u : List Sp) (id n b : Nat) : lstGo u id n 0 b = none := by cases n <;> simp [lstGo]
set_option maxRecDepth 100000 in
set_option maxHeartbeats 4000000 in
theorem ajLeast {A : Option Addr} {n c B mb i : Nat} {xs : List AE} {L : List (Nat × Nat)} {x : AE} (w : World) (hr : RbA w B A xs) (hn : xs.length = n) (hB : B ≤ w.heap.size) (hz : n ≤ 1000000)
    (hM : Mh idA natV w mb L) (hL : ∀ id, mgGet id L = posA (xs.map (·.a)) id) (hi : xs[i]? = some x) (hu : x.a.s.U64) :
    Calls Try.prog 44 #[.slice A n c, .map (some mb), .int .i64 (i : Nat)] w fun e w' =>
      e = .returned (.tuple #[.int .u64 ((lst (xs.map (·.a.s)) x.a.s).getD 0 : Nat), .bool (lst (xs.map (·.a.s)) x.a.s).isSome]) ∧ Below w.heap.size w w' := by
  have mixed : Try.prog.follows .mixedOrders = true := by kernel_rfl
  obtain ⟨b, o, rfl, hb, hc, hok⟩ := hr.get hi
  have hin : i < n := by rw [← hn]; exact (List.getElem?_eq_some_iff.1 hi).1
  have hinz : (i : Int) < (n : Int) := by omega
  have c2 : w.cell? ⟨b, o + i * 14 + 2, none⟩ = some (.int .u64 x.a.s.id) := by rw [Nat.add_assoc, hc 2 (by omega)]; rfl
  have c3 : w.cell? ⟨b, o + i * 14 + 3, none⟩ = some (.int .u64 x.a.s.parent) := by rw [Nat.add_assoc, hc 3 (by omega)]; rfl
  obtain ⟨R, hR⟩ : ∃ R, lst (xs.map (·.a.s)) x.a.s = R := ⟨_, rfl⟩
  rw [hR]
  have HL : Hid (xs.length = n) := hn
  have HR : Aside _ := hr
  have HM : Aside _ := hM
  have HLL : Aside _ := hL
  have HRR := Lib.hid hR
  clear hr hM hL hR hc hok hn hi
  go_enter Try.func44, Try.ntmps44
  go_wp2_with fail
  go_quiet (fail)
  have hb1 : Below w.heap.size w (w.drewN nq) := below_drewN (Below.refl _ w) nq
  have hM1 := Mh.drewN HM.out nq
  have hR1 := HR.out.below (hb1.mono hB)
  obtain ⟨w1, hw1⟩ : ∃ w1, w.drewN nq = w1 := ⟨_, rfl⟩
  rw [hw1] at hb1 hM1 hR1 ⊢
  have HM1 : Aside _ := hM1
  have HR1 : Aside _ := hR1
  have HB1 : Aside _ := hb1
  clear hb1 hM1 hR1 hw1 HM HR c2 c3
  obtain ⟨id, hid⟩ : ∃ id, x.a.s.id = id := ⟨_, rfl⟩
  obtain ⟨p0, hp0⟩ : ∃ p0, x.a.s.parent = p0 := ⟨_, rfl⟩
  have hR2 : lstGo (xs.map (·.a.s)) id n p0 id = R := by
    have := HRR.out
    unfold lst at this
    rw [List.length_map, HL.out, hid, hp0] at this
    exact this
  rw [hid, hp0]
  have HR2 : Hid (lstGo (xs.map (·.a.s)) id n p0 id = R) := hR2
  clear hR2 hid hp0 hu
  go_wp2
  go_loopw [9, 10, 28] (fun vx vb vt wr => ∃ t y bst : Nat, vx = .int .u64 (y : Nat) ∧ vb = .int .u64 (bst : Nat) ∧ vt = .int .i64 (t : Nat) ∧ t ≤ n ∧ w1 = wr ∧ Hid (lstGo (xs.map (·.a.s)) id (n - t) y bst = R)) (fun _ _ vt _ => n - (intOf vt).toNat)
  case atStart => exact ⟨0, p0, id, rfl, rfl, rfl, Nat.zero_le _, rfl, HR2⟩
  case round =>
    obtain ⟨t, y, bst, rfl, rfl, rfl, ht, hw, HG⟩ := hrel
    subst hw
    clear HR2
    by_cases hlt : t < n
    · have hltz : (t : Int) < (n : Int) := by omega
      obtain ⟨m, hm⟩ : ∃ m, n - t = m + 1 := ⟨n - t - 1, by omega⟩
      have hg := HG.out
      rw [hm, lstGo] at hg
      by_cases hy0 : y = 0
      · subst hy0
        rw [if_pos rfl] at hg
        have HG2 := Lib.hid hg
        clear hg
        go_wp2
        go_ret2
        exact ⟨by rw [← HG2.out]; rfl, HB1.out⟩
      · rw [if_neg hy0] at hg
        have hy0z : ((y : Int) == 0) = false := by simp; omega
        by_cases hyi : y = id
        · subst hyi
          rw [if_pos rfl] at hg
          have HG2 := Lib.hid hg
          clear hg
          go_wp2
          go_ret2
          exact ⟨by rw [← HG2.out]; rfl, HB1.out⟩
        · rw [if_neg hyi] at hg
          have hyiz : ((y : Int) == (id : Int)) = false := by simp; omega
          have hlk := run_mhLook (z := .int .i64 0) (e := 3) idRunA Try.underlying69 (by simp [Try.zeroValue3]) HM1.out y true
          rw [HLL.out y] at hlk
          cases hp : posA (xs.map (·.a)) y with
          | none =>
            rw [hp] at hlk
            have hpl := posA_none (u := xs.map (·.a.s)) (by rw [List.map_map]; rfl) hp
            rw [if_pos hpl] at hg
            have HG2 := Lib.hid hg
            simp only [if_true, Option.map_none, Option.getD_none, Option.isSome_none] at hlk
            clear hg hp hpl
            go_wp2
            go_ret2
            exact ⟨by rw [← HG2.out]; rfl, HB1.out⟩
          | some k =>
            rw [hp] at hlk
            have hpl := posA_some (u := xs.map (·.a.s)) (by rw [List.map_map]; rfl) hp
            obtain ⟨ya, hya, -⟩ := posA_lt hp
            rw [List.getElem?_map] at hya
            obtain ⟨e, he⟩ : ∃ e, xs[k]? = some e := by
              cases hq : xs[k]? with
              | none => rw [hq] at hya; cases hya
              | some e => exact ⟨e, rfl⟩
            have hkn : k < n := by rw [← HL.out]; exact (List.getElem?_eq_some_iff.1 he).1
            have hknz : (k : Int) < (n : Int) := by omega
            rw [if_neg (by rw [hpl]; omega), hpl, Int.toNat_natCast, List.getElem?_map, he] at hg
            obtain ⟨b', o', e', -, hc, -⟩ := HR1.out.get he
            cases e'
            have c3 : w1.cell? ⟨b, o + k * 14 + 3, none⟩ = some (.int .u64 e.a.s.parent) := by rw [Nat.add_assoc, hc 3 (by omega)]; rfl
            have hmz : min (bst : Int) (y : Int) = ((min bst y : Nat) : Int) := by omega
            have HG2 : Hid (lstGo (xs.map (·.a.s)) id m e.a.s.parent (min bst y) = R) := hg
            simp only [if_true, Option.map_some, Option.getD_some, Option.isSome_some] at hlk
            have HMT := Lib.hid hm
            have HMZ := Lib.hid hmz
            clear hg hp hpl hya he hc hm hmz
            go_wp2
            go_roundw
            case rel =>
              have hm := HMT.out
              refine ⟨t + 1, e.a.s.parent, min bst y, rfl, ?_, by go_num, by omega, by trivial, ?_⟩
              · by_cases hyb : y < bst
                · rw [if_pos hyb, show min bst y = y by omega]
                · rw [if_neg hyb, show min bst y = bst by omega]
              · show lstGo _ _ _ _ _ = _
                rw [show n - (t + 1) = m by omega]
                exact HG2.out
            case measure => simp [intOf]; omega
    · have hltz : ¬ (t : Int) < (n : Int) := by omega
      have hg := HG.out
      rw [show n - t = 0 by omega, lstGo] at hg
      have HG2 := Lib.hid hg
      clear hg
      go_wp2
      go_ret2
      exact ⟨by rw [← HG2.out]; rfl, HB1.out⟩
end Go.Proofs.Ytchpekidnbdpdaa

