/- Texts of the proof of VfsScriptSaid, joined: VfD VfE Qb Byt Off Clone Round Row. -/
import Derived.Test.YtdjmmdhjjdnbdaaJVfsScript1
import Derived.Deep.QuietTactic
import Derived.BigQuiet
import Derived.Test.YtdjmmdhjjdnbdaaProg
import Derived.Lib.SliceRun
import Derived.StillTailTactics
import Derived.RangeFuncNested
import Derived.RangeFuncCalls
import Derived.TacticsInMore
/- Layer 4: nobody made it; names that are none. -/
namespace Go.Proofs.Ytdjmmdhjjdnbdaa
open Go.RowKit

set_option maxRecDepth 100000 in
theorem vfNone {base F : Nat} {w : World} {K : Nat → Prop} {S : VSt} {m : VMem} (h : Vf base w K F S m) :
    Calls Try.prog 44 #[ptV F] w fun e w' => e = .returned (.bool false) ∧ w' = w := by
  have hc := h.blk.cell 0
  simp [fsC] at hc
  have HF := Lib.hid h
  clear h
  go_enter Try.func44, Try.ntmps44
  go_wp2_with fail
  go_ret
  exact ⟨rfl, rfl⟩
set_option maxRecDepth 100000 in
theorem vfNoneNil (w : World) :
    Calls Try.prog 44 #[.pointer none] w fun e w' => e = .returned (.bool true) ∧ w' = w := by
  go_enter Try.func44, Try.ntmps44
  go_wp2_with fail
  go_ret
  exact ⟨rfl, rfl⟩
set_option maxRecDepth 100000 in
theorem vfNoneZero {F : Nat} (w : World) (h : w.cell? ⟨F, 0, none⟩ = some (.bool false)) :
    Calls Try.prog 44 #[ptV F] w fun e w' => e = .returned (.bool true) ∧ w' = w := by
  go_enter Try.func44, Try.ntmps44
  go_wp2_with fail
  go_ret
  exact ⟨rfl, rfl⟩
set_option maxRecDepth 100000 in
theorem vfBad1 (w : World) (s : ByteArray) (hm : s.size ≤ 9223372036854775806) :
    Calls Try.prog 68 #[.string s] w fun e w' => e = .returned (.bool (!vName s)) ∧ w' = w := by
  have hv := vfName w s hm
  go_enter Try.func68, Try.ntmps68
  go_wp2_with fail
  refine hv.mono ?_
  rintro e w' ⟨rfl, rfl⟩
  go_wp2_with fail
  go_ret
  exact ⟨rfl, rfl⟩
/-- The first of the names that is none. -/
def badAt : List ByteArray → Nat → Int
  | [], _ => -1
  | x :: l, i => if vName x = false then (i : Int) else badAt l (i + 1)
theorem badAt_lo : ∀ (l : List ByteArray) (i : Nat), badAt l i = -1 ∨ 0 ≤ badAt l i
  | [], _ => .inl rfl
  | x :: l, i => by
    rw [badAt]
    split
    · right; omega
    · exact badAt_lo l (i + 1)
theorem badAt_iff : ∀ (l : List ByteArray) (i : Nat), decide (0 ≤ badAt l i) = !l.all vName
  | [], _ => rfl
  | x :: l, i => by
    rw [badAt]
    cases h : vName x with
    | false => simp [h]
    | true =>
      simp [h]
      have := badAt_iff l (i + 1)
      simpa using this
set_option maxRecDepth 100000 in
theorem vfIdx {A : Option Addr} {n c B : Nat} (xs : List ByteArray) (w : World) (h : Rd w B A (xs.map strV)) (hn : xs.length = n) (hnl : n ≤ 9223372036854775807) (hs : ∀ s ∈ xs, s.size ≤ 9223372036854775806) :
    Calls Try.prog 80 #[.slice A n c, .func (.func 68) #[] #[]] w fun e w' => e = .returned (.int .i64 (badAt xs 0)) ∧ w' = w := by
  obtain ⟨r, hr⟩ : ∃ r, badAt xs 0 = r := ⟨_, rfl⟩
  rw [hr]
  have HR := Lib.hid hr
  have HN := Lib.hid hn
  have HH := Lib.hid h
  have HS := Lib.hid hs
  clear hr hn h hs
  go_enter Try.func80, Try.ntmps80
  go_wp2_with fail
  go_loopw [5, 8] (fun _ i_ wr => ∃ i : Nat, i ≤ n ∧ i_ = .int .i64 i ∧ wr = w ∧ Hid (badAt (xs.drop i) i = r)) (fun _ i_ _ => n - (intOf i_).toNat)
  case atStart => exact ⟨0, by omega, rfl, rfl, Lib.hid (by simpa using HR.out)⟩
  case round =>
    obtain ⟨i, hi, rfl, rfl, HA⟩ := hrel
    by_cases hlt : i < n
    · have hlt' : (i : Int) < (n : Int) := by omega
      obtain ⟨y, hy⟩ : ∃ y, xs[i]? = some y := ⟨_, List.getElem?_eq_getElem (by rw [HN.out]; exact hlt)⟩
      obtain ⟨b, o, eA, hc⟩ := Rs.get HH.out hy
      subst eA
      have hv := vfBad1 wr y (HS.out y (List.mem_of_getElem? hy))
      have hd : badAt (xs.drop i) i = if vName y = false then (i : Int) else badAt (xs.drop (i + 1)) (i + 1) := by
        obtain ⟨hl, he⟩ := List.getElem?_eq_some_iff.1 hy
        rw [List.drop_eq_getElem_cons hl, he, badAt]
      have HD := Lib.hid hd
      have HY := Lib.hid hy
      clear hy hd
      cases hq : vName y with
      | true =>
        rw [hq] at hv
        have HQ := Lib.hid hq
        clear hq
        go_wp2_with fail
        refine hv.mono ?_
        rintro e w' ⟨rfl, rfl⟩
        go_wp2_with fail
        exact ⟨⟨i + 1, by omega, by go_num, trivial, Lib.hid (by
          have h1 := HA.out
          rw [HD.out, HQ.out] at h1
          simpa using h1)⟩, by simp only [intOf]; omega⟩
      | false =>
        rw [hq] at hv
        have hr1 : r = (i : Int) := by
          have h1 := HA.out
          rw [HD.out, hq] at h1
          simpa using h1.symm
        subst hr1
        go_wp2_with fail
        refine hv.mono ?_
        rintro e w' ⟨rfl, rfl⟩
        go_wp2_with fail
        go_ret
        exact ⟨rfl, rfl⟩
    · have hlt' : decide ((i : Int) < (n : Int)) = false := by simp; omega
      have hr1 : r = -1 := by
        have h1 := HA.out
        rw [List.drop_of_length_le (by rw [HN.out]; omega)] at h1
        exact h1.symm
      subst hr1
      go_wp2_with fail
      go_ret
      exact ⟨rfl, rfl⟩
set_option maxRecDepth 100000 in
theorem vfBad {A : Option Addr} {n c B : Nat} (xs : List ByteArray) (w : World) (h : Rd w B A (xs.map strV)) (hn : xs.length = n) (hnl : n ≤ 9223372036854775807) (hs : ∀ s ∈ xs, s.size ≤ 9223372036854775806) :
    Calls Try.prog 67 #[.slice A n c, .func (.func 68) #[] #[]] w fun e w' => e = .returned (.bool (!xs.all vName)) ∧ w' = w := by
  have hv := vfIdx (c := c) xs w h hn hnl hs
  have hb := badAt_iff xs 0
  rw [← hb]
  generalize badAt xs 0 = r at hv ⊢
  clear hb h
  go_enter Try.func67, Try.ntmps67
  go_wp2_with fail
  refine hv.mono ?_
  rintro e w' ⟨rfl, rfl⟩
  go_wp2_with fail
  go_ret
  exact ⟨rfl, rfl⟩
end Go.Proofs.Ytdjmmdhjjdnbdaa

/- Layer 4: strike. -/
namespace Go.Proofs.Ytdjmmdhjjdnbdaa
open Go.RowKit

theorem max_neg (x : Int) : (if (-1 : Int) < x then x else -1) = max (-1) x := by
  rw [Int.max_def]
  split <;> split <;> omega
set_option maxRecDepth 100000 in
set_option maxHeartbeats 1000000 in
theorem vfStrike {base F : Nat} {w : World} {K : Nat → Prop} {S : VSt} {m : VMem} (h : Vf base w K F S m) (hok : S.Ok) (hops : S.ops ≤ 4611686018427387904) :
    Calls Try.prog 69 #[ptV F] w fun e w' => e = .returned (.int .i64 (S.strike.2 : Nat)) ∧ Vf base w' K F S.strike.1 m ∧ FrK w w' (Kis F) := by
  have hb := h.blk
  have c5 : w.cell? ⟨F, 5, none⟩ = some (.bool S.off) := by rw [hb.cell 5]; rfl
  have c6 : w.cell? ⟨F, 6, none⟩ = some (.int .i64 S.fuse) := by rw [hb.cell 6]; rfl
  have c7 : w.cell? ⟨F, 7, none⟩ = some (.int .i64 S.fault) := by rw [hb.cell 7]; rfl
  have c8 : w.cell? ⟨F, 8, none⟩ = some (.int .i64 (S.err : Nat)) := by rw [hb.cell 8]; rfl
  have c9 : w.cell? ⟨F, 9, none⟩ = some (.int .i64 (S.ops : Nat)) := by rw [hb.cell 9]; rfl
  have f5 := hb.frozen 5
  have f6 := hb.frozen 6
  have f7 := hb.frozen 7
  have f9 := hb.frozen 9
  have hw9 : IntKind.i64.wrap ((S.ops : Int) + 1) = ((S.ops + 1 : Nat) : Int) := by
    rw [show ((S.ops : Int) + 1) = ((S.ops + 1 : Nat) : Int) by omega]
    exact IntWalk.i64_in _ ⟨by omega, by omega⟩
  have hfu := hok.fuse
  have hfa := hok.fault
  have hw6 : IntKind.i64.wrap (S.fuse - 1) = S.fuse - 1 := IntWalk.i64_in _ ⟨by omega, by omega⟩
  have hw7 : IntKind.i64.wrap (S.fault - 1) = S.fault - 1 := IntWalk.i64_in _ ⟨by omega, by omega⟩
  have hm6 := max_neg (S.fuse - 1)
  have hm7 := max_neg (S.fault - 1)
  obtain ⟨T, e, hT⟩ : ∃ T e, S.strike = (T, e) := ⟨_, _, rfl⟩
  rw [hT]
  have b1 := hb.set 9 (.int .i64 ((S.ops : Int) + 1))
  have v1 : Vf base (w.setCell ⟨F, 9, none⟩ (.int .i64 ((S.ops : Int) + 1))) K F { S with ops := S.ops + 1 } m := h.stored (S' := { S with ops := S.ops + 1 }) 9 _ (by simp [fsC]) rfl rfl rfl
  have k1 := FrK.set w F 9 (.int .i64 ((S.ops : Int) + 1))
  obtain ⟨w1, hw1⟩ : ∃ w1, w.setCell ⟨F, 9, none⟩ (.int .i64 ((S.ops : Int) + 1)) = w1 := ⟨_, rfl⟩
  rw [hw1] at b1 v1 k1
  have d6 : w1.cell? ⟨F, 6, none⟩ = some (.int .i64 S.fuse) := by rw [b1.cell 6]; rfl
  have d7 : w1.cell? ⟨F, 7, none⟩ = some (.int .i64 S.fault) := by rw [b1.cell 7]; rfl
  have d8 : w1.cell? ⟨F, 8, none⟩ = some (.int .i64 (S.err : Nat)) := by rw [b1.cell 8]; rfl
  have d5 : w1.cell? ⟨F, 5, none⟩ = some (.bool S.off) := by rw [b1.cell 5]; rfl
  have g5 := b1.frozen 5
  have g6 := b1.frozen 6
  have g7 := b1.frozen 7
  have HT := Lib.hid hT
  have H := Lib.hid h
  have HW := Lib.hid hw1
  have V1 := Lib.hid v1
  have K1 := Lib.hid k1
  have HM6 := Lib.hid hm6
  have HM7 := Lib.hid hm7
  clear hb hok hfu hfa hT h hm6 hm7 hw1 v1 k1 b1 c6 c7 c8 f5 f6 f7
  go_enter Try.func69, Try.ntmps69
  cases hoff : S.off with
  | true =>
    rw [hoff] at c5
    go_wp2_with fail
    go_ret
    have h1 : S.strike = (S, 9) := by unfold VSt.strike; rw [if_pos hoff]
    rw [h1] at HT
    obtain ⟨rfl, rfl⟩ := Prod.mk.inj HT.out
    exact ⟨rfl, H.out, FrK.refl _ _⟩
  | false =>
    rw [hoff] at c5 d5
    have h0 : ¬ S.off = true := by rw [hoff]; simp
    have V2 : ∀ n a b, a = max (-1) (S.fuse - 1) → b = max (-1) (S.fault - 1) → Vf base (((w1.drewN n).setCell ⟨F, 6, none⟩ (.int .i64 a)).setCell ⟨F, 7, none⟩ (.int .i64 b)) K F { S with ops := S.ops + 1, fuse := max (-1) (S.fuse - 1), fault := max (-1) (S.fault - 1) } m ∧ FrK w (((w1.drewN n).setCell ⟨F, 6, none⟩ (.int .i64 a)).setCell ⟨F, 7, none⟩ (.int .i64 b)) (Kis F) := fun n a b ha hb => by
      subst ha
      subst hb
      exact ⟨((V1.out.drewN n).stored (S' := { S with ops := S.ops + 1, fuse := max (-1) (S.fuse - 1) }) 6 _ (by simp [fsC]) rfl rfl rfl).stored (S' := { S with ops := S.ops + 1, fuse := max (-1) (S.fuse - 1), fault := max (-1) (S.fault - 1) }) 7 _ (by simp [fsC]) rfl rfl rfl,
        ((K1.out.drewN n).trans (FrK.set _ F 6 _) fun _ _ h => h).trans (FrK.set _ F 7 _) fun _ _ h => h⟩
    have HV2 := Lib.hid V2
    clear V2
    by_cases h6 : S.fuse = 0
    · have h6' : (S.fuse == 0) = true := by simp [h6]
      have h1 : S.strike = ({ S with ops := S.ops + 1, fuse := max (-1) (S.fuse - 1), fault := max (-1) (S.fault - 1), off := true }, 9) := by
        unfold VSt.strike
        rw [if_neg h0, if_pos h6]
      rw [h1] at HT
      have HE := Lib.hid (Prod.mk.inj HT.out)
      clear h1
      go_wp2_with fail
      rw [HW.out]
      go_quiet (fail)
      go_wp2_with fail
      all_goals go_ret
      all_goals obtain ⟨rfl, rfl⟩ := HE.out
      all_goals refine ⟨rfl, (HV2.out nq _ _ (by omega) (by omega)).1.stored (S' := { S with ops := S.ops + 1, fuse := max (-1) (S.fuse - 1), fault := max (-1) (S.fault - 1), off := true }) 5 _ (by simp [fsC]) rfl rfl rfl, (HV2.out nq _ _ (by omega) (by omega)).2.trans (FrK.set _ F 5 _) fun _ _ h => h⟩
    · have h6' : (S.fuse == 0) = false := by simp [h6]
      by_cases h7 : S.fault = 0
      · have h7' : (S.fault == 0) = true := by simp [h7]
        have h1 : S.strike = ({ S with ops := S.ops + 1, fuse := max (-1) (S.fuse - 1), fault := max (-1) (S.fault - 1) }, S.err) := by
          unfold VSt.strike
          rw [if_neg h0, if_neg h6, if_pos h7]
        rw [h1] at HT
        have HE := Lib.hid (Prod.mk.inj HT.out)
        clear h1
        go_wp2_with fail
        rw [HW.out]
        go_quiet (fail)
        go_wp2_with fail
        all_goals go_ret
        all_goals obtain ⟨rfl, rfl⟩ := HE.out
        all_goals refine ⟨rfl, HV2.out nq _ _ (by omega) (by omega)⟩
      · have h7' : (S.fault == 0) = false := by simp [h7]
        have h1 : S.strike = ({ S with ops := S.ops + 1, fuse := max (-1) (S.fuse - 1), fault := max (-1) (S.fault - 1) }, 0) := by
          unfold VSt.strike
          rw [if_neg h0, if_neg h6, if_neg h7]
        rw [h1] at HT
        have HE := Lib.hid (Prod.mk.inj HT.out)
        clear h1
        go_wp2_with fail
        rw [HW.out]
        go_quiet (fail)
        go_wp2_with fail
        all_goals go_ret
        all_goals obtain ⟨rfl, rfl⟩ := HE.out
        all_goals refine ⟨rfl, HV2.out nq _ _ (by omega) (by omega)⟩
end Go.Proofs.Ytdjmmdhjjdnbdaa

/- A region that draws its order, whose callees make memory, walked once. -/
namespace Go.Proofs.Ytdjmmdhjjdnbdaa
open Go.RowKit

/-- A world behind W, what lay there as it was. -/
structure BelowBy (W : World) where
  w : World
  h : Below W.heap.size W w
instance (W : World) : Inhabited (BelowBy W) := ⟨⟨W, Below.refl _ _⟩⟩
theorem wp_region_quiet_below {P : Program} {id : Nat} {Q : Exit → Act → World → Prop} {a : Act} {w : World} {l : List Oper} (hm : P.follows .mixedOrders = true) (hB : Region.lexB .any l.toArray = true)
    (h : wpQuiet P l.toArray (fun w' => ∃ p : BelowBy w, w' = p.w) (fun a' => ∀ w', (∃ p : BelowBy w, w' = p.w) → Q .normal a' w') l a) : (Code.region id l.toArray true).wp P Q a w :=
  wp_region_quiet (C := fun w' => ∃ p : BelowBy w, w' = p.w) hm hB ⟨⟨w.drew, below_drewN (Below.refl _ w) 1⟩, rfl⟩ (by simpa using h)
theorem calls_belowBy {P : Program} {f : FuncId} {args : Array Value} {W : World} {v : Value} (p : BelowBy W) (h : Calls P f args p.w fun e w' => e = .returned v ∧ Below p.w.heap.size p.w w') :
    Calls P f args p.w fun e w'' => e = .returned v ∧ ∃ p' : BelowBy W, w'' = p'.w := h.mono fun _ w' ⟨he, hb⟩ => ⟨he, ⟨w', p.h.trans (hb.mono p.h.size)⟩, rfl⟩
end Go.Proofs.Ytdjmmdhjjdnbdaa

/- Lists of bytes: equal, below; slices of bytes against nil; append of bytes. -/
namespace Go.Proofs.Ytdjmmdhjjdnbdaa
open Go.RowKit

@[go_sem] theorem nil_eq_bytes (W : World) (a : Option Addr) (n c n' c' : Nat) : (binOp .eql 24 (.slice a n c) (.slice none n' c')).run Try.prog W = .ok (.bool a.isNone) W :=
  Lib.run_eql_slice_nil W _ _ a n c n' c' Try.underlying24
@[go_sem] theorem nil_ne_bytes (W : World) (a : Option Addr) (n c n' c' : Nat) : (binOp .neq 24 (.slice a n c) (.slice none n' c')).run Try.prog W = .ok (.bool (!a.isNone)) W :=
  run_neq_slice_nil_any W _ _ a n c n' c' Try.underlying24
theorem u8info : (Try.prog.info? 5).map (fun i => (i.zero, i.size, i.bytes)) = some (some (.int .u8 0), 1, 1) := by kernel_rfl

/-- append of bytes onto a row of the call's own. -/
theorem wpList_appb (w : World) {ops : Array Oper} {rest : List Oper} {o : Oper} {a : Act} {Q : Exit → Act → World → Prop} (hgd : o.guard = none) (s x : Operand)
    (ho : o.op = .call { callee := .builtin .append, args := #[s, x], argTypes := #[24, 24] })
    (base : Nat) (v : Value) (n : Nat) (xs : List Int) (hs : a.eval s = v) (hown : w.ownsRow base 5 1 v n (bv xs))
    (B : Nat) (A : Option Addr) (m c : Nat) (news : List Int) (hx : a.eval x = .slice A m c) (hl : news.length = m) (hr : Rb w B A news)
    (hbytes : n + m ≤ 140737488355328) (hbase : base ≤ w.heap.size)
    (h : ∀ A' c' w', App base 5 1 w v w' (.slice A' (n + m) c') (n + m) (bv (xs ++ news)) → (A' = none → v = .slice none 0 0 ∧ m = 0) → wpList Try.prog ops Q rest (a.put o.dst (.slice A' (n + m) c')) w') : wpList Try.prog ops Q (o :: rest) a w := by
  obtain ⟨i0, hi0, hz0, hz1, hz2⟩ := info_parts u8info
  refine wpList_app w hgd s x _ ho base 5 i0 _ 1 1 Try.underlying24 hi0 hz0 hz1 hz2 rfl (by omega) v n (bv xs) hs hown B A m c (bv news) hx (by rw [bv_length]; omega) hr (bv_one news) (by simp only [maxLen]; omega) (by omega) hbase ?_
  intro A' c' w' h1 h2 h3 h4
  rw [← bv_append] at h1
  exact h A' c' w' ((App.refl hown).step h1 h2 h3) h4
end Go.Proofs.Ytdjmmdhjjdnbdaa

/- A slice's new address, and cutting bytes from a place on. (Lines of ScI.) -/
namespace Go.Proofs.Ytdjmmdhjjdnbdaa
open Go.RowKit

/-- A slice's address from k on. -/
def offA (a : Option Addr) (c k : Nat) : Option Addr := if c = k then a else a.map (·.add k)
set_option maxRecDepth 100000 in
theorem run_slK (w : World) (a : Option Addr) (n c : Nat) (kl : IntKind) (l : Int) (h0 : 0 ≤ l) (h1 : l ≤ n) :
    (Instr.slice 24 (.slice a n c) (some (.int kl l)) none none).run Try.prog w = .ok (.slice (offA a c l.toNat) (n - l.toNat) (c - l.toNat)) w := by
  have h := run_slice_l (P := Try.prog) w 24 a n c Try.underlying24 kl l h0 h1
  rw [h]
  have hs : (sizeOf (Try.prog.elem 24)).run Try.prog w = .ok 1 w := by kernel_rfl
  rw [hs]
  simp [Result.andThen, sliced, offA]
end Go.Proofs.Ytdjmmdhjjdnbdaa

/- The contract of bytes.Clone. -/
namespace Go.Proofs.Ytdjmmdhjjdnbdaa
open Go.RowKit

set_option maxHeartbeats 400000 in
/-- bytes.Clone: nil of nil; else the same bytes in a row that the call has made. -/
theorem bytesClone {A : Option Addr} {c B n : Nat} {xs : List Int} (w : World) (ha : Rb w B A xs) (hB : B ≤ w.heap.size) (hx : xs.length ≤ 140737488351232) (hc : A = none → xs = [] ∧ c = 0) (hn : xs.length = n) :
    Calls Try.prog 49 #[.slice A n c] w (RetNew 5 1 w n (bv xs) (fun A' => A' = none → A = none)) := by
  subst hn
  cases A with
  | none =>
    obtain ⟨rfl, rfl⟩ := hc rfl
    go_enter Try.func49, Try.ntmps49
    go_wp2
    go_ret
    exact ⟨none, 0, rfl, App.refl (World.ownsRow_nil _ _ _ _), by simp⟩
  | some a =>
    go_enter Try.func49, Try.ntmps49
    go_wp2_with (at_builtin; go_loud (refine wpList_appb _ rfl (.tmp 5) (.tmp 6) rfl w.heap.size _ 0 [] rfl (World.ownsRow_lit w #[] 0 (Nat.le_refl _) (by simp [maxLen]) rfl) B _ xs.length c xs rfl rfl (ha.alloc hB _) (by omega) (by simp) ?_))
    intro A' c' w' happ hne
    go_wp2
    go_ret
    exact ⟨A', c', rfl, happ.fresh1, fun h => absurd h hne⟩
end Go.Proofs.Ytdjmmdhjjdnbdaa

/- A region that draws its order, in a round of a range over a function: all operations but the last few only read, so that one walk in the order of the text serves every order. Over any program; at the wide fence. -/
namespace Go.Proofs.Ytdjmmdhjjdnbdaa
open Go.RowKit

def noDefer (o : Oper) : Bool := match o.op with
  | .defer _ => false
  | _ => true
theorem noDefer_spec {o : Oper} (h : noDefer o = true) : ∀ c, o.op ≠ .defer c := fun c e => by rw [noDefer, e] at h; cases h

theorem wpOps_round {P : Program} {ops : Array Oper} {r m : Nat} (hnd : ∀ (i : Nat) (o : Oper), ops[i]? = some o → noDefer o = true) {Q : Exit → Act → World → Prop} :
    ∀ (is : List Nat) (a : Act) (w : World), wpOps P ops (fun e a w => e = .normal ∧ Q .normal a w) is a w → wpOpsIn (Fence.wide.inRound r) m P ops Q is a w := by
  have hlet : ¬ LetsOut (fun e a w => e = Exit.normal ∧ Q .normal a w) := by
    rintro ⟨a, w, h, _⟩
    cases h
  intro is
  induction is with
  | nil => intro a w h; exact h.2
  | cons i is ih =>
    intro a w h
    unfold wpOps at h
    unfold wpOpsIn
    cases ho : ops[i]? with
    | none => rw [ho] at h; exact ih a w h
    | some o =>
      rw [ho] at h
      simp only at h ⊢
      split
      · rename_i hw
        rw [if_pos hw] at h
        have h := h.resolve_right (fun hh => hlet hh.2)
        refine ⟨fun _ _ => trivial, ?_⟩
        rw [show (Fence.wide.inRound r).round = some r from rfl, Oper.semAt_some r _ o (noDefer_spec (hnd i o ho))]
        unfold Oper.wp at h
        generalize (execOp a.eval o).run P w = res at h ⊢
        cases res with
        | ok x w' =>
          cases x with
          | value v => exact ih _ _ h
          | skip => exact ih _ _ h
          | defer d => exact ih _ _ h
          | enter f args =>
            refine ⟨fun hd => (by cases hd), CallsIn.inRound r (callsIn_wide.2 (Calls.mono h ?_))⟩
            intro e w'' he
            cases e with
            | returned v => exact ih _ _ he
            | panicked chain => cases he.1
            | outgrown => exact absurd he hlet
          | row row args =>
            refine ⟨fun hd => (by cases hd), fun c cs _ => ?_⟩
            obtain ⟨v, w'', h1, h2⟩ := h c cs
            exact ⟨v, w'', ih _ _ h1, stepsIn_wide.2 h2⟩
          | _ => exact absurd h id
        | halt x w' =>
          cases x with
          | panic v => cases h.1
          | _ => exact absurd h id
      · rename_i hw
        rw [if_neg hw] at h
        exact ⟨fun _ _ => trivial, ih _ _ h⟩

theorem wpIn_region_still_round {P : Program} {id r m : Nat} {Q : Exit → Act → World → Prop} {a : Act} {w : World} {l : List Oper} (n : Nat) (hm : P.follows .mixedOrders = true) (hnd : l.all noDefer = true) (hB : Region.lexTailB .any l.toArray n = true)
    (h : wpStill P l.toArray w.drew (fun a' => wpList P l.toArray (fun e a w => e = .normal ∧ Q .normal a w) (l.drop n) a' w.drew) (l.take n) a) : (Code.region id l.toArray true).wpIn (Fence.wide.inRound r) m P Q a w := by
  have hsz : l.toArray.size = l.length := by simp
  unfold Region.lexTailB at hB
  rw [Bool.and_eq_true, Bool.and_eq_true, Bool.and_eq_true, Bool.and_eq_true, decide_eq_true_eq] at hB
  obtain ⟨⟨⟨⟨hsel, hn⟩, hsink⟩, hchain⟩, hlex⟩ := hB
  have hlt : (l.take n).length = n := by rw [List.length_take]; omega
  have hld : (l.drop n).length = l.toArray.size - n := by rw [List.length_drop, hsz]
  have start : HeadInv .any l.toArray n (Array.replicate l.toArray.size false) :=
    { size := by simp
      closed := fun j oj _ hj => by rw [getD_replicate_false] at hj; cases hj
      tail := fun t _ ht => getD_in (by simpa using ht) (getD_replicate_false _ _) }
  have key := wpAnyL_lex (md := .any) (g := l.toArray.size - n) hsel hsink hchain hn (l.take n) 0 _ a
    (fun j hj => by rw [hlt] at hj; rw [List.getElem?_take, if_pos hj]; simp) (by rw [hlt]; omega) start (by rw [hlt]; exact hlex) h
  rw [hlt] at key
  have whole := wpAny_of_head (Q' := fun e a w => e = .normal ∧ Q .normal a w) (g := l.toArray.size - n) (fun listed a' hL => by
    have := wpAny_of_seq (md := .any) (Q' := fun e a w => e = .normal ∧ Q .normal a w) (l.drop n) n listed a' w.drew (fun j => by rw [List.getElem?_drop]; simp) (by rw [hld]; exact hL.1) hL.2
    rwa [hld] at this) _ _ _ key
  rw [show n + (l.toArray.size - n) = l.toArray.size from by omega] at whole
  refine wpIn_region_draw fun t => ?_
  rw [Region.schedule, hm, Bool.true_or, if_pos rfl]
  refine wpOps_round (fun i o ho => ?_) _ _ _ (wpAny_sound _ t _ _ _ whole)
  exact List.all_eq_true.1 hnd o (by
    have : l[i]? = some o := by simpa using ho
    exact List.mem_of_getElem? this)
theorem wpOps_wide {P : Program} {ops : Array Oper} {m : Nat} (hnd : ∀ (i : Nat) (o : Oper), ops[i]? = some o → noDefer o = true) {Q : Exit → Act → World → Prop} :
    ∀ (is : List Nat) (a : Act) (w : World), wpOps P ops (fun e a w => e = .normal ∧ Q .normal a w) is a w → wpOpsIn Fence.wide m P ops Q is a w := by
  have hlet : ¬ LetsOut (fun e a w => e = Exit.normal ∧ Q .normal a w) := by
    rintro ⟨a, w, h, _⟩
    cases h
  intro is
  induction is with
  | nil => intro a w h; exact h.2
  | cons i is ih =>
    intro a w h
    unfold wpOps at h
    unfold wpOpsIn
    cases ho : ops[i]? with
    | none => rw [ho] at h; exact ih a w h
    | some o =>
      rw [ho] at h
      simp only at h ⊢
      split
      · rename_i hw
        rw [if_pos hw] at h
        have h := h.resolve_right (fun hh => hlet hh.2)
        refine ⟨fun _ _ => trivial, ?_⟩
        rw [show Fence.wide.round = none from rfl, Oper.semAt_none]
        unfold Oper.wp at h
        generalize (execOp a.eval o).run P w = res at h ⊢
        cases res with
        | ok x w' =>
          cases x with
          | value v => exact ih _ _ h
          | skip => exact ih _ _ h
          | defer d => exact ih _ _ h
          | enter f args =>
            refine ⟨fun hd => (by cases hd), callsIn_wide.2 (Calls.mono h ?_)⟩
            intro e w'' he
            cases e with
            | returned v => exact ih _ _ he
            | panicked chain => cases he.1
            | outgrown => exact absurd he hlet
          | row row args =>
            refine ⟨fun hd => (by cases hd), fun c cs _ => ?_⟩
            obtain ⟨v, w'', h1, h2⟩ := h c cs
            exact ⟨v, w'', ih _ _ h1, stepsIn_wide.2 h2⟩
          | _ => exact absurd h id
        | halt x w' =>
          cases x with
          | panic v => cases h.1
          | _ => exact absurd h id
      · rename_i hw
        rw [if_neg hw] at h
        exact ⟨fun _ _ => trivial, ih _ _ h⟩

theorem wpIn_region_still_wide {P : Program} {id m : Nat} {Q : Exit → Act → World → Prop} {a : Act} {w : World} {l : List Oper} (n : Nat) (hm : P.follows .mixedOrders = true) (hnd : l.all noDefer = true) (hB : Region.lexTailB .any l.toArray n = true)
    (h : wpStill P l.toArray w.drew (fun a' => wpList P l.toArray (fun e a w => e = .normal ∧ Q .normal a w) (l.drop n) a' w.drew) (l.take n) a) : (Code.region id l.toArray true).wpIn Fence.wide m P Q a w := by
  have hsz : l.toArray.size = l.length := by simp
  unfold Region.lexTailB at hB
  rw [Bool.and_eq_true, Bool.and_eq_true, Bool.and_eq_true, Bool.and_eq_true, decide_eq_true_eq] at hB
  obtain ⟨⟨⟨⟨hsel, hn⟩, hsink⟩, hchain⟩, hlex⟩ := hB
  have hlt : (l.take n).length = n := by rw [List.length_take]; omega
  have hld : (l.drop n).length = l.toArray.size - n := by rw [List.length_drop, hsz]
  have start : HeadInv .any l.toArray n (Array.replicate l.toArray.size false) :=
    { size := by simp
      closed := fun j oj _ hj => by rw [getD_replicate_false] at hj; cases hj
      tail := fun t _ ht => getD_in (by simpa using ht) (getD_replicate_false _ _) }
  have key := wpAnyL_lex (md := .any) (g := l.toArray.size - n) hsel hsink hchain hn (l.take n) 0 _ a
    (fun j hj => by rw [hlt] at hj; rw [List.getElem?_take, if_pos hj]; simp) (by rw [hlt]; omega) start (by rw [hlt]; exact hlex) h
  rw [hlt] at key
  have whole := wpAny_of_head (Q' := fun e a w => e = .normal ∧ Q .normal a w) (g := l.toArray.size - n) (fun listed a' hL => by
    have := wpAny_of_seq (md := .any) (Q' := fun e a w => e = .normal ∧ Q .normal a w) (l.drop n) n listed a' w.drew (fun j => by rw [List.getElem?_drop]; simp) (by rw [hld]; exact hL.1) hL.2
    rwa [hld] at this) _ _ _ key
  rw [show n + (l.toArray.size - n) = l.toArray.size from by omega] at whole
  refine wpIn_region_draw fun t => ?_
  rw [Region.schedule, hm, Bool.true_or, if_pos rfl]
  refine wpOps_wide (fun i o ho => ?_) _ _ _ (wpAny_sound _ t _ _ _ whole)
  exact List.all_eq_true.1 hnd o (by
    have : l[i]? = some o := by simpa using ho
    exact List.mem_of_getElem? this)
end Go.Proofs.Ytdjmmdhjjdnbdaa

/- Rows of structs: cells of a fixed number an element, one behind the other. Plain. -/
namespace Go.Proofs.Ytdjmmdhjjdnbdaa
open Go.RowKit

section
variable {α : Type} {f : α → List Value} {k : Nat}
def flatR (f : α → List Value) (l : List α) : List Value := l.flatMap f
theorem flatR_append (a b : List α) : flatR f (a ++ b) = flatR f a ++ flatR f b := by simp [flatR]
theorem flatR_cons (x : α) (l : List α) : flatR f (x :: l) = f x ++ flatR f l := rfl
theorem flatR_length (hk : ∀ x, (f x).length = k) (l : List α) : (flatR f l).length = l.length * k := by
  induction l with
  | nil => simp [flatR]
  | cons x l ih => rw [flatR_cons, List.length_append, ih, hk, List.length_cons, Nat.add_mul, Nat.one_mul, Nat.add_comm]
theorem flatR_get (hk : ∀ x, (f x).length = k) : ∀ {l : List α} {i : Nat} {x : α}, l[i]? = some x → ∀ j, j < k → (flatR f l)[i * k + j]? = (f x)[j]? := by
  intro l
  induction l with
  | nil => intro i x h; simp at h
  | cons u l ih =>
    intro i x h j hj
    rw [flatR_cons]
    cases i with
    | zero =>
      simp at h
      subst h
      rw [List.getElem?_append_left (by rw [hk]; omega), Nat.zero_mul, Nat.zero_add]
    | succ i =>
      have := ih (i := i) (x := x) (by simpa using h) j hj
      rw [List.getElem?_append_right (by rw [hk, Nat.add_mul]; omega), hk, show (i + 1) * k + j - k = i * k + j from by rw [Nat.add_mul]; omega]
      exact this
theorem flatR_take (hk : ∀ x, (f x).length = k) (l : List α) (n : Nat) : (flatR f l).take (n * k) = flatR f (l.take n) := by
  induction l generalizing n with
  | nil => simp [flatR]
  | cons x l ih =>
    cases n with
    | zero => simp [flatR]
    | succ n => rw [flatR_cons, List.take_succ_cons, flatR_cons, ← ih n, List.take_append, hk, List.take_of_length_le (by rw [hk, Nat.add_mul]; omega), show (n + 1) * k - k = n * k from by rw [Nat.add_mul]; omega]
theorem flatR_drop (hk : ∀ x, (f x).length = k) (l : List α) (n : Nat) : (flatR f l).drop (n * k) = flatR f (l.drop n) := by
  induction l generalizing n with
  | nil => simp [flatR]
  | cons x l ih =>
    cases n with
    | zero => simp [flatR]
    | succ n => rw [flatR_cons, List.drop_succ_cons, ← ih n, List.drop_append, hk, List.drop_eq_nil_of_le (by rw [hk, Nat.add_mul]; omega), show (n + 1) * k - k = n * k from by rw [Nat.add_mul]; omega, List.nil_append]
theorem flatR_one (h1 : ∀ x, ∀ u ∈ f x, u.oneCell' = true) (l : List α) : ∀ u ∈ flatR f l, u.oneCell' = true := by
  intro u hu
  obtain ⟨x, _, hx⟩ := List.mem_flatMap.1 hu
  exact h1 x u hx
/-- An element's cells. -/
theorem flatR_at (hk : ∀ x, (f x).length = k) (h0 : 0 < k) {w : World} {B : Nat} {A : Option Addr} {l : List α} (h : Rd w B A (flatR f l)) {i : Nat} {x : α} (hi : l[i]? = some x) :
    ∃ b o, A = some ⟨b, o, none⟩ ∧ b < B ∧ ∀ j, j < k → w.cell? ⟨b, o + (i * k + j), none⟩ = (f x)[j]? := by
  have hl := (List.getElem?_eq_some_iff.1 hi).1
  have hlen := flatR_length hk l
  have hpos : 0 < (flatR f l).length := by rw [hlen]; exact Nat.mul_pos (by omega) h0
  obtain ⟨b, o, hA, hb, hc⟩ := h (by intro e; rw [e] at hpos; simp at hpos)
  refine ⟨b, o, hA, hb, fun j hj => ?_⟩
  have h1 := flatR_get hk hi j hj
  have h2 : j < (f x).length := by rw [hk]; exact hj
  rw [List.getElem?_eq_getElem h2] at h1 ⊢
  exact hc _ _ h1
end
end Go.Proofs.Ytdjmmdhjjdnbdaa
