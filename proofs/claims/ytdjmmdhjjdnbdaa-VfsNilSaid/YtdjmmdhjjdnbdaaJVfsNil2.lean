/- Texts of the proof of VfsNilSaid, joined: VfD VfE VfF VfG VfH VfI VfJ VfK. -/
import Derived.Test.YtdjmmdhjjdnbdaaJVfsNil1
import Derived.Shelf.Abstract
import Derived.Laws.EntriesVeiled
/- Layer 4: nobody made it; names that are none. -/
namespace Go.Proofs.Ytdjmmdhjjdnbdaa
open Go.RowKit

set_option maxRecDepth 100000 in
theorem vfNone {base F : Nat} {w : World} {K : Nat → Prop} {S : VSt} {m : VMem} (h : Vf base w K F S m) :
    Calls Try.prog 44 #[ptV F] w fun e w' => e = .returned (.bool false) ∧ w' = w := by
  have hc := h.blk.cell 0
  simp [fsC] at hc
  have HF := Lib.hid h
  clear h
  go_enter Try.func44, Try.ntmps44
  go_wp2_with fail
  go_ret
  exact ⟨rfl, rfl⟩
set_option maxRecDepth 100000 in
theorem vfNoneNil (w : World) :
    Calls Try.prog 44 #[.pointer none] w fun e w' => e = .returned (.bool true) ∧ w' = w := by
  go_enter Try.func44, Try.ntmps44
  go_wp2_with fail
  go_ret
  exact ⟨rfl, rfl⟩
set_option maxRecDepth 100000 in
theorem vfNoneZero {F : Nat} (w : World) (h : w.cell? ⟨F, 0, none⟩ = some (.bool false)) :
    Calls Try.prog 44 #[ptV F] w fun e w' => e = .returned (.bool true) ∧ w' = w := by
  go_enter Try.func44, Try.ntmps44
  go_wp2_with fail
  go_ret
  exact ⟨rfl, rfl⟩
set_option maxRecDepth 100000 in
theorem vfBad1 (w : World) (s : ByteArray) (hm : s.size ≤ 9223372036854775806) :
    Calls Try.prog 68 #[.string s] w fun e w' => e = .returned (.bool (!vName s)) ∧ w' = w := by
  have hv := vfName w s hm
  go_enter Try.func68, Try.ntmps68
  go_wp2_with fail
  refine hv.mono ?_
  rintro e w' ⟨rfl, rfl⟩
  go_wp2_with fail
  go_ret
  exact ⟨rfl, rfl⟩
/-- The first of the names that is none. -/
def badAt : List ByteArray → Nat → Int
  | [], _ => -1
  | x :: l, i => if vName x = false then (i : Int) else badAt l (i + 1)
theorem badAt_lo : ∀ (l : List ByteArray) (i : Nat), badAt l i = -1 ∨ 0 ≤ badAt l i
  | [], _ => .inl rfl
  | x :: l, i => by
    rw [badAt]
    split
    · right; omega
    · exact badAt_lo l (i + 1)
theorem badAt_iff : ∀ (l : List ByteArray) (i : Nat), decide (0 ≤ badAt l i) = !l.all vName
  | [], _ => rfl
  | x :: l, i => by
    rw [badAt]
    cases h : vName x with
    | false => simp [h]
    | true =>
      simp [h]
      have := badAt_iff l (i + 1)
      simpa using this
set_option maxRecDepth 100000 in
theorem vfIdx {A : Option Addr} {n c B : Nat} (xs : List ByteArray) (w : World) (h : Rd w B A (xs.map strV)) (hn : xs.length = n) (hnl : n ≤ 9223372036854775807) (hs : ∀ s ∈ xs, s.size ≤ 9223372036854775806) :
    Calls Try.prog 80 #[.slice A n c, .func (.func 68) #[] #[]] w fun e w' => e = .returned (.int .i64 (badAt xs 0)) ∧ w' = w := by
  obtain ⟨r, hr⟩ : ∃ r, badAt xs 0 = r := ⟨_, rfl⟩
  rw [hr]
  have HR := Lib.hid hr
  have HN := Lib.hid hn
  have HH := Lib.hid h
  have HS := Lib.hid hs
  clear hr hn h hs
  go_enter Try.func80, Try.ntmps80
  go_wp2_with fail
  go_loopw [5, 8] (fun _ i_ wr => ∃ i : Nat, i ≤ n ∧ i_ = .int .i64 i ∧ wr = w ∧ Hid (badAt (xs.drop i) i = r)) (fun _ i_ _ => n - (intOf i_).toNat)
  case atStart => exact ⟨0, by omega, rfl, rfl, Lib.hid (by simpa using HR.out)⟩
  case round =>
    obtain ⟨i, hi, rfl, rfl, HA⟩ := hrel
    by_cases hlt : i < n
    · have hlt' : (i : Int) < (n : Int) := by omega
      obtain ⟨y, hy⟩ : ∃ y, xs[i]? = some y := ⟨_, List.getElem?_eq_getElem (by rw [HN.out]; exact hlt)⟩
      obtain ⟨b, o, eA, hc⟩ := Rs.get HH.out hy
      subst eA
      have hv := vfBad1 wr y (HS.out y (List.mem_of_getElem? hy))
      have hd : badAt (xs.drop i) i = if vName y = false then (i : Int) else badAt (xs.drop (i + 1)) (i + 1) := by
        obtain ⟨hl, he⟩ := List.getElem?_eq_some_iff.1 hy
        rw [List.drop_eq_getElem_cons hl, he, badAt]
      have HD := Lib.hid hd
      have HY := Lib.hid hy
      clear hy hd
      cases hq : vName y with
      | true =>
        rw [hq] at hv
        have HQ := Lib.hid hq
        clear hq
        go_wp2_with fail
        refine hv.mono ?_
        rintro e w' ⟨rfl, rfl⟩
        go_wp2_with fail
        exact ⟨⟨i + 1, by omega, by go_num, trivial, Lib.hid (by
          have h1 := HA.out
          rw [HD.out, HQ.out] at h1
          simpa using h1)⟩, by simp only [intOf]; omega⟩
      | false =>
        rw [hq] at hv
        have hr1 : r = (i : Int) := by
          have h1 := HA.out
          rw [HD.out, hq] at h1
          simpa using h1.symm
        subst hr1
        go_wp2_with fail
        refine hv.mono ?_
        rintro e w' ⟨rfl, rfl⟩
        go_wp2_with fail
        go_ret
        exact ⟨rfl, rfl⟩
    · have hlt' : decide ((i : Int) < (n : Int)) = false := by simp; omega
      have hr1 : r = -1 := by
        have h1 := HA.out
        rw [List.drop_of_length_le (by rw [HN.out]; omega)] at h1
        exact h1.symm
      subst hr1
      go_wp2_with fail
      go_ret
      exact ⟨rfl, rfl⟩
set_option maxRecDepth 100000 in
theorem vfBad {A : Option Addr} {n c B : Nat} (xs : List ByteArray) (w : World) (h : Rd w B A (xs.map strV)) (hn : xs.length = n) (hnl : n ≤ 9223372036854775807) (hs : ∀ s ∈ xs, s.size ≤ 9223372036854775806) :
    Calls Try.prog 67 #[.slice A n c, .func (.func 68) #[] #[]] w fun e w' => e = .returned (.bool (!xs.all vName)) ∧ w' = w := by
  have hv := vfIdx (c := c) xs w h hn hnl hs
  have hb := badAt_iff xs 0
  rw [← hb]
  generalize badAt xs 0 = r at hv ⊢
  clear hb h
  go_enter Try.func67, Try.ntmps67
  go_wp2_with fail
  refine hv.mono ?_
  rintro e w' ⟨rfl, rfl⟩
  go_wp2_with fail
  go_ret
  exact ⟨rfl, rfl⟩
end Go.Proofs.Ytdjmmdhjjdnbdaa

/- Layer 4: strike. -/
namespace Go.Proofs.Ytdjmmdhjjdnbdaa
open Go.RowKit

theorem max_neg (x : Int) : (if (-1 : Int) < x then x else -1) = max (-1) x := by
  rw [Int.max_def]
  split <;> split <;> omega
set_option maxRecDepth 100000 in
set_option maxHeartbeats 1000000 in
theorem vfStrike {base F : Nat} {w : World} {K : Nat → Prop} {S : VSt} {m : VMem} (h : Vf base w K F S m) (hok : S.Ok) (hops : S.ops ≤ 4611686018427387904) :
    Calls Try.prog 69 #[ptV F] w fun e w' => e = .returned (.int .i64 (S.strike.2 : Nat)) ∧ Vf base w' K F S.strike.1 m ∧ FrK w w' (Kis F) := by
  have hb := h.blk
  have c5 : w.cell? ⟨F, 5, none⟩ = some (.bool S.off) := by rw [hb.cell 5]; rfl
  have c6 : w.cell? ⟨F, 6, none⟩ = some (.int .i64 S.fuse) := by rw [hb.cell 6]; rfl
  have c7 : w.cell? ⟨F, 7, none⟩ = some (.int .i64 S.fault) := by rw [hb.cell 7]; rfl
  have c8 : w.cell? ⟨F, 8, none⟩ = some (.int .i64 (S.err : Nat)) := by rw [hb.cell 8]; rfl
  have c9 : w.cell? ⟨F, 9, none⟩ = some (.int .i64 (S.ops : Nat)) := by rw [hb.cell 9]; rfl
  have f5 := hb.frozen 5
  have f6 := hb.frozen 6
  have f7 := hb.frozen 7
  have f9 := hb.frozen 9
  have hw9 : IntKind.i64.wrap ((S.ops : Int) + 1) = ((S.ops + 1 : Nat) : Int) := by
    rw [show ((S.ops : Int) + 1) = ((S.ops + 1 : Nat) : Int) by omega]
    exact IntWalk.i64_in _ ⟨by omega, by omega⟩
  have hfu := hok.fuse
  have hfa := hok.fault
  have hw6 : IntKind.i64.wrap (S.fuse - 1) = S.fuse - 1 := IntWalk.i64_in _ ⟨by omega, by omega⟩
  have hw7 : IntKind.i64.wrap (S.fault - 1) = S.fault - 1 := IntWalk.i64_in _ ⟨by omega, by omega⟩
  have hm6 := max_neg (S.fuse - 1)
  have hm7 := max_neg (S.fault - 1)
  obtain ⟨T, e, hT⟩ : ∃ T e, S.strike = (T, e) := ⟨_, _, rfl⟩
  rw [hT]
  have b1 := hb.set 9 (.int .i64 ((S.ops : Int) + 1))
  have v1 : Vf base (w.setCell ⟨F, 9, none⟩ (.int .i64 ((S.ops : Int) + 1))) K F { S with ops := S.ops + 1 } m := h.stored (S' := { S with ops := S.ops + 1 }) 9 _ (by simp [fsC]) rfl rfl rfl
  have k1 := FrK.set w F 9 (.int .i64 ((S.ops : Int) + 1))
  obtain ⟨w1, hw1⟩ : ∃ w1, w.setCell ⟨F, 9, none⟩ (.int .i64 ((S.ops : Int) + 1)) = w1 := ⟨_, rfl⟩
  rw [hw1] at b1 v1 k1
  have d6 : w1.cell? ⟨F, 6, none⟩ = some (.int .i64 S.fuse) := by rw [b1.cell 6]; rfl
  have d7 : w1.cell? ⟨F, 7, none⟩ = some (.int .i64 S.fault) := by rw [b1.cell 7]; rfl
  have d8 : w1.cell? ⟨F, 8, none⟩ = some (.int .i64 (S.err : Nat)) := by rw [b1.cell 8]; rfl
  have d5 : w1.cell? ⟨F, 5, none⟩ = some (.bool S.off) := by rw [b1.cell 5]; rfl
  have g5 := b1.frozen 5
  have g6 := b1.frozen 6
  have g7 := b1.frozen 7
  have HT := Lib.hid hT
  have H := Lib.hid h
  have HW := Lib.hid hw1
  have V1 := Lib.hid v1
  have K1 := Lib.hid k1
  have HM6 := Lib.hid hm6
  have HM7 := Lib.hid hm7
  clear hb hok hfu hfa hT h hm6 hm7 hw1 v1 k1 b1 c6 c7 c8 f5 f6 f7
  go_enter Try.func69, Try.ntmps69
  cases hoff : S.off with
  | true =>
    rw [hoff] at c5
    go_wp2_with fail
    go_ret
    have h1 : S.strike = (S, 9) := by unfold VSt.strike; rw [if_pos hoff]
    rw [h1] at HT
    obtain ⟨rfl, rfl⟩ := Prod.mk.inj HT.out
    exact ⟨rfl, H.out, FrK.refl _ _⟩
  | false =>
    rw [hoff] at c5 d5
    have h0 : ¬ S.off = true := by rw [hoff]; simp
    have V2 : ∀ n a b, a = max (-1) (S.fuse - 1) → b = max (-1) (S.fault - 1) → Vf base (((w1.drewN n).setCell ⟨F, 6, none⟩ (.int .i64 a)).setCell ⟨F, 7, none⟩ (.int .i64 b)) K F { S with ops := S.ops + 1, fuse := max (-1) (S.fuse - 1), fault := max (-1) (S.fault - 1) } m ∧ FrK w (((w1.drewN n).setCell ⟨F, 6, none⟩ (.int .i64 a)).setCell ⟨F, 7, none⟩ (.int .i64 b)) (Kis F) := fun n a b ha hb => by
      subst ha
      subst hb
      exact ⟨((V1.out.drewN n).stored (S' := { S with ops := S.ops + 1, fuse := max (-1) (S.fuse - 1) }) 6 _ (by simp [fsC]) rfl rfl rfl).stored (S' := { S with ops := S.ops + 1, fuse := max (-1) (S.fuse - 1), fault := max (-1) (S.fault - 1) }) 7 _ (by simp [fsC]) rfl rfl rfl,
        ((K1.out.drewN n).trans (FrK.set _ F 6 _) fun _ _ h => h).trans (FrK.set _ F 7 _) fun _ _ h => h⟩
    have HV2 := Lib.hid V2
    clear V2
    by_cases h6 : S.fuse = 0
    · have h6' : (S.fuse == 0) = true := by simp [h6]
      have h1 : S.strike = ({ S with ops := S.ops + 1, fuse := max (-1) (S.fuse - 1), fault := max (-1) (S.fault - 1), off := true }, 9) := by
        unfold VSt.strike
        rw [if_neg h0, if_pos h6]
      rw [h1] at HT
      have HE := Lib.hid (Prod.mk.inj HT.out)
      clear h1
      go_wp2_with fail
      rw [HW.out]
      go_quiet (fail)
      go_wp2_with fail
      all_goals go_ret
      all_goals obtain ⟨rfl, rfl⟩ := HE.out
      all_goals refine ⟨rfl, (HV2.out nq _ _ (by omega) (by omega)).1.stored (S' := { S with ops := S.ops + 1, fuse := max (-1) (S.fuse - 1), fault := max (-1) (S.fault - 1), off := true }) 5 _ (by simp [fsC]) rfl rfl rfl, (HV2.out nq _ _ (by omega) (by omega)).2.trans (FrK.set _ F 5 _) fun _ _ h => h⟩
    · have h6' : (S.fuse == 0) = false := by simp [h6]
      by_cases h7 : S.fault = 0
      · have h7' : (S.fault == 0) = true := by simp [h7]
        have h1 : S.strike = ({ S with ops := S.ops + 1, fuse := max (-1) (S.fuse - 1), fault := max (-1) (S.fault - 1) }, S.err) := by
          unfold VSt.strike
          rw [if_neg h0, if_neg h6, if_pos h7]
        rw [h1] at HT
        have HE := Lib.hid (Prod.mk.inj HT.out)
        clear h1
        go_wp2_with fail
        rw [HW.out]
        go_quiet (fail)
        go_wp2_with fail
        all_goals go_ret
        all_goals obtain ⟨rfl, rfl⟩ := HE.out
        all_goals refine ⟨rfl, HV2.out nq _ _ (by omega) (by omega)⟩
      · have h7' : (S.fault == 0) = false := by simp [h7]
        have h1 : S.strike = ({ S with ops := S.ops + 1, fuse := max (-1) (S.fuse - 1), fault := max (-1) (S.fault - 1) }, 0) := by
          unfold VSt.strike
          rw [if_neg h0, if_neg h6, if_neg h7]
        rw [h1] at HT
        have HE := Lib.hid (Prod.mk.inj HT.out)
        clear h1
        go_wp2_with fail
        rw [HW.out]
        go_quiet (fail)
        go_wp2_with fail
        all_goals go_ret
        all_goals obtain ⟨rfl, rfl⟩ := HE.out
        all_goals refine ⟨rfl, HV2.out nq _ _ (by omega) (by omega)⟩
end Go.Proofs.Ytdjmmdhjjdnbdaa

/- Layer 4: op: what is asked of what it does. -/
namespace Go.Proofs.Ytdjmmdhjjdnbdaa
open Go.RowKit

set_option maxRecDepth 100000 in
set_option maxHeartbeats 1000000 in
theorem vfOp {base F n c B : Nat} {A : Option Addr} {w : World} {K : Nat → Prop} {S : VSt} {m : VMem} (h : Vf base w K F S m) (hok : S.Ok) (hops : S.ops ≤ 4611686018427387904)
    (right : Bool) (xs : List ByteArray) (hr : Rd w B A (xs.map strV)) (hn : xs.length = n) (hnl : n ≤ 9223372036854775807) (hs : ∀ s ∈ xs, s.size ≤ 9223372036854775806)
    (g : Nat) (lb : Array Value) (eg : ∀ args w, (callFunc g args).run Try.prog w = .ok (.enter g args) w) (Q : Ending → World → Prop)
    (q1 : (right && xs.all vName) = false → Q (.returned (.int .i64 2)) w)
    (q2 : (right && xs.all vName) = true → ∀ w1, Vf base w1 K F S.strike.1 m → FrK w w1 (Kis F) → S.strike.2 ≠ 0 → Q (.returned (.int .i64 (S.strike.2 : Nat))) w1)
    (q3 : (right && xs.all vName) = true → ∀ w1, Vf base w1 K F S.strike.1 m → FrK w w1 (Kis F) → S.strike.2 = 0 → Calls Try.prog g lb w1 fun e w' => ∃ r : Nat, e = .returned (.int .i64 r) ∧ Q e w') :
    Calls Try.prog 36 #[ptV F, .bool right, .func (.func g) #[] lb, .slice A n c] w Q := by
  have cN := vfNone h
  have cB := vfBad (c := c) xs w hr hn hnl hs
  have cS := vfStrike h hok hops
  obtain ⟨T, e, hT⟩ : ∃ T e, S.strike = (T, e) := ⟨_, _, rfl⟩
  rw [hT] at cS q2 q3
  have Q1 := Lib.hid q1
  have Q2 := Lib.hid q2
  have Q3 := Lib.hid q3
  clear q1 q2 q3 h hok hr hs
  cases right with
  | false =>
    go_enter Try.func36, Try.ntmps36
    go_wp2_with fail
    refine cN.mono ?_
    rintro e w' ⟨rfl, rfl⟩
    go_wp2_with fail
    exact Q1.out rfl
  | true =>
    cases hx : xs.all vName with
    | false =>
      rw [hx] at cB
      go_enter Try.func36, Try.ntmps36
      go_wp2_with fail
      refine cN.mono ?_
      rintro e w' ⟨rfl, rfl⟩
      go_wp2_with fail
      refine cB.mono ?_
      rintro e w' ⟨rfl, rfl⟩
      go_wp2_with fail
      exact Q1.out (by rw [hx]; rfl)
    | true =>
      rw [hx] at cB
      have HX := Lib.hid hx
      clear hx
      go_enter Try.func36, Try.ntmps36
      go_wp2_with fail
      refine cN.mono ?_
      rintro e w' ⟨rfl, rfl⟩
      go_wp2_with fail
      refine cB.mono ?_
      rintro e w' ⟨rfl, rfl⟩
      go_wp2_with fail
      refine cS.mono ?_
      rintro e' w1 ⟨rfl, hV, hF⟩
      by_cases he : e = 0
      · subst he
        have C := Q3.out (by rw [HX.out]; rfl) w1 hV hF rfl
        go_wp2_with (go_at_fn g; refine C.mono ?_; rintro e w' ⟨r, rfl, hQ⟩)
        exact hQ
      · have he' : ((e : Int) != 0) = true := by rw [bne_iff_ne]; omega
        have HE := Lib.hid he
        clear he
        go_wp2_with fail
        exact Q2.out (by rw [HX.out]; rfl) w1 hV hF HE.out
end Go.Proofs.Ytdjmmdhjjdnbdaa

/- Layer 4: on: a file that must be there. -/
namespace Go.Proofs.Ytdjmmdhjjdnbdaa
open Go.RowKit

theorem mgGet_perm {κ ν : Type} [DecidableEq κ] {L M : List (κ × ν)} (h : L.Perm M) (hn : (L.map (·.1)).Nodup) (k : κ) : mgGet k L = mgGet k M := by
  have hm : (M.map (·.1)).Nodup := (h.map _).nodup_iff.1 hn
  cases hM : mgGet k M with
  | some v => exact mgGet_some hn (h.mem_iff.2 (mgGet_mem hM))
  | none =>
    cases hL : mgGet k L with
    | none => rfl
    | some v => rw [mgGet_some hm (h.mem_iff.1 (mgGet_mem hL))] at hM; cases hM
/-- The directory, asked. -/
theorem Vf.look {base F : Nat} {w : World} {K : Nat → Prop} {S : VSt} {m : VMem} (h : Vf base w K F S m) (s : ByteArray) (c : Bool) :
    (Instr.lookup 56 (.map (some m.db)) (.string s) c).run Try.prog w = .ok (if c then .tuple #[((S.get s).map (fiV m.fb)).getD (.pointer none), .bool (S.get s).isSome] else ((S.get s).map (fiV m.fb)).getD (.pointer none)) w := by
  have := run_mhLook (z := .pointer none) (e := 65) (strRun Try.underlying9) Try.underlying56 (by simp [Try.zeroValue65]) h.dir s c
  rw [mgGet_perm h.dirP h.dir.nodup s] at this
  exact this
set_option maxRecDepth 100000 in
set_option maxHeartbeats 1000000 in
theorem vfOn1 {base F : Nat} {w : World} {K : Nat → Prop} {S : VSt} {m : VMem} (h : Vf base w K F S m)
    (s : ByteArray) (g : Nat) (lb : Array Value) (eg : ∀ args w, (callFunc g args).run Try.prog w = .ok (.enter g args) w) {bF bN bD : Nat}
    (hF : Bk w bF 25 #[ptV F]) (hN : Bk w bN 9 #[.string s]) (hD : Bk w bD 72 #[.func (.func g) #[] lb]) (Q : Ending → World → Prop)
    (q1 : ∀ w1, Vf base w1 K F S m → FrK w w1 Kno → S.get s = none → Q (.returned (.int .i64 6)) w1)
    (q2 : ∀ w1 i, Vf base w1 K F S m → FrK w w1 Kno → S.get s = some i → Calls Try.prog g (#[ptV (m.fb i)] ++ lb) w1 fun e w' => ∃ r : Nat, e = .returned (.int .i64 r) ∧ Q e w') :
    Calls Try.prog 70 #[ptV bF, ptV bN, ptV bD] w Q := by
  have c0 : w.cell? ⟨bF, 0, none⟩ = some (ptV F) := by rw [hF.cell 0]; rfl
  have c1 : w.cell? ⟨bN, 0, none⟩ = some (.string s) := by rw [hN.cell 0]; rfl
  have c2 : w.cell? ⟨bD, 0, none⟩ = some (.func (.func g) #[] lb) := by rw [hD.cell 0]; rfl
  have c3 : w.cell? ⟨F, 2, none⟩ = some (maV m.db) := by rw [h.blk.cell 2]; rfl
  have hlk := h.drew.look s true
  simp only [if_true] at hlk
  have Q1 := Lib.hid q1
  have Q2 := Lib.hid q2
  have H := Lib.hid h
  clear q1 q2 hF hN hD h
  cases hs : S.get s with
  | none =>
    rw [hs] at hlk
    simp only [Option.map_none, Option.getD_none, Option.isSome_none] at hlk
    have HS := Lib.hid hs
    clear hs
    go_enter Try.func70, Try.ntmps70
    go_wp2_with fail
    go_region
    go_wp2_with fail
    exact Q1.out _ H.out.drew (FrK.refl _ _).drew HS.out
  | some i =>
    rw [hs] at hlk
    simp only [Option.map_some, Option.getD_some, Option.isSome_some] at hlk
    have HS := Lib.hid hs
    clear hs
    go_enter Try.func70, Try.ntmps70
    go_wp2_with fail
    go_region
    have C := Q2.out _ i H.out.drew (FrK.refl _ _).drew HS.out
    go_wp2_with (go_at_fn g; refine C.mono ?_; rintro e w' ⟨r, rfl, hQ⟩)
    exact hQ
end Go.Proofs.Ytdjmmdhjjdnbdaa

/- Layer 4: on. -/
namespace Go.Proofs.Ytdjmmdhjjdnbdaa
open Go.RowKit

theorem FrK.bk {w w' : World} {K : Nat → Prop} {g : Nat} {t : TypeId} {cs : Array Value} (h : FrK w w' K) (hb : Bk w g t cs) (hk : ¬K g) : Bk w' g t cs := (h.block g hb.lt hk).trans hb
set_option maxRecDepth 100000 in
set_option maxHeartbeats 1000000 in
theorem vfOn {base F : Nat} {w : World} {K : Nat → Prop} {S : VSt} {m : VMem} (h : Vf base w K F S m) (hok : S.Ok) (hops : S.ops ≤ 4611686018427387904)
    (right : Bool) (s : ByteArray) (hs : s.size ≤ 9223372036854775806)
    (g : Nat) (lb : Array Value) (eg : ∀ args w, (callFunc g args).run Try.prog w = .ok (.enter g args) w) (Q : Ending → World → Prop)
    (q1 : (right && vName s) = false → ∀ w1, Vf base w1 K F S m → FrK w w1 Kno → Q (.returned (.int .i64 2)) w1)
    (q2 : (right && vName s) = true → ∀ w1, Vf base w1 K F S.strike.1 m → FrK w w1 (Kis F) → S.strike.2 ≠ 0 → Q (.returned (.int .i64 (S.strike.2 : Nat))) w1)
    (q3 : (right && vName s) = true → ∀ w1, Vf base w1 K F S.strike.1 m → FrK w w1 (Kis F) → S.strike.2 = 0 → S.strike.1.get s = none → Q (.returned (.int .i64 6)) w1)
    (q4 : (right && vName s) = true → ∀ w1 i, Vf base w1 K F S.strike.1 m → FrK w w1 (Kis F) → S.strike.2 = 0 → S.strike.1.get s = some i → Calls Try.prog g (#[ptV (m.fb i)] ++ lb) w1 fun e w' => ∃ r : Nat, e = .returned (.int .i64 r) ∧ Q e w') :
    Calls Try.prog 39 #[ptV F, .bool right, .string s, .func (.func g) #[] lb] w Q := by
  have hlt := (h.lo F h.kF).2
  have b1 := Bk.new w 25 #[ptV F]
  have hw1 := (FrK.refl w Kno).alloc (.cells #[ptV F] 25)
  have v1 := h.alloc (.cells #[ptV F] 25)
  obtain ⟨w1, e1⟩ : ∃ w1, w.alloc (.cells #[ptV F] 25) = w1 := ⟨_, rfl⟩
  rw [e1] at b1 hw1 v1
  have s1 : w1.heap.size = w.heap.size + 1 := by rw [← e1]; simp
  have b2 := Bk.new w1 9 #[.string s]
  have b12 := b1.alloc (.cells #[.string s] 9)
  have hw2 := hw1.alloc (.cells #[.string s] 9)
  have v2 := v1.alloc (.cells #[.string s] 9)
  obtain ⟨w2, e2⟩ : ∃ w2, w1.alloc (.cells #[.string s] 9) = w2 := ⟨_, rfl⟩
  rw [e2] at b2 b12 hw2 v2
  have s2 : w2.heap.size = w1.heap.size + 1 := by rw [← e2]; simp
  have b3 := Bk.new w2 72 #[.func (.func g) #[] lb]
  have b13 := b12.alloc (.cells #[.func (.func g) #[] lb] 72)
  have b23 := b2.alloc (.cells #[.func (.func g) #[] lb] 72)
  have hw3 := hw2.alloc (.cells #[.func (.func g) #[] lb] 72)
  have v3 := v2.alloc (.cells #[.func (.func g) #[] lb] 72)
  obtain ⟨w3, e3⟩ : ∃ w3, w2.alloc (.cells #[.func (.func g) #[] lb] 72) = w3 := ⟨_, rfl⟩
  rw [e3] at b3 b13 b23 hw3 v3
  have s3 : w3.heap.size = w2.heap.size + 1 := by rw [← e3]; simp
  have b34 := b3.alloc (.cells #[.string s] 9)
  have b14 := b13.alloc (.cells #[.string s] 9)
  have b24 := b23.alloc (.cells #[.string s] 9)
  have hw4 := hw3.alloc (.cells #[.string s] 9)
  have v4 := v3.alloc (.cells #[.string s] 9)
  have rd4 : Rd (w3.alloc (.cells #[.string s] 9)) (w3.heap.size + 1) (some ⟨w3.heap.size, 0, none⟩) ([s].map strV) := Rd.lit w3 #[.string s] 9
  have c1 : w3.cell? ⟨w.heap.size, 0, none⟩ = some (ptV F) := by rw [b13.cell 0]; rfl
  have c2 : w3.cell? ⟨w1.heap.size, 0, none⟩ = some (.string s) := by rw [b23.cell 0]; rfl
  obtain ⟨w4, e4⟩ : ∃ w4, w3.alloc (.cells #[.string s] 9) = w4 := ⟨_, rfl⟩
  rw [e4] at b34 b14 b24 hw4 v4 rd4
  have e70 : ∀ args w, (callFunc 70 args).run Try.prog w = .ok (.enter 70 args) w := enters_of Try.func70 (by kernel_rfl) rfl
  have hFr : ∀ {w5 : World}, FrK w4 w5 (Kis F) → FrK w w5 (Kis F) := fun {w5} h5 => (hw4.mono fun _ _ hf => hf.elim).trans h5 fun _ _ hk => hk
  have C : Calls Try.prog 36 #[ptV F, .bool right, .func (.func 70) #[] #[ptV w.heap.size, ptV w1.heap.size, ptV w2.heap.size], .slice (some ⟨w3.heap.size, 0, none⟩) 1 1] w4 fun e w' => ∃ r : Nat, e = .returned (.int .i64 r) ∧ Q e w' := by
    refine vfOp (n := 1) v4 hok hops right [s] rd4 rfl (by omega) (fun t ht => by simp at ht; subst ht; exact hs) _ _ e70 _ (fun hb => ?_) (fun hr w5 hv hf hne => ?_) (fun hr w5 hv hf he => ?_)
    · exact ⟨2, rfl, q1 (by simpa using hb) w4 v4 hw4⟩
    · exact ⟨_, rfl, q2 (by simpa using hr) w5 hv (hFr hf) hne⟩
    · refine (vfOn1 hv s g lb eg (hf.bk b14 (by simp only [Kis]; omega)) (hf.bk b24 (by simp only [Kis]; omega)) (hf.bk b34 (by simp only [Kis]; omega)) (fun e w' => ∃ r : Nat, e = .returned (.int .i64 r) ∧ Q e w') (fun w6 hv6 hf6 hn => ?_) (fun w6 i hv6 hf6 hi => ?_)).mono ?_
      · exact ⟨6, rfl, q3 (by simpa using hr) w6 hv6 ((hFr hf).trans hf6 fun _ _ hk => hk.elim) he hn⟩
      · refine (q4 (by simpa using hr) w6 i hv6 ((hFr hf).trans hf6 fun _ _ hk => hk.elim) he hi).mono ?_
        rintro e w' ⟨r, h1, h2⟩
        exact ⟨r, h1, r, h1, h2⟩
      · rintro e w' ⟨r, h1, h2⟩
        exact ⟨r, h1, r, h1, h2⟩
  rw [s3, s2, s1] at C
  have E1 := Lib.hid e1
  have E2 := Lib.hid e2
  have E3 := Lib.hid e3
  have E4 := Lib.hid e4
  clear q1 q2 q3 q4 h hok hw1 v1 hw2 v2 hw3 v3 b1 b2 b12 b3 b13 b23 b34 b14 b24 hw4 v4 rd4 e1 e2 e3 e4 s1 s2 s3 hFr
  have hmf : ∀ (fn : Fn) (first cap : Array Value) (w : World), (Instr.makeFunc fn first cap).run Try.prog w = .ok (.func fn first cap) w := fun _ _ _ _ => rfl
  go_enter Try.func39, Try.ntmps39
  go_wp2_with fail
  rw [E1.out, E2.out, E3.out, E4.out]
  refine C.mono ?_
  rintro e w' ⟨r, rfl, hQ⟩
  go_wp2_with fail
  exact hQ
end Go.Proofs.Ytdjmmdhjjdnbdaa

/- Layer 4: a file changes; Sync. -/
namespace Go.Proofs.Ytdjmmdhjjdnbdaa
open Go.RowKit

/-- What a method's call comes to. -/
def VPost (base : Nat) (w : World) (K : Nat → Prop) (F : Nat) (R : VSt × Nat) (e : Ending) (w' : World) : Prop :=
  e = .returned (.int .i64 (R.2 : Nat)) ∧ ∃ m', Vf base w' (Kn K w.heap.size w'.heap.size) F R.1 m' ∧ FrK w w' K
section
variable {base F : Nat} {w w' : World} {K K' : Nat → Prop} {S : VSt} {m : VMem}
theorem Vf.baseLe (h : Vf base w K F S m) : base ≤ w.heap.size := by
  have := h.lo F h.kF
  omega
theorem Vf.kn (h : Vf base w' K F S m) (hb : base ≤ w.heap.size) : Vf base w' (Kn K w.heap.size w'.heap.size) F S m :=
  h.bigger (fun b e => .inl e) fun b e => e.elim (h.lo b) fun ⟨h1, h2⟩ => ⟨by omega, h2⟩
theorem Vf.knn {w'' : World} {a b : Nat} (h : Vf base w'' (Kn (Kn K a b) b w''.heap.size) F S m) (hab : a ≤ b) (hb : b ≤ w''.heap.size) : Vf base w'' (Kn K a w''.heap.size) F S m :=
  h.bigger (fun x e => e.flat hab hb) fun x e => by
    rcases e with e | ⟨h1, h2⟩
    · exact h.lo x (.inl (.inl e))
    · rcases Nat.lt_or_ge x b with h3 | h3
      · exact h.lo x (.inl (.inr ⟨h1, h3⟩))
      · exact h.lo x (.inr ⟨h3, h2⟩)
theorem VPost.of {R : VSt × Nat} {r : Nat} {T : VSt} (h : Vf base w K F S m) (hR : R = (T, r)) (hv : Vf base w' K F T m) (hf : FrK w w' K') (hk : ∀ b, K' b → K b) : VPost base w K F R (.returned (.int .i64 (r : Nat))) w' := by
  subst hR
  exact ⟨rfl, m, hv.kn h.baseLe, hf.mono fun b _ hb => hk b hb⟩
theorem Vf.putFile (h : Vf base w K F S m) {i : Nat} {x x' : VFile} {v' : Value} (hx : S.fs[i]? = some x) (hf : FrK w w' fun b => b = m.fb i ∨ (m.bv i).ownBlock = some b)
    (hb : Bk w' (m.fb i) 69 #[v', .int .i64 (x'.s : Nat)]) (hr : w'.ownsRow base 5 1 v' x'.b.length (bv x'.b)) (ho : ∀ g, v'.ownBlock = some g → (m.bv i).ownBlock = some g ∨ w.heap.size ≤ g) :
    Vf base w' (Kn K w.heap.size w'.heap.size) F (S.setFile i x') { m with bv := fun j => if j = i then v' else m.bv j } := by
  have hil := (List.getElem?_eq_some_iff.1 hx).1
  have hfi := h.file i x hx
  have hri := h.row i x hx
  have hmap : ∀ (b : Nat) (es : Array MapEntry) (c : Nat), w.heap[b]? = some (.map es c) → w'.heap[b]? = w.heap[b]? := fun b es c he => hf.block b (Array.getElem?_eq_some_iff.1 he).1 (by
    rintro (rfl | hg)
    · rw [show w.heap[m.fb i]? = _ from hfi] at he
      cases he
    · obtain ⟨cur, hc⟩ := own_bk hri hg
      rw [show w.heap[b]? = _ from hc] at he
      cases he)
  have hmh : ∀ {κ ν : Type} {kv : κ → Value} {vv : ν → Value} {b : Nat} {L : List (κ × ν)}, Mh kv vv w b L → Mh kv vv w' b L := fun {κ ν kv vv b L} hM => by
    obtain ⟨es, c, he⟩ := hM.obj
    exact hM.of (hmap b es c he)
  have hcell : ∀ {b : Nat} {t : TypeId} {cs : Array Value}, Bk w b t cs → t ≠ 69 → t ≠ 5 → w'.heap[b]? = w.heap[b]? := fun {b t cs} hB h1 h2 => hf.block b hB.lt (by
    rintro (e | hg)
    · exact ne_of_type hB hfi h1 e
    · obtain ⟨cur, hc⟩ := own_bk hri hg
      exact ne_of_type hB hc h2 rfl)
  have hlen : (S.setFile i x').fs.length = S.fs.length := by simp [VSt.setFile]
  have hget : ∀ (j : Nat) (y : VFile), (S.setFile i x').fs[j]? = some y → (j = i ∧ y = x') ∨ (j ≠ i ∧ S.fs[j]? = some y) := fun j y hy => by
    by_cases hji : j = i
    · subst hji
      simp [VSt.setFile, hil] at hy
      exact .inl ⟨rfl, hy.symm⟩
    · simp only [VSt.setFile, List.getElem?_set] at hy
      rw [if_neg (fun e => hji e.symm)] at hy
      exact .inr ⟨hji, hy⟩
  have hfar : ∀ (j : Nat) (y : VFile), j ≠ i → S.fs[j]? = some y → Bk w' (m.fb j) 69 #[m.bv j, .int .i64 (y.s : Nat)] ∧ w'.ownsRow base 5 1 (m.bv j) y.b.length (bv y.b) := fun j y hji hy => by
    have hjl := (List.getElem?_eq_some_iff.1 hy).1
    have hfj := h.file j y hy
    refine ⟨(hf.block _ hfj.lt ?_).trans hfj, own_of (h.row j y hy) fun g hg => ?_⟩
    · rintro (e | hg)
      · exact hji (h.inj j i hjl hil e)
      · obtain ⟨cur, hc⟩ := own_bk hri hg
        exact ne_of_type hfj hc (by decide) rfl
    · obtain ⟨cur, hc⟩ := own_bk (h.row j y hy) hg
      refine hf.block _ hc.lt ?_
      rintro (e | hg2)
      · exact ne_of_type hfi hc (by decide) e.symm
      · exact hji (h.rinj j i hjl hil g hg hg2)
  have hcv : ∀ g, m.cv.ownBlock = some g → w'.heap[g]? = w.heap[g]? := fun g hg => by
    obtain ⟨cur, hc⟩ := own_bk h.chg hg
    exact hcell hc (by decide) (by decide)
  have hv'lt : ∀ g, v'.ownBlock = some g → g < w'.heap.size := fun g hg => (hr.lt g hg).2
  refine { blk := (hcell h.blk (by decide) (by decide)).trans h.blk, dir := hmh h.dir, dirP := h.dirP, syn := hmh h.syn, synP := h.synP, chg := own_of h.chg hcv, maps := ?_, file := ?_, row := ?_, inj := by rw [hlen]; exact h.inj, rinj := ?_, ne := h.ne, nec := h.nec, kF := .inl h.kF, kD := .inl h.kD, kS := .inl h.kS, kC := fun g e => .inl (h.kC g e), kM := fun b e => .inl (h.kM b e), kB := fun j e => .inl (h.kB j (by rw [hlen] at e; exact e)), kR := ?_, lo := ?_ }
  · intro j b c h1 h2
    obtain ⟨C, h3, h4⟩ := h.maps j b c h1 h2
    exact ⟨C, h3, hmh h4⟩
  · intro j y hy
    rcases hget j y hy with ⟨rfl, rfl⟩ | ⟨hji, hy'⟩
    · simp only [if_true]
      exact hb
    · simp only [if_neg hji]
      exact (hfar j y hji hy').1
  · intro j y hy
    rcases hget j y hy with ⟨rfl, rfl⟩ | ⟨hji, hy'⟩
    · simp only [if_true]
      exact hr
    · simp only [if_neg hji]
      exact (hfar j y hji hy').2
  · intro j k hj hk g h1 h2
    rw [hlen] at hj hk
    have hold : ∀ l, l ≠ i → l < S.fs.length → (m.bv l).ownBlock = some g → v'.ownBlock = some g → False := fun l hli hl h3 h4 => by
      rcases ho g h4 with h5 | h5
      · exact hli (h.rinj l i hl hil g h3 h5)
      · have := (h.row l _ (List.getElem?_eq_getElem hl)).lt g h3
        omega
    by_cases hji : j = i <;> by_cases hki : k = i
    · rw [hji, hki]
    · subst hji
      simp only [if_true, if_neg hki] at h1 h2
      exact (hold k hki hk h2 h1).elim
    · subst hki
      simp only [if_true, if_neg hji] at h1 h2
      exact (hold j hji hj h1 h2).elim
    · simp only [if_neg hji, if_neg hki] at h1 h2
      exact h.rinj j k hj hk g h1 h2
  · intro j hj g hg
    rw [hlen] at hj
    by_cases hji : j = i
    · subst hji
      simp only [if_true] at hg
      rcases ho g hg with h5 | h5
      · exact .inl (h.kR j hil g h5)
      · exact .inr ⟨h5, hv'lt g hg⟩
    · simp only [if_neg hji] at hg
      exact .inl (h.kR j hj g hg)
  · intro b e
    rcases e with e | ⟨h1, h2⟩
    · exact ⟨(h.lo b e).1, Nat.lt_of_lt_of_le (h.lo b e).2 hf.size⟩
    · exact ⟨Nat.le_trans h.baseLe h1, h2⟩
end
end Go.Proofs.Ytdjmmdhjjdnbdaa

/- Layer 4: what stays so; Sync. -/
namespace Go.Proofs.Ytdjmmdhjjdnbdaa
open Go.RowKit

theorem strike_same (S : VSt) : S.strike.1.syn = S.syn ∧ S.strike.1.chg = S.chg ∧ S.strike.1.fs = S.fs ∧ S.strike.1.limit = S.limit ∧ S.strike.1.err = S.err := by
  unfold VSt.strike
  split
  · exact ⟨rfl, rfl, rfl, rfl, rfl⟩
  · split
    · exact ⟨rfl, rfl, rfl, rfl, rfl⟩
    · split <;> exact ⟨rfl, rfl, rfl, rfl, rfl⟩
theorem strike_ops (S : VSt) : S.strike.1.ops ≤ S.ops + 1 := by
  unfold VSt.strike
  split
  · simp
  · split
    · simp
    · split <;> simp
theorem dirN_same {S T : VSt} (h1 : T.syn = S.syn) (h2 : T.chg = S.chg) (n : Nat) : T.dirN n = S.dirN n := by
  unfold VSt.dirN
  rw [h1, h2]
theorem now_same {S T : VSt} (h1 : T.syn = S.syn) (h2 : T.chg = S.chg) : T.now = S.now := by
  unfold VSt.now
  rw [h2]
  exact dirN_same h1 h2 _
theorem get_same {S T : VSt} (h1 : T.syn = S.syn) (h2 : T.chg = S.chg) (s : ByteArray) : T.get s = S.get s := by
  unfold VSt.get
  rw [now_same h1 h2]
theorem VSt.Ok.of {S T : VSt} (h : S.Ok) (h1 : T.syn = S.syn) (h2 : T.chg = S.chg) (h3 : T.fs = S.fs) (h4 : -1 ≤ T.fuse ∧ T.fuse ≤ 9223372036854775807) (h5 : -1 ≤ T.fault ∧ T.fault ≤ 9223372036854775807) : T.Ok :=
  ⟨by rw [h1, h3]; exact h.syn, by rw [h1]; exact h.synN, by rw [h2, h3]; exact h.chg, fun n => by rw [dirN_same h1 h2]; exact h.inj n, by rw [h3]; exact h.byt, h4, h5⟩
theorem VSt.Ok.strike {S : VSt} (h : S.Ok) : S.strike.1.Ok := by
  obtain ⟨h1, h2, h3, -⟩ := strike_same S
  have hf := h.fuse
  have hg := h.fault
  refine h.of h1 h2 h3 ?_ ?_
  · unfold VSt.strike
    split
    · exact hf
    · split
      · simp only; omega
      · split <;> simp only <;> omega
  · unfold VSt.strike
    split
    · exact hg
    · split
      · simp only; omega
      · split <;> simp only <;> omega
theorem mgPut_mem {κ ν : Type} [DecidableEq κ] {k : κ} {v : ν} : ∀ {L : List (κ × ν)} {p : κ × ν}, p ∈ mgPut k v L → p = (k, v) ∨ p ∈ L
  | [], p, h => by simp [mgPut] at h; exact .inl h
  | q :: l, p, h => by
    rw [mgPut] at h
    split at h
    · rcases List.mem_cons.1 h with h | h
      · exact .inl h
      · exact .inr (List.mem_cons_of_mem _ h)
    · rcases List.mem_cons.1 h with h | h
      · exact .inr (h ▸ List.mem_cons_self ..)
      · exact (mgPut_mem h).imp id (List.mem_cons_of_mem _)
theorem chgOn_mem {L : List (ByteArray × Nat)} {c : VChg} {p : ByteArray × Nat} (h : p ∈ chgOn L c) : p ∈ L ∨ c.f = some p.2 := by
  have hd : ∀ q, q ∈ (if c.gone = noT then L else dDel c.gone L) → q ∈ L := fun q hq => by
    split at hq
    · exact hq
    · exact (List.mem_filter.1 hq).1
  unfold chgOn at h
  split at h
  · rename_i x hx
    rcases mgPut_mem h with h | h
    · exact .inr (by rw [hx, h])
    · exact .inl (hd p h)
  · exact .inl (hd p h)
theorem fold_mem : ∀ {l : List VChg} {L : List (ByteArray × Nat)} {p : ByteArray × Nat}, p ∈ l.foldl chgOn L → p ∈ L ∨ ∃ c ∈ l, c.f = some p.2
  | [], _, _, h => .inl h
  | c :: l, L, p, h => by
    rcases fold_mem (l := l) h with h | ⟨c', h1, h2⟩
    · rcases chgOn_mem h with h | h
      · exact .inl h
      · exact .inr ⟨c, List.mem_cons_self .., h⟩
    · exact .inr ⟨c', List.mem_cons_of_mem _ h1, h2⟩
theorem VSt.Ok.dirN_lt {S : VSt} (h : S.Ok) {n : Nat} {p : ByteArray × Nat} (hp : p ∈ S.dirN n) : p.2 < S.fs.length := by
  rcases fold_mem hp with h1 | ⟨c, h1, h2⟩
  · exact h.syn p h1
  · exact ((h.chg c (List.mem_of_mem_take h1)).1 _ h2).1
theorem VSt.Ok.get_lt {S : VSt} (h : S.Ok) {s : ByteArray} {i : Nat} (hi : S.get s = some i) : i < S.fs.length := h.dirN_lt (mgGet_mem hi)
theorem own_form {w : World} {base : Nat} {t : TypeId} {k n : Nat} {v : Value} {xs : List Value} (h : w.ownsRow base t k v n xs) : ∃ A c, v = .slice A n c ∧ n ≤ c ∧ (A = none → n = 0 ∧ c = 0) := by
  rcases h.2 with ⟨rfl, rfl⟩ | ⟨g, cap, cur, rfl, h2, h3, h4, h5⟩
  · exact ⟨none, 0, rfl, Nat.le_refl _, fun _ => ⟨rfl, rfl⟩⟩
  · exact ⟨_, cap, rfl, h4, fun e => by cases e⟩
theorem VPost.after {base F : Nat} {w w1 w' : World} {K K1 : Nat → Prop} {R : VSt × Nat} {e : Ending} (h : VPost base w1 K F R e w') (hf : FrK w w1 K1) (hk : ∀ b, K1 b → K b) (hb : base ≤ w.heap.size) : VPost base w K F R e w' := by
  obtain ⟨h1, m', h2, h3⟩ := h
  refine ⟨h1, m', h2.bigger (fun b hb => hb.imp id fun ⟨x, y⟩ => ⟨Nat.le_trans hf.size x, y⟩) (fun b e => ?_), (hf.mono fun b _ e => hk b e).trans h3 fun b _ e => e⟩
  rcases e with e | ⟨x, y⟩
  · exact h2.lo b (.inl e)
  · exact ⟨Nat.le_trans hb x, y⟩
set_option maxRecDepth 100000 in
set_option maxHeartbeats 1000000 in
theorem vfSync1 {base F i : Nat} {w : World} {K : Nat → Prop} {S : VSt} {m : VMem} {x : VFile} (h : Vf base w K F S m) (hx : S.fs[i]? = some x) :
    Calls Try.prog 41 #[ptV (m.fb i)] w (VPost base w K F (S.setFile i ⟨x.b, x.b.length⟩, 0)) := by
  have hf := h.file i x hx
  obtain ⟨A, c, hv, hc, -⟩ := own_form (h.row i x hx)
  have c0 : w.cell? ⟨m.fb i, 0, none⟩ = some (.slice A x.b.length c) := by rw [hf.cell 0, ← hv]; rfl
  have c1 : w.cell? ⟨m.fb i, 1, none⟩ = some (.int .i64 (x.s : Nat)) := by rw [hf.cell 1]; rfl
  have f1 := hf.frozen 1
  have H := Lib.hid h
  have HF := Lib.hid hf
  have HX := Lib.hid hx
  clear h hf hx hc
  go_enter Try.func41, Try.ntmps41
  go_wp2_with fail
  go_ret
  have h := H.out
  have hil := (List.getElem?_eq_some_iff.1 HX.out).1
  have hfr := FrK.set w (m.fb i) 1 (.int .i64 (x.b.length : Nat))
  refine ⟨rfl, _, h.putFile (v' := m.bv i) (x' := ⟨x.b, x.b.length⟩) HX.out (hfr.mono fun b _ e => .inl e) (HF.out.set 1 _) (own_of (h.row i x HX.out) fun g hg => ?_) (fun g hg => .inl hg), hfr.mono fun b _ e => by rw [e]; exact h.kB i hil⟩
  obtain ⟨cur, hcur⟩ := own_bk (h.row i x HX.out) hg
  exact hfr.block g hcur.lt (ne_of_type hcur HF.out (by decide))
theorem file_at {S : VSt} {i : Nat} (h : i < S.fs.length) : S.fs[i]? = some (S.file i) := by
  rw [VSt.file, List.getD_eq_getElem?_getD, List.getElem?_eq_getElem h]
  rfl
theorem op_bad {S : VSt} {right : Bool} {do_ : VSt → VSt × Nat} (h : right = false) : S.op right do_ = (S, 2) := by
  unfold VSt.op
  rw [if_pos h]
theorem op_struck {S : VSt} {do_ : VSt → VSt × Nat} (h : S.strike.2 ≠ 0) : S.op true do_ = (S.strike.1, S.strike.2) := by
  unfold VSt.op
  rw [if_neg (by simp), if_pos h]
theorem op_done {S : VSt} {do_ : VSt → VSt × Nat} (h : S.strike.2 = 0) : S.op true do_ = do_ S.strike.1 := by
  unfold VSt.op
  rw [if_neg (by simp), if_neg (by simp [h])]
/-- What on's caller has to show. -/
theorem vfOnPost {base F : Nat} {w : World} {K : Nat → Prop} {S : VSt} {m : VMem} (h : Vf base w K F S m) (hok : S.Ok) (hops : S.ops ≤ 4611686018427387904)
    (s : ByteArray) (hs : s.size ≤ 9223372036854775806) (g : Nat) (lb : Array Value) (eg : ∀ args w, (callFunc g args).run Try.prog w = .ok (.enter g args) w) (d : VSt → Nat → VSt × Nat)
    (q : vName s = true → ∀ w1 i, Vf base w1 K F S.strike.1 m → FrK w w1 (Kis F) → S.strike.1.Ok → S.strike.1.get s = some i → i < S.strike.1.fs.length → Calls Try.prog g (#[ptV (m.fb i)] ++ lb) w1 (VPost base w1 K F (d S.strike.1 i))) :
    Calls Try.prog 39 #[ptV F, .bool true, .string s, .func (.func g) #[] lb] w (VPost base w K F (S.op (vName s) fun T => match T.get s with | none => (T, 6) | some i => d T i)) := by
  have hb := h.baseLe
  refine vfOn h hok hops true s hs g lb eg _ (fun hn w1 hv hf => ?_) (fun hr w1 hv hf hne => ?_) (fun hr w1 hv hf he hn => ?_) (fun hr w1 i hv hf he hi => ?_)
  · have e1 : vName s = false := by simpa using hn
    refine VPost.of h (r := 2) ?_ hv hf fun b hb => hb.elim
    rw [e1, op_bad rfl]
  · have e1 : vName s = true := by simpa using hr
    refine VPost.of h ?_ hv hf fun b hb => hb ▸ h.kF
    rw [e1, op_struck hne]
  · have e1 : vName s = true := by simpa using hr
    refine VPost.of h (r := 6) ?_ hv hf fun b hb => hb ▸ h.kF
    rw [e1, op_done he, hn]
  · have e1 : vName s = true := by simpa using hr
    have hlt := hok.strike.get_lt hi
    refine (q e1 w1 i hv hf hok.strike hi hlt).mono ?_
    intro e w' hp
    have hp' := hp.after hf (fun b hb => hb ▸ h.kF) hb
    rw [e1, op_done he, hi]
    exact ⟨_, hp'.1, hp'⟩
set_option maxRecDepth 100000 in
set_option maxHeartbeats 1000000 in
theorem vfSync {base F : Nat} {w : World} {K : Nat → Prop} {S : VSt} {m : VMem} (h : Vf base w K F S m) (hok : S.Ok) (hops : S.ops ≤ 4611686018427387904) (s : ByteArray) (hs : s.size ≤ 9223372036854775806) :
    Calls Try.prog 15 #[ptV F, .string s] w (VPost base w K F (S.sync s)) := by
  have C := vfOnPost h hok hops s hs 41 #[] (enters_of Try.func41 (by kernel_rfl) rfl) (fun T i => (T.setFile i ⟨(T.file i).b, (T.file i).b.length⟩, 0)) fun _ w1 i hv hf ho hi hl => vfSync1 hv (file_at hl)
  generalize hR : (S.op (vName s) fun T => match T.get s with | none => (T, 6) | some i => (T.setFile i ⟨(T.file i).b, (T.file i).b.length⟩, 0)) = R at C
  have hR' : S.sync s = R := hR
  rw [hR']
  clear hR hR' h hok
  go_enter Try.func15, Try.ntmps15
  go_wp2_with fail
  refine C.mono ?_
  rintro e w' ⟨rfl, hQ⟩
  go_wp2_with fail
  go_ret
  exact ⟨rfl, hQ⟩
end Go.Proofs.Ytdjmmdhjjdnbdaa

/- Layer 4: turn: a change of a directory. -/
namespace Go.Proofs.Ytdjmmdhjjdnbdaa
open Go.RowKit

def turnStep (D : List (ByteArray × Nat)) (p : ByteArray × Option Nat) : List (ByteArray × Nat) :=
  match p.2 with
  | none => mgDel p.1 D
  | some i => mgPut p.1 i D
def turnL (D : List (ByteArray × Nat)) (Z : List (ByteArray × Option Nat)) : List (ByteArray × Nat) := Z.foldl turnStep D
theorem turnL_snoc (D : List (ByteArray × Nat)) (Z : List (ByteArray × Option Nat)) (p : ByteArray × Option Nat) : turnL D (Z ++ [p]) = turnStep (turnL D Z) p := by
  rw [turnL, List.foldl_append]
  rfl
theorem mgDel_put {κ ν : Type} [DecidableEq κ] {k k' : κ} {v : ν} (h : k ≠ k') : ∀ (L : List (κ × ν)), mgDel k (mgPut k' v L) = mgPut k' v (mgDel k L)
  | [] => by
    have h1 : ¬k' = k := fun e => h e.symm
    simp [mgPut, mgDel, h1]
  | p :: l => by
    have ih := mgDel_put h l (v := v)
    have h1 : ¬k' = k := fun e => h e.symm
    rw [mgPut]
    by_cases hp : p.1 = k'
    · rw [if_pos hp]
      have h2 : ¬p.1 = k := fun e => h1 (hp.symm.trans e)
      simp [mgDel, h1, h2, mgPut, hp]
    · rw [if_neg hp]
      by_cases h2 : p.1 = k
      · have e1 : ∀ (X : List (κ × ν)), mgDel k (p :: X) = mgDel k X := fun X => by simp [mgDel, h2]
        rw [e1, e1, ih]
      · have e1 : ∀ (X : List (κ × ν)), mgDel k (p :: X) = p :: mgDel k X := fun X => by simp [mgDel, h2]
        rw [e1, e1, ih, mgPut, if_neg hp]
theorem perm_two {α : Type} {Z : List α} {a b : α} (h : Z.Perm [a, b]) : Z = [a, b] ∨ Z = [b, a] := by
  match Z, h with
  | [], h => exact absurd h.length_eq (by simp)
  | [x], h => exact absurd h.length_eq (by simp)
  | x :: y :: z :: l, h => exact absurd h.length_eq (by simp)
  | [x, y], h =>
    have hx : x ∈ [a, b] := h.mem_iff.1 (List.mem_cons_self ..)
    rcases List.mem_cons.1 hx with rfl | hx
    · exact .inl (by rw [List.perm_singleton.1 ((List.perm_cons _).1 h)])
    · rw [List.mem_singleton] at hx
      subst hx
      exact .inr (by rw [List.perm_singleton.1 ((List.perm_cons _).1 (h.trans (List.Perm.swap ..)))])
theorem turnL_chg {c : VChg} {n : Nat} (hc : c.Ok n) {Z : List (ByteArray × Option Nat)} (hp : Z.Perm (chgL c)) (D : List (ByteArray × Nat)) : turnL D Z = chgOn D c := by
  unfold chgL at hp
  unfold chgOn
  cases hf : c.f with
  | none =>
    simp only [hf] at hp ⊢
    rw [List.perm_singleton.1 hp, if_neg (hc.2 hf)]
    rfl
  | some i =>
    simp only [hf] at hp ⊢
    by_cases hg : c.gone = noT
    · rw [if_pos hg] at hp ⊢
      rw [List.perm_singleton.1 hp]
      rfl
    · rw [if_neg hg] at hp ⊢
      rcases perm_two hp with h | h
      · rw [h]
        rfl
      · rw [h]
        exact mgDel_put (hc.1 i hf).2 D
def itN (w : World) (r : Nat) : Nat := match w.heap[r]? with | some (.mapIter _ _ seen _) => seen.size | _ => 0
theorem Rh.itN {κ ν : Type} {kv : κ → Value} {vv : ν → Value} {w : World} {b r : Nat} {L D : List (κ × ν)} (h : Rh kv vv w b r L D) : itN w r = D.length := by
  obtain ⟨T, c, Q, h1, h2, h3, h4, h5, h6⟩ := h
  rw [Proofs.Ytdjmmdhjjdnbdaa.itN, h3, ← h6]
  simp
set_option maxRecDepth 100000 in
set_option maxHeartbeats 1000000 in
theorem vfTurn {w : World} {db cb : Nat} {D : List (ByteArray × Nat)} {C : List (ByteArray × Option Nat)} {fb : Nat → Nat} (hD : Mh strV (fiV fb) w db D) (hC : Mh strV (fiO fb) w cb C) (hne : db ≠ cb) :
    Calls Try.prog 46 #[maV db, maV cb] w fun e w' => e = .returned (.tuple #[]) ∧ ∃ Z, Z.Perm C ∧ Mh strV (fiV fb) w' db (turnL D Z) ∧ FrK w w' (Kis db) := by
  obtain ⟨c0, hrange, rg0⟩ := Rh.start hC
  have hrg := hrange (P := Try.prog) Try.underlying70
  have hD0 := hD.alloc (.mapIter (some cb) c0 #[] c0)
  have hF0 := (FrK.refl w (Kis db)).alloc (.mapIter (some cb) c0 #[] c0)
  have hrd : w.heap.size ≠ db := by have := hD.lt; omega
  obtain ⟨w0, hw0⟩ : ∃ w0, w.alloc (.mapIter (some cb) c0 #[] c0) = w0 := ⟨_, rfl⟩
  obtain ⟨r, hr⟩ : ∃ r, w.heap.size = r := ⟨_, rfl⟩
  rw [hw0] at rg0 hD0 hF0 hrg
  rw [hr] at rg0 hrd hrg
  have RG := Lib.hid rg0
  have HD := Lib.hid hD0
  have HF := Lib.hid hF0
  have HW := Lib.hid hw0
  have HR := Lib.hid hr
  clear rg0 hD0 hF0 hw0 hD hC hr hrange
  go_enter Try.func46, Try.ntmps46
  go_wp2_with fail
  go_loopw [4, 5] (fun _ _ wr => ∃ Z, Hid (Rh strV (fiO fb) wr cb r C Z) ∧ Hid (Mh strV (fiV fb) wr db (turnL D Z)) ∧ Hid (FrK w wr (Kis db))) (fun _ _ wr => C.length - itN wr r)
  case atStart => exact ⟨[], RG, HD, HF⟩
  case round =>
    obtain ⟨Z, RG1, HD1, HF1⟩ := hrel
    rcases RG1.out.next (P := Try.prog) 0 with ⟨hperm, hrun⟩ | ⟨k, v, w2, -, -, hrun, hrg2, hlen, hgr, hsz⟩
    · have hnx : ∀ ty, (Instr.next (.pointer (some ⟨r, 0, none⟩)) false ty).run Try.prog wr = _ := fun _ => hrun
      go_wp2_with fail
      go_end0
      exact ⟨rfl, Z, hperm, HD1.out, HF1.out⟩
    · have hnx : ∀ ty, (Instr.next (.pointer (some ⟨r, 0, none⟩)) false ty).run Try.prog wr = _ := fun _ => hrun
      have hen := hrg2.entry (P := Try.prog)
      have hD2 := HD1.out.grown hgr (fun e => hrd (Option.some.inj e).symm)
      have hF2 : FrK w w2 (Kis db) := HF1.out.trans (K' := Kis r) (FrK.of_grown hgr fun b _ e => (Option.some.inj e).symm) fun b hb e => by
        have h1 := HR.out
        simp only [Kis] at e
        omega
      have hcb : some cb ≠ some db := fun e => hne (Option.some.inj e).symm
      have hrb : some r ≠ some db := fun e => hrd (Option.some.inj e)
      have hZ := RG1.out.itN
      have RG2 := Lib.hid hrg2
      have HD2 := Lib.hid hD2
      have HF2 := Lib.hid hF2
      have HS := Lib.hid (turnL_snoc D Z (k, v))
      clear hrg2 hD2 hF2 hrun RG1 HD1 HF1 RG HD HF
      cases v with
      | none =>
        have hen' : (Instr.entry (.pointer (some ⟨r, 0, none⟩))).run Try.prog w2 = .ok (.tuple #[.string k, .pointer none]) w2 := hen
        clear hen
        go_wp2_with (first
          | (refine wpList_mhDel _ rfl (.tmp 15) (.tmp 16) 56 9 rfl (strRun Try.underlying9) Try.underlying56 db _ rfl HD2.out k rfl ?_
             rintro w3 hm3 hg3 hs3)
          | fail)
        refine ⟨⟨_, _, _, _, _, _, _, _, _, _, _, _, _, _, ⟨Z ++ [(k, none)], Lib.hid (RG2.out.grown hg3 hcb hrb), Lib.hid (by rw [HS.out]; exact hm3), Lib.hid (HF2.out.trans (FrK.of_grown hg3 fun b _ e => (Option.some.inj e).symm) fun _ _ e => e)⟩, rfl⟩, ?_⟩
        have h9 := (RG2.out.grown hg3 hcb hrb).itN
        rw [List.length_append, List.length_singleton] at h9
        omega
      | some i =>
        have hen' : (Instr.entry (.pointer (some ⟨r, 0, none⟩))).run Try.prog w2 = .ok (.tuple #[.string k, ptV (fb i)]) w2 := hen
        clear hen
        go_wp2_with (first
          | (refine wpList_mhPut _ rfl (.tmp 17) (.tmp 18) (.tmp 19) 56 rfl (strRun Try.underlying9) Try.underlying56 db _ rfl HD2.out k i rfl rfl ?_
             rintro w3 hm3 hg3 hs3)
          | fail)
        refine ⟨⟨_, _, _, _, _, _, _, _, _, _, _, _, _, _, ⟨Z ++ [(k, some i)], Lib.hid (RG2.out.grown hg3 hcb hrb), Lib.hid (by rw [HS.out]; exact hm3), Lib.hid (HF2.out.trans (FrK.of_grown hg3 fun b _ e => (Option.some.inj e).symm) fun _ _ e => e)⟩, rfl⟩, ?_⟩
        have h9 := (RG2.out.grown hg3 hcb hrb).itN
        rw [List.length_append, List.length_singleton] at h9
        omega
end Go.Proofs.Ytdjmmdhjjdnbdaa
