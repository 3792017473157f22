/- Texts of the proof of AdjustNamesSaid, joined: RowF SaA Open0. -/
import Derived.Test.YtchpekidnbdpdaaJAdjustNames8
import Derived.Test.YtchpekidnbdpdaaJAdjustNames1
import Derived.BigQuiet
import Derived.Test.YtchpekidnbdpdaaJAdjustNames7
import Derived.Test.YtchpekidnbdpdaaJAdjustNames9
import Derived.Test.YtchpekidnbdpdaaRows
import Derived.ProofKit
import Derived.OpenShut
import Derived.ShutString
import Derived.ChangeOld
/- Rows of structs: one stored whole. -/
namespace Go.Proofs.Ytchpekidnbdpdaa
open Go.RowKit

set_option maxRecDepth 100000 in
/-- append in a region that draws. -/
theorem step_appF {w : World} {ops : Array Oper} {o : Oper} {a : Act} {K : Act → World → Prop} {Q : Exit → Act → World → Prop} {E : Prop} (hw : Region.wanted o (yielded ops a.tmps) = true) (s x : Operand) (t : TypeId)
    (ho : o.op = .call { callee := .builtin .append, args := #[s, x], argTypes := #[t, t] })
    (base : Nat) (e : TypeId) (i : TypeInfo) (z : Value) (size bytes : Nat) (ht : Try.prog.underlying t = some (.slice e)) (hi : Try.prog.info? e = some i) (hz : i.zero = some z)
    (hsize : i.size = size) (hby : i.bytes = bytes) (hzs : z.cells.size = size) (hsz : 0 < size)
    (v : Value) (n : Nat) (xs : List Value) (hs : a.eval s = v) (hown : w.ownsRow base e size v n xs)
    (B : Nat) (A : Option Addr) (m c : Nat) (news : List Value) (hx : a.eval x = .slice A m c) (hl : news.length = m * size) (hr : Rd w B A news) (h1 : ∀ u ∈ news, u.oneCell' = true)
    (h63 : n + m ≤ maxLen) (hbytes : (n + m) * bytes ≤ 140737488355328) (hbase : base ≤ w.heap.size)
    (h : ∀ A' c' w', w'.ownsRow base e size (.slice A' (n + m) c') (n + m) (xs ++ news) → w.grownBy w' v.ownBlock → ((Value.slice A' (n + m) c').ownBlock = v.ownBlock ∨ (Value.slice A' (n + m) c').ownBlock = some w.heap.size) →
      (A' = none → v = .slice none 0 0 ∧ m = 0) → K (a.put o.dst (.slice A' (n + m) c')) w') :
    if Region.wanted o (yielded ops a.tmps) = true then Oper.wp Try.prog o a w K Q else E := by
  rw [if_pos hw]
  exact wp_app w s x t ho base e i z size bytes ht hi hz hsize hby hzs hsz v n xs hs hown B A m c news hx hl hr h1 h63 hbytes hbase h
section
variable {α : Type} {f : α → List Value} {k : Nat}
theorem flatR_set1 {l : List α} {i : Nat} (hi : i < l.length) (x : α) : flatR f (l.set i x) = flatR f (l.take i) ++ f x ++ flatR f (l.drop (i + 1)) := by
  rw [List.set_eq_take_append_cons_drop, if_pos hi, flatR_append, flatR_cons, List.append_assoc]
theorem run_storeVar_row {P : Program} (w : World) (g o : Nat) (t ty : TypeId) (cells cur : Array Value) (hg : w.heap[g]? = some (.cells cur t (0, 0))) (hl : o + cells.size ≤ cur.size) (h1 : ∀ v ∈ cells.toList, v.oneCell' = true) (hi : (P.info? ty).map (·.size) = some cells.size) :
    (storeVar ty ⟨g, o, none⟩ (.agg cells)).run P w = .ok () (w.setRow g (cur.toList.take o ++ cells.toList ++ cur.toList.drop (o + cells.size)).toArray) := by
  have := run_storeCells_at (P := P) g o t cells.toList 0 cur w hg (by simpa using hl) h1
  cases hq : P.info? ty with
  | none => simp [hq] at hi
  | some i =>
    have hs : cells.size = i.size := by simp [hq] at hi; omega
    rw [Array.length_toList, Nat.add_zero] at this
    simp [storeVar, sizeOf, typeInfo, hq, Value.cells, hs]
    simpa [hs] using this
/-- A struct stored into a row. -/
theorem row_store {P : Program} (hk : ∀ x, (f x).length = k) (h1 : ∀ x, ∀ u ∈ f x, u.oneCell' = true) {t ty : TypeId} (hi : (P.info? ty).map (·.size) = some k) {W : World} {base g n c i : Nat} {l : List α}
    (h : W.ownsRow base t k (.slice (some ⟨g, 0, none⟩) n c) n (flatR f l)) (hl : l.length = n) (hin : i < n) (x : α) :
    ∃ W', (storeVar ty ⟨g, i * k, none⟩ (.agg (f x).toArray)).run P W = .ok () W' ∧ W'.ownsRow base t k (.slice (some ⟨g, 0, none⟩) n c) n (flatR f (l.set i x)) ∧ W.grownBy W' (some g) ∧ W'.heap.size = W.heap.size := by
  rcases h.2 with ⟨e1, _⟩ | ⟨g', cap', cur, hv, hbase, hb, hnc, hcm, hcs, htk⟩
  · cases e1
  · injection hv with e1 _ e3
    injection e1 with e1
    injection e1 with e1
    subst e1 e3
    have hik : i * k + k ≤ n * k := by
      have := Nat.mul_le_mul_right k (show i + 1 ≤ n from hin)
      rw [Nat.succ_mul] at this
      exact this
    have hnk : n * k ≤ cur.size := by rw [hcs]; exact Nat.mul_le_mul_right k hnc
    have hfl := hk x
    have hst := run_storeVar_row (P := P) W g (i * k) t ty (f x).toArray cur hb (by rw [List.size_toArray, hfl]; omega) (fun v hv => h1 x v (by simpa using hv)) (by rw [List.size_toArray, hfl]; exact hi)
    rw [List.size_toArray, hfl] at hst
    refine ⟨_, hst, ?_, only_row g _, by simp⟩
    refine ⟨by rw [flatR_length hk, List.length_set, hl], .inr ⟨g, c, _, rfl, hbase, setRow_heap W g cur _ _ _ hb, hnc, hcm, ?_, ?_⟩⟩
    · simp only [List.size_toArray, List.length_append, List.length_take, List.length_drop, Array.length_toList, hfl]
      omega
    · have e1 : flatR f (l.take i) = cur.toList.take (i * k) := by
        rw [← flatR_take hk, ← htk, List.take_take, Nat.min_eq_left (by omega)]
      have e2 : flatR f (l.drop (i + 1)) = (cur.toList.drop (i * k + k)).take (n * k - (i * k + k)) := by
        rw [← flatR_drop hk, ← htk, List.drop_take, show (i + 1) * k = i * k + k from Nat.succ_mul i k]
      have hl1 : (cur.toList.take (i * k) ++ f x).length = i * k + k := by
        rw [List.length_append, List.length_take, Array.length_toList, hfl, Nat.min_eq_left (by omega)]
      rw [flatR_set1 (by rw [hl]; exact hin), e1, e2]
      show ((cur.toList.take (i * k) ++ (f x).toArray.toList ++ cur.toList.drop (i * k + k)).toArray.toList).take (n * k) = _
      rw [show (f x).toArray.toList = f x from rfl]
      show (cur.toList.take (i * k) ++ f x ++ cur.toList.drop (i * k + k)).take (n * k) = _
      rw [List.take_append, hl1, List.take_of_length_le (by rw [hl1]; omega)]
end
theorem own_takeK {w : World} {base : Nat} {t : TypeId} {k n m c : Nat} {A : Option Addr} {xs : List Value} (h : w.ownsRow base t k (.slice A n c) n xs) (hm : m ≤ n) : w.ownsRow base t k (.slice A m c) m (xs.take (m * k)) := by
  have hmk := Nat.mul_le_mul_right k hm
  refine ⟨by rw [List.length_take, h.1]; omega, ?_⟩
  rcases h.2 with ⟨e1, e2⟩ | ⟨g, cap, cur, e1, h2, h3, h4, h5, h6, h7⟩
  · injection e1 with e3 e4 e5
    subst e3
    subst e5
    have : m = 0 := by omega
    subst this
    exact .inl ⟨rfl, rfl⟩
  · injection e1 with e3 e4 e5
    subst e3
    subst e5
    refine .inr ⟨g, c, cur, rfl, h2, h3, by omega, h5, h6, ?_⟩
    rw [← h7, List.take_take]
    congr 1
    omega
end Go.Proofs.Ytchpekidnbdpdaa


/- bootprintkit.SameAdjusted. -/
namespace Go.Proofs.Ytchpekidnbdpdaa
open Go.RowKit
attribute [local go_sem ↓] loadSp_shutJ
deriving instance DecidableEq for Ad
/-- The numbers and the span of the j-th, as they are loaded. -/
def AtA (W : World) (b o j : Nat) (x : AE) : Prop :=
  W.cell? ⟨b, o + j * 14 + 11, none⟩ = some (.int .u64 x.a.up) ∧ W.cell? ⟨b, o + j * 14 + 12, none⟩ = some (.int .i64 x.a.shift) ∧ W.cell? ⟨b, o + j * 14 + 13, none⟩ = some (.int .i64 x.a.flag) ∧
    (loadK 32 ⟨b, o + j * 14, none⟩).run Try.prog W = .ok (spV x.a.s x.A x.n x.c) W
theorem RbA.atA {w : World} {B j : Nat} {A : Option Addr} {l : List AE} {x : AE} (h : RbA w B A l) (hx : l[j]? = some x) : ∃ b o, A = some ⟨b, o, none⟩ ∧ (∀ W, Below B w W → AtA W b o j x ∧ AeOk W B x) := by
  obtain ⟨b, o, hA, -, -, -⟩ := h.get hx
  refine ⟨b, o, hA, fun W hW => ?_⟩
  obtain ⟨b', o', hA', -, hc, hok⟩ := (h.below hW).get hx
  rw [hA] at hA'
  cases hA'
  refine ⟨⟨?_, ?_, ?_, loadK_aeSp fun k hk => by rw [Nat.add_assoc]; exact hc k hk⟩, hok⟩
  · rw [Nat.add_assoc]; exact hc 11 (by omega)
  · rw [Nat.add_assoc]; exact hc 12 (by omega)
  · rw [Nat.add_assoc]; exact hc 13 (by omega)
set_option maxRecDepth 100000 in
set_option maxHeartbeats 4000000 in
theorem kitSameAds {A1 A2 : Option Addr} {c1 c2 n m B : Nat} {la lb : List AE} (w : World) (hf : RbA w B A1 la) (hg : RbA w B A2 lb) (hn : la.length = n) (hm : lb.length = m) (hB : B ≤ w.heap.size) (hnl : n ≤ 1000000) :
    Calls Try.prog 16 #[.slice A1 n c1, .slice A2 m c2] w fun e w' => e = .returned (.bool (decide (la.map (·.a) = lb.map (·.a)))) ∧ Below w.heap.size w w' := by
  obtain ⟨q, hq⟩ : ∃ q, decide (la.map (·.a) = lb.map (·.a)) = q := ⟨_, rfl⟩
  rw [hq]
  have HQ := Lib.hid hq
  have HN := Lib.hid hn
  have HM := Lib.hid hm
  clear hq hn hm
  by_cases hnm : n = m
  case neg =>
    have d1 : ((n : Int) != (m : Int)) = true := by rw [bne_iff_ne]; omega
    have hq0 : q = false := by
      rw [← HQ.out, decide_eq_false_iff_not]
      intro e
      have := congrArg List.length e
      rw [List.length_map, List.length_map, HN.out, HM.out] at this
      exact hnm this
    have HQ0 := Lib.hid hq0
    clear hq0
    go_enter Try.func16, Try.ntmps16
    go_wp2
    go_ret
    exact ⟨by rw [HQ0.out]; rfl, Below.refl _ _⟩
  subst hnm
  have HF : Aside _ := hf
  have HG : Aside _ := hg
  clear hf hg
  go_enter Try.func16, Try.ntmps16
  go_wp2
  go_loopw [5] (fun iv_ wr => ∃ j : Nat, j ≤ n ∧ iv_ = .int .i64 j ∧ Hid (∀ i x y, i < j → la[i]? = some x → lb[i]? = some y → x.a = y.a) ∧ Below w.heap.size w wr) (fun i _ => n - (intOf i).toNat)
  case atStart => exact ⟨0, by omega, rfl, Lib.hid fun i x y h => by omega, Below.refl _ _⟩
  case round =>
    obtain ⟨j, hj, rfl, HA, hb⟩ := hrel
    by_cases hlt : j < n
    · have hlt' : (j : Int) < (n : Int) := by omega
      go_wp2_with fail
      obtain ⟨x, hx⟩ : ∃ x, la[j]? = some x := ⟨_, List.getElem?_eq_getElem (by rw [HN.out]; exact hlt)⟩
      obtain ⟨y, hy⟩ : ∃ y, lb[j]? = some y := ⟨_, List.getElem?_eq_getElem (by rw [HM.out]; exact hlt)⟩
      obtain ⟨b1, o1, rfl, ha1⟩ := HF.out.atA hx
      obtain ⟨b2, o2, rfl, ha2⟩ := HG.out.atA hy
      have hq1 : x.a ≠ y.a → q = false := fun hne => by
        rw [← HQ.out, decide_eq_false_iff_not]
        intro e
        have h1 : (la.map (·.a))[j]? = some x.a := by rw [List.getElem?_map, hx]; rfl
        rw [e, List.getElem?_map, hy] at h1
        exact hne (Option.some.inj h1).symm
      have H1 : Hid (∀ W, Below w.heap.size w W → AtA W b1 o1 j x ∧ AeOk W B x) := Lib.hid fun W hW => ha1 W (hW.mono hB)
      have H2 : Hid (∀ W, Below w.heap.size w W → AtA W b2 o2 j y ∧ AeOk W B y) := Lib.hid fun W hW => ha2 W (hW.mono hB)
      have HQ1 := Lib.hid hq1
      have HX := Lib.hid hx
      have HY := Lib.hid hy
      have HB := Lib.hid hb
      clear ha1 ha2 hq1 hx hy hb
      obtain ⟨p1, p2, p3, p4⟩ := (H1.out wr HB.out).1
      obtain ⟨r1, r2, r3, r4⟩ := (H2.out wr HB.out).1
      by_cases h1 : x.a.up = y.a.up
      · by_cases h2 : x.a.shift = y.a.shift
        · by_cases h3 : x.a.flag = y.a.flag
          · have e1 : ((x.a.up : Int) != (y.a.up : Int)) = false := by rw [h1]; simp
            have e2 : (x.a.shift != y.a.shift) = false := by rw [h2]; simp
            have e3 : (x.a.flag != y.a.flag) = false := by rw [h3]; simp
            have hbd : Below w.heap.size w wr.drew := below_drewN HB.out 1
            have hq4 := H1.out _ hbd
            have hr4 := H2.out _ hbd
            have hsm := kitSame (c1 := x.c) (c2 := y.c) x.a.s y.a.s wr.drew hq4.2.rd hr4.2.rd hq4.2.len hr4.2.len (Nat.le_trans hB hbd.size) hq4.2.max hr4.2.max
            have hxy : (x.a.s = y.a.s) → x.a = y.a := fun e => by
              cases hxa : x.a
              cases hya : y.a
              rw [hxa, hya] at h1 h2 h3 e
              simp_all
            obtain ⟨p, hp⟩ : ∃ p, decide (x.a.s = y.a.s) = p := ⟨_, rfl⟩
            rw [hp] at hsm
            have HP := Lib.hid hp
            have HS := Lib.hid hsm
            have HXY := Lib.hid hxy
            have S1 := hq4.1
            have S2 := hr4.1
            unfold AtA at S1 S2
            clear p1 p2 p3 p4 r1 r2 r3 r4 h1 h2 h3 hp hsm hxy hq4 hr4
            go_region_held3 (fun w' => (w'.cell? ⟨b1, o1 + j * 14 + 11, none⟩ = some (.int .u64 x.a.up) ∧ w'.cell? ⟨b1, o1 + j * 14 + 12, none⟩ = some (.int .i64 x.a.shift) ∧ w'.cell? ⟨b1, o1 + j * 14 + 13, none⟩ = some (.int .i64 x.a.flag) ∧ (loadK 32 ⟨b1, o1 + j * 14, none⟩).run Try.prog w' = .ok (spV x.a.s x.A x.n x.c) w') ∧ w'.cell? ⟨b2, o2 + j * 14 + 11, none⟩ = some (.int .u64 y.a.up) ∧ w'.cell? ⟨b2, o2 + j * 14 + 12, none⟩ = some (.int .i64 y.a.shift) ∧ w'.cell? ⟨b2, o2 + j * 14 + 13, none⟩ = some (.int .i64 y.a.flag) ∧ (loadK 32 ⟨b2, o2 + j * 14, none⟩).run Try.prog w' = .ok (spV y.a.s y.A y.n y.c) w')
              (first | exact ⟨S1, S2⟩ | exact ⟨(H1.out _ hb05).1, (H2.out _ hb05).1⟩)
              (first
                | (go_at_call 32
                   refine HS.out.mono ?_
                   rintro e w5 ⟨rfl, hb5⟩
                   have hb05 := hbd.trans (hb5.mono hbd.size))
                | fail)
            cases p with
            | false =>
              go_wp2
              go_ret
              have hne : x.a ≠ y.a := fun e => by
                have := HP.out
                rw [e] at this
                simp at this
              exact ⟨by rw [HQ1.out hne]; rfl, hb05⟩
            | true =>
              have hst : Hid (∀ i x y, i < j + 1 → la[i]? = some x → lb[i]? = some y → x.a = y.a) := Lib.hid fun i u v hi hu hv => by
                by_cases hij : i < j
                · exact HA.out i u v hij hu hv
                · have : i = j := by omega
                  subst this
                  rw [HX.out] at hu
                  rw [HY.out] at hv
                  cases hu
                  cases hv
                  exact HXY.out (of_decide_eq_true HP.out)
              clear S1 S2
              go_wp2
              go_roundw
              case rel => exact ⟨j + 1, by omega, by go_num, hst, hb05⟩
              case measure => simp [intOf]; omega
          · have e1 : ((x.a.up : Int) != (y.a.up : Int)) = false := by rw [h1]; simp
            have e2 : (x.a.shift != y.a.shift) = false := by rw [h2]; simp
            have e3 : (x.a.flag != y.a.flag) = true := by rw [bne_iff_ne]; exact h3
            have hq0 := HQ1.out fun e => h3 (by rw [e])
            have HQ0 := Lib.hid hq0
            clear hq0 h1 h2 h3
            go_quiet (fail)
            go_wp2
            go_ret
            exact ⟨by rw [HQ0.out]; rfl, below_drewN HB.out _⟩
        · have e1 : ((x.a.up : Int) != (y.a.up : Int)) = false := by rw [h1]; simp
          have e2 : (x.a.shift != y.a.shift) = true := by rw [bne_iff_ne]; exact h2
          have hq0 := HQ1.out fun e => h2 (by rw [e])
          have HQ0 := Lib.hid hq0
          clear hq0 h1 h2
          go_quiet (fail)
          go_wp2
          go_ret
          exact ⟨by rw [HQ0.out]; rfl, below_drewN HB.out _⟩
      · have e1 : ((x.a.up : Int) != (y.a.up : Int)) = true := by rw [bne_iff_ne]; omega
        have hq0 := HQ1.out fun e => h1 (by rw [e])
        have HQ0 := Lib.hid hq0
        clear hq0 h1
        go_quiet (fail)
        go_wp2
        go_ret
        exact ⟨by rw [HQ0.out]; rfl, below_drewN HB.out _⟩
    · have hlt' : ¬ (j : Int) < (n : Int) := by omega
      obtain rfl : j = n := by omega
      have hq0 : q = true := by
        rw [← HQ.out, decide_eq_true_iff]
        refine List.ext_getElem? fun i => ?_
        rw [List.getElem?_map, List.getElem?_map]
        by_cases hi : i < j
        · rw [List.getElem?_eq_getElem (by rw [HN.out]; exact hi), List.getElem?_eq_getElem (by rw [HM.out]; exact hi)]
          exact congrArg some (HA.out i _ _ hi (List.getElem?_eq_getElem (by rw [HN.out]; exact hi)) (List.getElem?_eq_getElem (by rw [HM.out]; exact hi)))
        · rw [List.getElem?_eq_none (by rw [HN.out]; omega), List.getElem?_eq_none (by rw [HM.out]; omega)]
      have HQ0 := Lib.hid hq0
      clear hq0
      go_wp2
      go_ret
      exact ⟨by rw [HQ0.out]; rfl, hb⟩
end Go.Proofs.Ytchpekidnbdpdaa


/- What comes in: what each statement's row asks. -/
namespace Go.Proofs.Ytchpekidnbdpdaa
open Go.ChangeShapes Go.WideShapes Go.ChangeAt Go.RowKit

theorem ownKnob_none : ownKnob Try.prog.godebug = none := by kernel_rfl
theorem laidOut : laidOutB Try.prog = true := by kernel_rfl

end Go.Proofs.Ytchpekidnbdpdaa

