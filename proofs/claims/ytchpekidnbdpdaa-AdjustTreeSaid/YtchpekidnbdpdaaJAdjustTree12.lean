/- Texts of the proof of AdjustTreeSaid, joined: RowF SaA RaK2 Open0 SpO SsO Qb. -/
import Derived.Test.YtchpekidnbdpdaaJAdjustTree8
import Derived.Test.YtchpekidnbdpdaaJAdjustTree1
import Derived.BigQuiet
import Derived.Test.YtchpekidnbdpdaaJAdjustTree7
import Derived.Test.YtchpekidnbdpdaaJAdjustTree9
import Derived.Test.YtchpekidnbdpdaaRows
import Derived.ProofKit
import Derived.OpenShut
import Derived.ShutString
import Derived.ChangeOld
import Derived.Deep.Slices
import Derived.Lib.SmallJoins
import Derived.Deep.QuietTactic
/- Rows of structs: one stored whole. -/
namespace Go.Proofs.Ytchpekidnbdpdaa
open Go.RowKit

set_option maxRecDepth 100000 in
/-- append in a region that draws. -/
theorem step_appF {w : World} {ops : Array Oper} {o : Oper} {a : Act} {K : Act → World → Prop} {Q : Exit → Act → World → Prop} {E : Prop} (hw : Region.wanted o (yielded ops a.tmps) = true) (s x : Operand) (t : TypeId)
    (ho : o.op = .call { callee := .builtin .append, args := #[s, x], argTypes := #[t, t] })
    (base : Nat) (e : TypeId) (i : TypeInfo) (z : Value) (size bytes : Nat) (ht : Try.prog.underlying t = some (.slice e)) (hi : Try.prog.info? e = some i) (hz : i.zero = some z)
    (hsize : i.size = size) (hby : i.bytes = bytes) (hzs : z.cells.size = size) (hsz : 0 < size)
    (v : Value) (n : Nat) (xs : List Value) (hs : a.eval s = v) (hown : w.ownsRow base e size v n xs)
    (B : Nat) (A : Option Addr) (m c : Nat) (news : List Value) (hx : a.eval x = .slice A m c) (hl : news.length = m * size) (hr : Rd w B A news) (h1 : ∀ u ∈ news, u.oneCell' = true)
    (h63 : n + m ≤ maxLen) (hbytes : (n + m) * bytes ≤ 140737488355328) (hbase : base ≤ w.heap.size)
    (h : ∀ A' c' w', w'.ownsRow base e size (.slice A' (n + m) c') (n + m) (xs ++ news) → w.grownBy w' v.ownBlock → ((Value.slice A' (n + m) c').ownBlock = v.ownBlock ∨ (Value.slice A' (n + m) c').ownBlock = some w.heap.size) →
      (A' = none → v = .slice none 0 0 ∧ m = 0) → K (a.put o.dst (.slice A' (n + m) c')) w') :
    if Region.wanted o (yielded ops a.tmps) = true then Oper.wp Try.prog o a w K Q else E := by
  rw [if_pos hw]
  exact wp_app w s x t ho base e i z size bytes ht hi hz hsize hby hzs hsz v n xs hs hown B A m c news hx hl hr h1 h63 hbytes hbase h
section
variable {α : Type} {f : α → List Value} {k : Nat}
theorem flatR_set1 {l : List α} {i : Nat} (hi : i < l.length) (x : α) : flatR f (l.set i x) = flatR f (l.take i) ++ f x ++ flatR f (l.drop (i + 1)) := by
  rw [List.set_eq_take_append_cons_drop, if_pos hi, flatR_append, flatR_cons, List.append_assoc]
theorem run_storeVar_row {P : Program} (w : World) (g o : Nat) (t ty : TypeId) (cells cur : Array Value) (hg : w.heap[g]? = some (.cells cur t (0, 0))) (hl : o + cells.size ≤ cur.size) (h1 : ∀ v ∈ cells.toList, v.oneCell' = true) (hi : (P.info? ty).map (·.size) = some cells.size) :
    (storeVar ty ⟨g, o, none⟩ (.agg cells)).run P w = .ok () (w.setRow g (cur.toList.take o ++ cells.toList ++ cur.toList.drop (o + cells.size)).toArray) := by
  have := run_storeCells_at (P := P) g o t cells.toList 0 cur w hg (by simpa using hl) h1
  cases hq : P.info? ty with
  | none => simp [hq] at hi
  | some i =>
    have hs : cells.size = i.size := by simp [hq] at hi; omega
    rw [Array.length_toList, Nat.add_zero] at this
    simp [storeVar, sizeOf, typeInfo, hq, Value.cells, hs]
    simpa [hs] using this
/-- A struct stored into a row. -/
theorem row_store {P : Program} (hk : ∀ x, (f x).length = k) (h1 : ∀ x, ∀ u ∈ f x, u.oneCell' = true) {t ty : TypeId} (hi : (P.info? ty).map (·.size) = some k) {W : World} {base g n c i : Nat} {l : List α}
    (h : W.ownsRow base t k (.slice (some ⟨g, 0, none⟩) n c) n (flatR f l)) (hl : l.length = n) (hin : i < n) (x : α) :
    ∃ W', (storeVar ty ⟨g, i * k, none⟩ (.agg (f x).toArray)).run P W = .ok () W' ∧ W'.ownsRow base t k (.slice (some ⟨g, 0, none⟩) n c) n (flatR f (l.set i x)) ∧ W.grownBy W' (some g) ∧ W'.heap.size = W.heap.size := by
  rcases h.2 with ⟨e1, _⟩ | ⟨g', cap', cur, hv, hbase, hb, hnc, hcm, hcs, htk⟩
  · cases e1
  · injection hv with e1 _ e3
    injection e1 with e1
    injection e1 with e1
    subst e1 e3
    have hik : i * k + k ≤ n * k := by
      have := Nat.mul_le_mul_right k (show i + 1 ≤ n from hin)
      rw [Nat.succ_mul] at this
      exact this
    have hnk : n * k ≤ cur.size := by rw [hcs]; exact Nat.mul_le_mul_right k hnc
    have hfl := hk x
    have hst := run_storeVar_row (P := P) W g (i * k) t ty (f x).toArray cur hb (by rw [List.size_toArray, hfl]; omega) (fun v hv => h1 x v (by simpa using hv)) (by rw [List.size_toArray, hfl]; exact hi)
    rw [List.size_toArray, hfl] at hst
    refine ⟨_, hst, ?_, only_row g _, by simp⟩
    refine ⟨by rw [flatR_length hk, List.length_set, hl], .inr ⟨g, c, _, rfl, hbase, setRow_heap W g cur _ _ _ hb, hnc, hcm, ?_, ?_⟩⟩
    · simp only [List.size_toArray, List.length_append, List.length_take, List.length_drop, Array.length_toList, hfl]
      omega
    · have e1 : flatR f (l.take i) = cur.toList.take (i * k) := by
        rw [← flatR_take hk, ← htk, List.take_take, Nat.min_eq_left (by omega)]
      have e2 : flatR f (l.drop (i + 1)) = (cur.toList.drop (i * k + k)).take (n * k - (i * k + k)) := by
        rw [← flatR_drop hk, ← htk, List.drop_take, show (i + 1) * k = i * k + k from Nat.succ_mul i k]
      have hl1 : (cur.toList.take (i * k) ++ f x).length = i * k + k := by
        rw [List.length_append, List.length_take, Array.length_toList, hfl, Nat.min_eq_left (by omega)]
      rw [flatR_set1 (by rw [hl]; exact hin), e1, e2]
      show ((cur.toList.take (i * k) ++ (f x).toArray.toList ++ cur.toList.drop (i * k + k)).toArray.toList).take (n * k) = _
      rw [show (f x).toArray.toList = f x from rfl]
      show (cur.toList.take (i * k) ++ f x ++ cur.toList.drop (i * k + k)).take (n * k) = _
      rw [List.take_append, hl1, List.take_of_length_le (by rw [hl1]; omega)]
end
theorem own_takeK {w : World} {base : Nat} {t : TypeId} {k n m c : Nat} {A : Option Addr} {xs : List Value} (h : w.ownsRow base t k (.slice A n c) n xs) (hm : m ≤ n) : w.ownsRow base t k (.slice A m c) m (xs.take (m * k)) := by
  have hmk := Nat.mul_le_mul_right k hm
  refine ⟨by rw [List.length_take, h.1]; omega, ?_⟩
  rcases h.2 with ⟨e1, e2⟩ | ⟨g, cap, cur, e1, h2, h3, h4, h5, h6, h7⟩
  · injection e1 with e3 e4 e5
    subst e3
    subst e5
    have : m = 0 := by omega
    subst this
    exact .inl ⟨rfl, rfl⟩
  · injection e1 with e3 e4 e5
    subst e3
    subst e5
    refine .inr ⟨g, c, cur, rfl, h2, h3, by omega, h5, h6, ?_⟩
    rw [← h7, List.take_take]
    congr 1
    omega
end Go.Proofs.Ytchpekidnbdpdaa


/- bootprintkit.SameAdjusted. -/
namespace Go.Proofs.Ytchpekidnbdpdaa
open Go.RowKit
attribute [local go_sem ↓] loadSp_shutJ
deriving instance DecidableEq for Ad
/-- The numbers and the span of the j-th, as they are loaded. -/
def AtA (W : World) (b o j : Nat) (x : AE) : Prop :=
  W.cell? ⟨b, o + j * 14 + 11, none⟩ = some (.int .u64 x.a.up) ∧ W.cell? ⟨b, o + j * 14 + 12, none⟩ = some (.int .i64 x.a.shift) ∧ W.cell? ⟨b, o + j * 14 + 13, none⟩ = some (.int .i64 x.a.flag) ∧
    (loadK 32 ⟨b, o + j * 14, none⟩).run Try.prog W = .ok (spV x.a.s x.A x.n x.c) W
theorem RbA.atA {w : World} {B j : Nat} {A : Option Addr} {l : List AE} {x : AE} (h : RbA w B A l) (hx : l[j]? = some x) : ∃ b o, A = some ⟨b, o, none⟩ ∧ (∀ W, Below B w W → AtA W b o j x ∧ AeOk W B x) := by
  obtain ⟨b, o, hA, -, -, -⟩ := h.get hx
  refine ⟨b, o, hA, fun W hW => ?_⟩
  obtain ⟨b', o', hA', -, hc, hok⟩ := (h.below hW).get hx
  rw [hA] at hA'
  cases hA'
  refine ⟨⟨?_, ?_, ?_, loadK_aeSp fun k hk => by rw [Nat.add_assoc]; exact hc k hk⟩, hok⟩
  · rw [Nat.add_assoc]; exact hc 11 (by omega)
  · rw [Nat.add_assoc]; exact hc 12 (by omega)
  · rw [Nat.add_assoc]; exact hc 13 (by omega)
set_option maxRecDepth 100000 in
set_option maxHeartbeats 4000000 in
theorem kitSameAds {A1 A2 : Option Addr} {c1 c2 n m B : Nat} {la lb : List AE} (w : World) (hf : RbA w B A1 la) (hg : RbA w B A2 lb) (hn : la.length = n) (hm : lb.length = m) (hB : B ≤ w.heap.size) (hnl : n ≤ 1000000) :
    Calls Try.prog 16 #[.slice A1 n c1, .slice A2 m c2] w fun e w' => e = .returned (.bool (decide (la.map (·.a) = lb.map (·.a)))) ∧ Below w.heap.size w w' := by
  obtain ⟨q, hq⟩ : ∃ q, decide (la.map (·.a) = lb.map (·.a)) = q := ⟨_, rfl⟩
  rw [hq]
  have HQ := Lib.hid hq
  have HN := Lib.hid hn
  have HM := Lib.hid hm
  clear hq hn hm
  by_cases hnm : n = m
  case neg =>
    have d1 : ((n : Int) != (m : Int)) = true := by rw [bne_iff_ne]; omega
    have hq0 : q = false := by
      rw [← HQ.out, decide_eq_false_iff_not]
      intro e
      have := congrArg List.length e
      rw [List.length_map, List.length_map, HN.out, HM.out] at this
      exact hnm this
    have HQ0 := Lib.hid hq0
    clear hq0
    go_enter Try.func16, Try.ntmps16
    go_wp2
    go_ret
    exact ⟨by rw [HQ0.out]; rfl, Below.refl _ _⟩
  subst hnm
  have HF : Aside _ := hf
  have HG : Aside _ := hg
  clear hf hg
  go_enter Try.func16, Try.ntmps16
  go_wp2
  go_loopw [5] (fun iv_ wr => ∃ j : Nat, j ≤ n ∧ iv_ = .int .i64 j ∧ Hid (∀ i x y, i < j → la[i]? = some x → lb[i]? = some y → x.a = y.a) ∧ Below w.heap.size w wr) (fun i _ => n - (intOf i).toNat)
  case atStart => exact ⟨0, by omega, rfl, Lib.hid fun i x y h => by omega, Below.refl _ _⟩
  case round =>
    obtain ⟨j, hj, rfl, HA, hb⟩ := hrel
    by_cases hlt : j < n
    · have hlt' : (j : Int) < (n : Int) := by omega
      go_wp2_with fail
      obtain ⟨x, hx⟩ : ∃ x, la[j]? = some x := ⟨_, List.getElem?_eq_getElem (by rw [HN.out]; exact hlt)⟩
      obtain ⟨y, hy⟩ : ∃ y, lb[j]? = some y := ⟨_, List.getElem?_eq_getElem (by rw [HM.out]; exact hlt)⟩
      obtain ⟨b1, o1, rfl, ha1⟩ := HF.out.atA hx
      obtain ⟨b2, o2, rfl, ha2⟩ := HG.out.atA hy
      have hq1 : x.a ≠ y.a → q = false := fun hne => by
        rw [← HQ.out, decide_eq_false_iff_not]
        intro e
        have h1 : (la.map (·.a))[j]? = some x.a := by rw [List.getElem?_map, hx]; rfl
        rw [e, List.getElem?_map, hy] at h1
        exact hne (Option.some.inj h1).symm
      have H1 : Hid (∀ W, Below w.heap.size w W → AtA W b1 o1 j x ∧ AeOk W B x) := Lib.hid fun W hW => ha1 W (hW.mono hB)
      have H2 : Hid (∀ W, Below w.heap.size w W → AtA W b2 o2 j y ∧ AeOk W B y) := Lib.hid fun W hW => ha2 W (hW.mono hB)
      have HQ1 := Lib.hid hq1
      have HX := Lib.hid hx
      have HY := Lib.hid hy
      have HB := Lib.hid hb
      clear ha1 ha2 hq1 hx hy hb
      obtain ⟨p1, p2, p3, p4⟩ := (H1.out wr HB.out).1
      obtain ⟨r1, r2, r3, r4⟩ := (H2.out wr HB.out).1
      by_cases h1 : x.a.up = y.a.up
      · by_cases h2 : x.a.shift = y.a.shift
        · by_cases h3 : x.a.flag = y.a.flag
          · have e1 : ((x.a.up : Int) != (y.a.up : Int)) = false := by rw [h1]; simp
            have e2 : (x.a.shift != y.a.shift) = false := by rw [h2]; simp
            have e3 : (x.a.flag != y.a.flag) = false := by rw [h3]; simp
            have hbd : Below w.heap.size w wr.drew := below_drewN HB.out 1
            have hq4 := H1.out _ hbd
            have hr4 := H2.out _ hbd
            have hsm := kitSame (c1 := x.c) (c2 := y.c) x.a.s y.a.s wr.drew hq4.2.rd hr4.2.rd hq4.2.len hr4.2.len (Nat.le_trans hB hbd.size) hq4.2.max hr4.2.max
            have hxy : (x.a.s = y.a.s) → x.a = y.a := fun e => by
              cases hxa : x.a
              cases hya : y.a
              rw [hxa, hya] at h1 h2 h3 e
              simp_all
            obtain ⟨p, hp⟩ : ∃ p, decide (x.a.s = y.a.s) = p := ⟨_, rfl⟩
            rw [hp] at hsm
            have HP := Lib.hid hp
            have HS := Lib.hid hsm
            have HXY := Lib.hid hxy
            have S1 := hq4.1
            have S2 := hr4.1
            unfold AtA at S1 S2
            clear p1 p2 p3 p4 r1 r2 r3 r4 h1 h2 h3 hp hsm hxy hq4 hr4
            go_region_held3 (fun w' => (w'.cell? ⟨b1, o1 + j * 14 + 11, none⟩ = some (.int .u64 x.a.up) ∧ w'.cell? ⟨b1, o1 + j * 14 + 12, none⟩ = some (.int .i64 x.a.shift) ∧ w'.cell? ⟨b1, o1 + j * 14 + 13, none⟩ = some (.int .i64 x.a.flag) ∧ (loadK 32 ⟨b1, o1 + j * 14, none⟩).run Try.prog w' = .ok (spV x.a.s x.A x.n x.c) w') ∧ w'.cell? ⟨b2, o2 + j * 14 + 11, none⟩ = some (.int .u64 y.a.up) ∧ w'.cell? ⟨b2, o2 + j * 14 + 12, none⟩ = some (.int .i64 y.a.shift) ∧ w'.cell? ⟨b2, o2 + j * 14 + 13, none⟩ = some (.int .i64 y.a.flag) ∧ (loadK 32 ⟨b2, o2 + j * 14, none⟩).run Try.prog w' = .ok (spV y.a.s y.A y.n y.c) w')
              (first | exact ⟨S1, S2⟩ | exact ⟨(H1.out _ hb05).1, (H2.out _ hb05).1⟩)
              (first
                | (go_at_call 32
                   refine HS.out.mono ?_
                   rintro e w5 ⟨rfl, hb5⟩
                   have hb05 := hbd.trans (hb5.mono hbd.size))
                | fail)
            cases p with
            | false =>
              go_wp2
              go_ret
              have hne : x.a ≠ y.a := fun e => by
                have := HP.out
                rw [e] at this
                simp at this
              exact ⟨by rw [HQ1.out hne]; rfl, hb05⟩
            | true =>
              have hst : Hid (∀ i x y, i < j + 1 → la[i]? = some x → lb[i]? = some y → x.a = y.a) := Lib.hid fun i u v hi hu hv => by
                by_cases hij : i < j
                · exact HA.out i u v hij hu hv
                · have : i = j := by omega
                  subst this
                  rw [HX.out] at hu
                  rw [HY.out] at hv
                  cases hu
                  cases hv
                  exact HXY.out (of_decide_eq_true HP.out)
              clear S1 S2
              go_wp2
              go_roundw
              case rel => exact ⟨j + 1, by omega, by go_num, hst, hb05⟩
              case measure => simp [intOf]; omega
          · have e1 : ((x.a.up : Int) != (y.a.up : Int)) = false := by rw [h1]; simp
            have e2 : (x.a.shift != y.a.shift) = false := by rw [h2]; simp
            have e3 : (x.a.flag != y.a.flag) = true := by rw [bne_iff_ne]; exact h3
            have hq0 := HQ1.out fun e => h3 (by rw [e])
            have HQ0 := Lib.hid hq0
            clear hq0 h1 h2 h3
            go_quiet (fail)
            go_wp2
            go_ret
            exact ⟨by rw [HQ0.out]; rfl, below_drewN HB.out _⟩
        · have e1 : ((x.a.up : Int) != (y.a.up : Int)) = false := by rw [h1]; simp
          have e2 : (x.a.shift != y.a.shift) = true := by rw [bne_iff_ne]; exact h2
          have hq0 := HQ1.out fun e => h2 (by rw [e])
          have HQ0 := Lib.hid hq0
          clear hq0 h1 h2
          go_quiet (fail)
          go_wp2
          go_ret
          exact ⟨by rw [HQ0.out]; rfl, below_drewN HB.out _⟩
      · have e1 : ((x.a.up : Int) != (y.a.up : Int)) = true := by rw [bne_iff_ne]; omega
        have hq0 := HQ1.out fun e => h1 (by rw [e])
        have HQ0 := Lib.hid hq0
        clear hq0 h1
        go_quiet (fail)
        go_wp2
        go_ret
        exact ⟨by rw [HQ0.out]; rfl, below_drewN HB.out _⟩
    · have hlt' : ¬ (j : Int) < (n : Int) := by omega
      obtain rfl : j = n := by omega
      have hq0 : q = true := by
        rw [← HQ.out, decide_eq_true_iff]
        refine List.ext_getElem? fun i => ?_
        rw [List.getElem?_map, List.getElem?_map]
        by_cases hi : i < j
        · rw [List.getElem?_eq_getElem (by rw [HN.out]; exact hi), List.getElem?_eq_getElem (by rw [HM.out]; exact hi)]
          exact congrArg some (HA.out i _ _ hi (List.getElem?_eq_getElem (by rw [HN.out]; exact hi)) (List.getElem?_eq_getElem (by rw [HM.out]; exact hi)))
        · rw [List.getElem?_eq_none (by rw [HN.out]; omega), List.getElem?_eq_none (by rw [HM.out]; omega)]
      have HQ0 := Lib.hid hq0
      clear hq0
      go_wp2
      go_ret
      exact ⟨by rw [HQ0.out]; rfl, hb⟩
end Go.Proofs.Ytchpekidnbdpdaa


/- The document's layer 21: Adjust, of however many spans. -/
namespace Go.Proofs.Ytchpekidnbdpdaa
open Go.RowKit
set_option maxRecDepth 100000 in
theorem raAdjust {A : Option Addr} {c n B : Nat} (l : List El) (w : World) (hf : RbS w B A l) (hn : l.length = n) (hB : B ≤ w.heap.size) (hnl : n ≤ 1000000) (hu : ∀ e ∈ l, e.s.U64) :
    Calls Try.prog 12 #[.slice A n c] w (AdjPost w (adjS (sps l))) := by
  have hl := sps_length l
  by_cases h0 : n = 0
  · have he : adjS (sps l) = ([], 2) := by unfold adjS; rw [if_pos (by rw [hl, hn]; exact h0)]
    rw [he]
    subst h0
    clear hf hn hu he hl
    go_enter Try.func12, Try.ntmps12
    go_wp2
    go_ret2
    exact AdjPost.no (Below.refl _ _)
  by_cases h1 : n ≤ 64
  · exact raAdjustM l w hf hn hB (by omega) h1 hu
  · have he : adjS (sps l) = ([], 3) := by unfold adjS; rw [if_neg (by rw [hl, hn]; exact h0), if_pos (by rw [hl, hn]; omega)]
    rw [he]
    have h0z : ((n : Int) == 0) = false := by simp; omega
    have h1z : (64 : Int) < (n : Int) := by omega
    clear hf hn hu he hl
    go_enter Try.func12, Try.ntmps12
    go_wp2
    go_ret2
    exact AdjPost.no (Below.refl _ _)
end Go.Proofs.Ytchpekidnbdpdaa


/- What comes in: what each statement's row asks. -/
namespace Go.Proofs.Ytchpekidnbdpdaa
open Go.ChangeShapes Go.WideShapes Go.ChangeAt Go.RowKit

theorem ownKnob_none : ownKnob Try.prog.godebug = none := by kernel_rfl
theorem laidOut : laidOutB Try.prog = true := by kernel_rfl

end Go.Proofs.Ytchpekidnbdpdaa


/- Spans that came in. -/
namespace Go.Proofs.Ytchpekidnbdpdaa
open Go.ChangeShapes Go.WideShapes Go.ChangeAt Go.RowKit

theorem list_of {α : Type} (P : Nat → α → Prop) : ∀ (n : Nat), (∀ i, i < n → ∃ x, P i x) → ∃ l : List α, l.length = n ∧ ∀ i x, l[i]? = some x → P i x
  | 0, _ => ⟨[], rfl, fun i x h => by simp at h⟩
  | n + 1, h => by
    obtain ⟨l, hl, hp⟩ := list_of P n fun i hi => h i (by omega)
    obtain ⟨x, hx⟩ := h n (by omega)
    refine ⟨l ++ [x], by simp [hl], fun i y hy => ?_⟩
    by_cases hi : i < l.length
    · rw [List.getElem?_append_left hi] at hy
      exact hp i y hy
    · have hin : i = n := by
        have := (List.getElem?_eq_some_iff.1 hy).1
        simp at this
        omega
      subst hin
      rw [List.getElem?_append_right (by omega), hl, Nat.sub_self] at hy
      simp at hy
      subst hy
      exact hx
/-- Tags that came in. -/
structure InT (w : World) (A : Option Addr) (n c : Nat) (l : List Tg) : Prop where
  rd : RbT w w.heap.size A l
  len : l.length = n
  cap : n ≤ c
  max : c ≤ maxLen
set_option maxRecDepth 100000 in
theorem open_tag {H : Type} {enc : TypeId × Value → H} {W : World} {base : Nat} {held : Bool} {cs : List Value} {fuel : Nat} {y : DataW H × List MemPlace} {a : Addr} {b0 : Nat}
    (hc : W.cells? b0 a 2 = some cs) (h : DataW.trod enc Try.prog W base (fun _ => true) held fuel 80 cs = some y) : ∃ x : Tg, W.cell? a = some (.string x.key) ∧ W.cell? (a.add 1) = some (.string x.val) := by
  obtain ⟨xs, n, _, _, hlen, hyl, hf⟩ := DataW.trod_struct Try.underlying80 h
  obtain ⟨_, hcl, hat⟩ := World.cells?_some hc
  match cs, hcl with
  | [v0, v1], _ =>
    match xs, hyl with
    | [y0, y1], _ =>
      have cS : Try.prog.cellsOf 9 = 1 := by kernel_rfl
      have h0 : DataW.trod enc Try.prog W base (fun _ => true) held n 9 (([v0, v1].drop 0).take (Try.prog.cellsOf 9)) = some y0 := hf 0 _ rfl
      have h1 : DataW.trod enc Try.prog W base (fun _ => true) held n 9 (([v0, v1].drop 1).take (Try.prog.cellsOf 9)) = some y1 := hf 1 _ rfl
      rw [cS] at h0 h1
      simp only [List.drop_zero, List.drop_succ_cons, List.take_succ_cons, List.take_zero] at h0 h1
      obtain ⟨k, hk, -, -⟩ := DataW.trod_string Try.underlying9 h0
      obtain ⟨v, hv, -, -⟩ := DataW.trod_string Try.underlying9 h1
      simp at hk hv
      subst hk hv
      refine ⟨⟨k, v⟩, ?_, hat 1 (by omega)⟩
      have := hat 0 (by omega)
      simpa [Addr.add] using this
set_option maxRecDepth 100000 in
theorem open_fT {H : Type} {enc : TypeId × Value → H} {W : World} {base : Nat} {held : Bool} {v : Value} {fuel : Nat} {x : DataW H × List MemPlace}
    (h : DataW.trod enc Try.prog W base (fun _ => true) held fuel 30 [v] = some x) : ∃ A n c l, v = .slice A n c ∧ InT W A n c l := by
  rcases Deep.open_slice Try.underlying30 h with ⟨hcs, _⟩ | ⟨a, len, cap, m, n, D, Pl, hcs, hb, hl, hm, hmm, hx, hi⟩
  · simp at hcs
    subst hcs
    exact ⟨none, 0, 0, [], rfl, ⟨Rd.nil, rfl, Nat.le_refl _, by simp [maxLen]⟩⟩
  · simp at hcs
    subst hcs
    rw [if_pos rfl] at hmm
    subst hmm
    have hC : Try.prog.cellsOf 80 = 2 := by kernel_rfl
    rw [hC] at hi
    obtain ⟨l, hwl, hw⟩ := list_of (fun i (x : Tg) => W.cell? (a.add (i * 2)) = some (.string x.key) ∧ W.cell? ((a.add (i * 2)).add 1) = some (.string x.val)) len fun i hil => by
      obtain ⟨cs', hc, ht⟩ := hi i (by omega)
      exact open_tag hc ht
    refine ⟨some a, len, m, l, rfl, ⟨?_, hwl, hl, hm⟩⟩
    intro hne
    have hpos : 0 < len := by
      rcases Nat.eq_zero_or_pos len with h0 | h0
      · rw [← hwl] at h0
        rw [List.eq_nil_of_length_eq_zero h0] at hne
        exact absurd rfl hne
      · exact h0
    obtain ⟨x0, hx0⟩ : ∃ x0, l[0]? = some x0 := ⟨_, List.getElem?_eq_getElem (by omega)⟩
    obtain ⟨b, off, spot⟩ := a
    have h0 := (hw 0 x0 hx0).1
    simp only [Nat.zero_mul, Addr.add] at h0
    have hspot : spot = none := by simpa using World.cell?_spot h0
    subst hspot
    refine ⟨b, off, rfl, World.block_lt_of_cell? W ⟨b, off, none⟩ (by simpa using h0), fun j u hu => ?_⟩
    have hj : j < l.length * 2 := by
      have := (List.getElem?_eq_some_iff.1 hu).1
      rwa [tgs_length] at this
    obtain ⟨x1, hx1⟩ : ∃ x1, l[j / 2]? = some x1 := ⟨_, List.getElem?_eq_getElem (by omega)⟩
    obtain ⟨g1, g2⟩ := hw (j / 2) x1 hx1
    obtain ⟨t1, t2⟩ := tgs_get hx1
    rcases Nat.mod_two_eq_zero_or_one j with hr | hr
    · have e : j / 2 * 2 = j := by omega
      rw [e] at t1 g1
      rw [hu] at t1
      rw [Option.some.inj t1]
      rw [Addr.add_lit] at g1
      exact g1
    · have e : j / 2 * 2 + 1 = j := by omega
      rw [e] at t2
      rw [hu] at t2
      rw [Option.some.inj t2]
      rw [Addr.add_lit, Addr.add_lit] at g2
      rw [← e, ← Nat.add_assoc]
      exact g2
def Sp.I64 (s : Sp) : Prop := (-9223372036854775808 ≤ s.kind ∧ s.kind ≤ 9223372036854775807) ∧ (-9223372036854775808 ≤ s.start ∧ s.start ≤ 9223372036854775807) ∧ -9223372036854775808 ≤ s.length ∧ s.length ≤ 9223372036854775807
theorem i64_ofS {s : Int} (h : (Lit.int .i64 s).wf = true) : -9223372036854775808 ≤ s ∧ s ≤ 9223372036854775807 := by
  simp [Lit.wf, IntKind.min, IntKind.max, IntKind.signed, IntKind.bits] at h
  omega
/-- A span that came in. -/
structure InSp (w : World) (s : Sp) (A : Option Addr) (n c : Nat) : Prop where
  tags : InT w A n c s.tags
  u64 : s.U64
  service : s.service.size ≤ maxLen
  name : s.name.size ≤ maxLen
  i64 : s.I64
theorem u64_of {s : Int} (h : (Lit.int .u64 s).wf = true) : 0 ≤ s ∧ s < 18446744073709551616 := by
  simp [Lit.wf, IntKind.min, IntKind.max, IntKind.signed, IntKind.bits] at h
  omega
theorem array11 {cs : Array Value} (h : cs.size = 11) : ∃ a b c d e f g i j k l, cs = #[a, b, c, d, e, f, g, i, j, k, l] := by
  obtain ⟨l⟩ := cs
  match l, h with
  | [a, b, c, d, e, f, g, i, j, k, l], _ => exact ⟨a, b, c, d, e, f, g, i, j, k, l, rfl⟩
set_option maxRecDepth 100000 in
theorem open_spCells {H : Type} {enc : TypeId × Value → H} {W : World} {base : Nat} {held : Bool} {c0 c1 c2 c3 c4 c5 c6 c7 c8 c9 c10 : Value} {fuel : Nat} {x : DataW H × List MemPlace}
    (h : DataW.trod enc Try.prog W base (fun _ => true) held fuel 32 [c0, c1, c2, c3, c4, c5, c6, c7, c8, c9, c10] = some x) :
    ∃ (s : Sp) (A : Option Addr) (n c : Nat), [c0, c1, c2, c3, c4, c5, c6, c7, c8, c9, c10] = (spC s A n c).toList ∧ InSp W s A n c := by
  obtain ⟨xs, n, _, _, hlen, hyl, hf⟩ := DataW.trod_struct Try.underlying32 h
  match xs, hyl with
  | [y0, y1, y2, y3, y4, y5, y6, y7, y8, y9], _ =>
    have cT : Try.prog.cellsOf 29 = 2 := by kernel_rfl
    have cU : Try.prog.cellsOf 27 = 1 := by kernel_rfl
    have cS : Try.prog.cellsOf 9 = 1 := by kernel_rfl
    have cI : Try.prog.cellsOf 3 = 1 := by kernel_rfl
    have cJ : Try.prog.cellsOf 2 = 1 := by kernel_rfl
    have cB : Try.prog.cellsOf 4 = 1 := by kernel_rfl
    have cL : Try.prog.cellsOf 30 = 1 := by kernel_rfl
    obtain ⟨cs, hcs⟩ : ∃ cs, [c0, c1, c2, c3, c4, c5, c6, c7, c8, c9, c10] = cs := ⟨_, rfl⟩
    rw [hcs] at hf
    have h0 : DataW.trod enc Try.prog W base (fun _ => true) held n 29 ((cs.drop 0).take (Try.prog.cellsOf 29)) = some y0 := hf 0 _ rfl
    have h1 : DataW.trod enc Try.prog W base (fun _ => true) held n 27 ((cs.drop 2).take (Try.prog.cellsOf 27)) = some y1 := hf 1 _ rfl
    have h2 : DataW.trod enc Try.prog W base (fun _ => true) held n 27 ((cs.drop 3).take (Try.prog.cellsOf 27)) = some y2 := hf 2 _ rfl
    have h3 : DataW.trod enc Try.prog W base (fun _ => true) held n 9 ((cs.drop 4).take (Try.prog.cellsOf 9)) = some y3 := hf 3 _ rfl
    have h4 : DataW.trod enc Try.prog W base (fun _ => true) held n 9 ((cs.drop 5).take (Try.prog.cellsOf 9)) = some y4 := hf 4 _ rfl
    have h5 : DataW.trod enc Try.prog W base (fun _ => true) held n 3 ((cs.drop 6).take (Try.prog.cellsOf 3)) = some y5 := hf 5 _ rfl
    have h6 : DataW.trod enc Try.prog W base (fun _ => true) held n 2 ((cs.drop 7).take (Try.prog.cellsOf 2)) = some y6 := hf 6 _ rfl
    have h7 : DataW.trod enc Try.prog W base (fun _ => true) held n 2 ((cs.drop 8).take (Try.prog.cellsOf 2)) = some y7 := hf 7 _ rfl
    have h8 : DataW.trod enc Try.prog W base (fun _ => true) held n 4 ((cs.drop 9).take (Try.prog.cellsOf 4)) = some y8 := hf 8 _ rfl
    have h9 : DataW.trod enc Try.prog W base (fun _ => true) held n 30 ((cs.drop 10).take (Try.prog.cellsOf 30)) = some y9 := hf 9 _ rfl
    subst hcs
    rw [cT] at h0
    rw [cU] at h1 h2
    rw [cS] at h3 h4
    rw [cI] at h5
    rw [cJ] at h6 h7
    rw [cB] at h8
    rw [cL] at h9
    simp only [List.drop_zero, List.drop_succ_cons, List.take_succ_cons, List.take_zero] at h0 h1 h2 h3 h4 h5 h6 h7 h8 h9
    obtain ⟨zs, m, _, _, _, hzl, hg⟩ := DataW.trod_struct Try.underlying29 h0
    match zs, hzl with
    | [z0, z1], _ =>
      have g0 : DataW.trod enc Try.prog W base (fun _ => true) held m 27 (([c0, c1].drop 0).take (Try.prog.cellsOf 27)) = some z0 := hg 0 _ rfl
      have g1 : DataW.trod enc Try.prog W base (fun _ => true) held m 27 (([c0, c1].drop 1).take (Try.prog.cellsOf 27)) = some z1 := hg 1 _ rfl
      rw [cU] at g0 g1
      simp only [List.drop_zero, List.drop_succ_cons, List.take_succ_cons, List.take_zero] at g0 g1
      obtain ⟨q0, e0, -, w0⟩ := DataW.trod_int Try.underlying27 g0
      obtain ⟨q1, e1, -, w1⟩ := DataW.trod_int Try.underlying27 g1
      obtain ⟨q2, e2, -, w2⟩ := DataW.trod_int Try.underlying27 h1
      obtain ⟨q3, e3, -, w3⟩ := DataW.trod_int Try.underlying27 h2
      obtain ⟨q4, e4, -, w4⟩ := DataW.trod_string Try.underlying9 h3
      obtain ⟨q5, e5, -, w5⟩ := DataW.trod_string Try.underlying9 h4
      obtain ⟨q6, e6, -, w6⟩ := DataW.trod_int (k := .i64) (by kernel_rfl) h5
      obtain ⟨q7, e7, -, w7⟩ := DataW.trod_int Try.underlying2 h6
      obtain ⟨q8, e8, -, w8⟩ := DataW.trod_int Try.underlying2 h7
      obtain ⟨q9, e9, -⟩ := DataW.trod_bool Try.underlying4 h8
      obtain ⟨A, nt, ct, l, e10, hT⟩ := open_fT h9
      simp at e0 e1 e2 e3 e4 e5 e6 e7 e8 e9
      subst e0 e1 e2 e3 e4 e5 e6 e7 e8 e9 e10
      have r0 := u64_of w0
      have r1 := u64_of w1
      have r2 := u64_of w2
      have r3 := u64_of w3
      have u0 : q0.toNat < 18446744073709551616 := by omega
      have u1 : q1.toNat < 18446744073709551616 := by omega
      have u2 : q2.toNat < 18446744073709551616 := by omega
      have u3 : q3.toNat < 18446744073709551616 := by omega
      refine ⟨⟨q0.toNat, q1.toNat, q2.toNat, q3.toNat, q4, q5, q6, q7, q8, q9, l⟩, A, nt, ct, ?_, hT, ⟨u0, u1, u2, u3⟩, w4, w5, i64_ofS w6, i64_ofS w7, i64_ofS w8⟩
      simp only [spC, Int.toNat_of_nonneg r0.1, Int.toNat_of_nonneg r1.1, Int.toNat_of_nonneg r2.1, Int.toNat_of_nonneg r3.1]
set_option maxRecDepth 100000 in
theorem open_inSp {H : Type} {enc : TypeId × Value → H} {W : World} {base b0 : Nat} {r : Reach} {held : Bool} {v : Value} {d : DataW H} {p : List MemPlace} (hv : Value.okWide Try.prog W r b0 32 v)
    (h : DataW.Trod enc Try.prog W base (fun _ => true) held 32 v d p) : ∃ (s : Sp) (A : Option Addr) (n c : Nat), v = spV s A n c ∧ InSp W s A n c := by
  obtain ⟨cs, rfl, hsz⟩ := okWide_struct Try.underlying32 hv
  have hC : Try.prog.cellsOf 32 = 11 := by kernel_rfl
  obtain ⟨c0, c1, c2, c3, c4, c5, c6, c7, c8, c9, c10, rfl⟩ := array11 (hsz.trans hC)
  obtain ⟨fuel, hf⟩ := h
  obtain ⟨s, A, n, c, e, hi⟩ := open_spCells hf
  refine ⟨s, A, n, c, ?_, hi⟩
  rw [spV]
  congr 1
  exact Array.toList_inj.1 e
end Go.Proofs.Ytchpekidnbdpdaa


/- What comes in: a list of spans. -/
namespace Go.Proofs.Ytchpekidnbdpdaa
open Go.ChangeShapes Go.WideShapes Go.ChangeAt Go.RowKit

theorem InSp.el {w : World} {s : Sp} {A : Option Addr} {n c : Nat} (h : InSp w s A n c) : ElOk w w.heap.size ⟨s, A, n, c⟩ :=
  ⟨h.tags.rd, h.tags.len, by have h1 := h.tags.cap; have h2 := h.tags.max; simp only [maxLen] at h2; show n ≤ _; omega⟩
/-- Spans that came in. -/
structure InSs (w : World) (A : Option Addr) (n c : Nat) (l : List El) : Prop where
  rd : RbS w w.heap.size A l
  len : l.length = n
  cap : n ≤ c
  max : c ≤ maxLen
  u64 : ∀ e ∈ l, e.s.U64
  i64 : ∀ e ∈ l, e.s.I64
set_option maxRecDepth 100000 in
theorem open_inSs {H : Type} {enc : TypeId × Value → H} {W : World} {base b0 : Nat} {r : Reach} {held : Bool} {v : Value} {d : DataW H} {p : List MemPlace} (_hv : Value.okWide Try.prog W r b0 34 v)
    (h : DataW.Trod enc Try.prog W base (fun _ => true) held 34 v d p) : ∃ (A : Option Addr) (n c : Nat) (l : List El), v = .slice A n c ∧ InSs W A n c l := by
  obtain ⟨aa, len, cap, rfl⟩ := okWide_slice Try.underlying34 _hv
  obtain ⟨fuel, hf⟩ := h
  rcases Deep.open_slice Try.underlying34 hf with ⟨hcs, _⟩ | ⟨a, len, cap, m, n, D, Pl, hcs, hb, hl, hm, hmm, hx, hi⟩
  · simp [Value.cells] at hcs
    obtain ⟨rfl, rfl, rfl⟩ := hcs
    exact ⟨none, 0, 0, [], rfl, ⟨RbS.nil, rfl, Nat.le_refl _, by simp [maxLen], (fun e he => by cases he), fun e he => by cases he⟩⟩
  · simp [Value.cells] at hcs
    obtain ⟨rfl, rfl, rfl⟩ := hcs
    rw [if_pos rfl] at hmm
    subst hmm
    have hC : Try.prog.cellsOf 32 = 11 := by kernel_rfl
    rw [hC] at hi
    obtain ⟨l, hll, hw⟩ := list_of (fun i (e : El) => (∀ j, j < 11 → W.cell? ((a.add (i * 11)).add j) = (elC e)[j]?) ∧ ElOk W W.heap.size e ∧ e.s.U64 ∧ e.s.I64) len fun i hil => by
      obtain ⟨cs', hc, ht⟩ := hi i (by omega)
      obtain ⟨_, hcl, hat⟩ := World.cells?_some hc
      match cs', hcl with
      | [c0, c1, c2, c3, c4, c5, c6, c7, c8, c9, c10], _ =>
        obtain ⟨s, A, n, c, he, hin⟩ := open_spCells ht
        refine ⟨⟨s, A, n, c⟩, fun j hj => ?_, hin.el, hin.u64, hin.i64⟩
        have h1 := hat j hj
        rw [he] at h1
        exact h1
    refine ⟨some a, _, _, l, rfl, ⟨⟨?_, ?_⟩, hll, hl, hm, ?_, ?_⟩⟩
    · intro hne
      have hpos : 0 < l.length := by
        rcases Nat.eq_zero_or_pos l.length with h0 | h0
        · rw [List.eq_nil_of_length_eq_zero h0] at hne
          exact absurd rfl hne
        · exact h0
      obtain ⟨x0, hx0⟩ : ∃ x0, l[0]? = some x0 := ⟨_, List.getElem?_eq_getElem hpos⟩
      obtain ⟨b, off, spot⟩ := a
      have h0 := (hw 0 x0 hx0).1 0 (by omega)
      simp only [Nat.zero_mul, Addr.add] at h0
      have h1 : (elC x0)[0]? = some (.int .u64 x0.s.hi) := rfl
      rw [h1] at h0
      have hspot : spot = none := by simpa using World.cell?_spot h0
      subst hspot
      refine ⟨b, off, rfl, World.block_lt_of_cell? W ⟨b, off, none⟩ (by simpa using h0), fun j u hu => ?_⟩
      have hj : j < l.length * 11 := by
        have := (List.getElem?_eq_some_iff.1 hu).1
        rwa [els_length] at this
      obtain ⟨x1, hx1⟩ : ∃ x1, l[j / 11]? = some x1 := ⟨_, List.getElem?_eq_getElem (by omega)⟩
      have h2 := (hw (j / 11) x1 hx1).1 (j % 11) (Nat.mod_lt _ (by omega))
      have h3 := els_get hx1 (j % 11) (Nat.mod_lt _ (by omega))
      rw [Addr.add_lit, Addr.add_lit, Nat.add_assoc, show j / 11 * 11 + j % 11 = j from by omega] at h2
      rw [show j / 11 * 11 + j % 11 = j from by omega] at h3
      rw [h2, ← h3, hu]
    · intro e he
      obtain ⟨i, hi, hxi⟩ := List.getElem_of_mem he
      exact (hw i e (by rw [List.getElem?_eq_getElem hi, hxi])).2.1
    · intro e he
      obtain ⟨i, hi, hxi⟩ := List.getElem_of_mem he
      exact (hw i e (by rw [List.getElem?_eq_getElem hi, hxi])).2.2.1
    · intro e he
      obtain ⟨i, hi, hxi⟩ := List.getElem_of_mem he
      exact (hw i e (by rw [List.getElem?_eq_getElem hi, hxi])).2.2.2
end Go.Proofs.Ytchpekidnbdpdaa


/- A region that draws its order, whose callees make memory, walked once. -/
namespace Go.Proofs.Ytchpekidnbdpdaa
open Go.RowKit

/-- A world behind W, what lay there as it was. -/
structure BelowBy (W : World) where
  w : World
  h : Below W.heap.size W w
instance (W : World) : Inhabited (BelowBy W) := ⟨⟨W, Below.refl _ _⟩⟩
theorem wp_region_quiet_below {P : Program} {id : Nat} {Q : Exit → Act → World → Prop} {a : Act} {w : World} {l : List Oper} (hm : P.follows .mixedOrders = true) (hB : Region.lexB .any l.toArray = true)
    (h : wpQuiet P l.toArray (fun w' => ∃ p : BelowBy w, w' = p.w) (fun a' => ∀ w', (∃ p : BelowBy w, w' = p.w) → Q .normal a' w') l a) : (Code.region id l.toArray true).wp P Q a w :=
  wp_region_quiet (C := fun w' => ∃ p : BelowBy w, w' = p.w) hm hB ⟨⟨w.drew, below_drewN (Below.refl _ w) 1⟩, rfl⟩ (by simpa using h)
theorem calls_belowBy {P : Program} {f : FuncId} {args : Array Value} {W : World} {v : Value} (p : BelowBy W) (h : Calls P f args p.w fun e w' => e = .returned v ∧ Below p.w.heap.size p.w w') :
    Calls P f args p.w fun e w'' => e = .returned v ∧ ∃ p' : BelowBy W, w'' = p'.w := h.mono fun _ w' ⟨he, hb⟩ => ⟨he, ⟨w', p.h.trans (hb.mono p.h.size)⟩, rfl⟩
end Go.Proofs.Ytchpekidnbdpdaa
