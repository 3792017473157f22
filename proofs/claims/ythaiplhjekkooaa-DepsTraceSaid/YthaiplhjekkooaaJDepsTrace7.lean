/- Texts of the proof of DepsTraceSaid, joined: RaR Pk RaX RaP RaC RTr SrC SrD. -/
import Derived.Test.YthaiplhjekkooaaJDepsTrace3
import Derived.Test.YthaiplhjekkooaaJDepsTrace2
import Derived.Test.YthaiplhjekkooaaJDepsTrace1
import Derived.Deep.Cut
import Derived.Deep.RegionHeld3
import Derived.Deep.RegionWith
import Derived.Deep.QuietTactic
import Derived.BigQuiet
import Derived.Test.YthaiplhjekkooaaJDepsTrace4
import Derived.Laws.ResultCell
/- Rows of adjusted spans of the call's own. (Turned out of SoR.) -/
namespace Go.Proofs.Ythaiplhjekkooaa
open Go.RowKit

/-- A row of adjusted spans that is the walk's own; their tags lie elsewhere. -/
structure RowA (w : World) (base : Nat) (v : Value) (n : Nat) (l : List AE) : Prop where
  own : w.ownsRow base 45 14 v n (aes l)
  len : l.length = n
  ok : ∀ e ∈ l, AeOk w w.heap.size e
  far : ∀ e ∈ l, e.a.s.tags ≠ [] → ∀ a, e.A = some a → v.ownBlock ≠ some a.block
theorem adinfo : (Try.prog.info? 45).map (fun i => (i.zero, i.size, i.bytes)) = some (some (.agg zadC), 14, 144) := by kernel_rfl
theorem aes_append (a b : List AE) : aes (a ++ b) = aes a ++ aes b := by simp [flatR]
theorem aes_length (l : List AE) : (aes l).length = l.length * 14 := flatR_length aeC_length l
theorem aes_one (l : List AE) : ∀ u ∈ aes l, u.oneCell' = true := by
  intro u hu
  obtain ⟨e, _, he⟩ := List.mem_flatMap.1 hu
  exact aeC_one e u he
/-- append of adjusted spans. -/
theorem wpList_appAd (w : World) {ops : Array Oper} {rest : List Oper} {o : Oper} {a : Act} {Q : Exit → Act → World → Prop} (hgd : o.guard = none) (s x : Operand)
    (ho : o.op = .call { callee := .builtin .append, args := #[s, x], argTypes := #[22, 22] })
    (base : Nat) (v : Value) (n : Nat) (l : List AE) (hs : a.eval s = v) (hown : w.ownsRow base 45 14 v n (aes l))
    (B : Nat) (A : Option Addr) (m c : Nat) (news : List AE) (hx : a.eval x = .slice A m c) (hl : news.length = m) (hr : Rd w B A (aes news))
    (hbytes : n + m ≤ 1048576) (hbase : base ≤ w.heap.size)
    (h : ∀ A' c' w', App base 45 14 w v w' (.slice A' (n + m) c') (n + m) (aes (l ++ news)) → (A' = none → v = .slice none 0 0 ∧ m = 0) → wpList Try.prog ops Q rest (a.put o.dst (.slice A' (n + m) c')) w') :
    wpList Try.prog ops Q (o :: rest) a w := by
  obtain ⟨i0, hi0, hz0, hz1, hz2⟩ := info_parts adinfo
  refine wpList_app w hgd s x _ ho base 45 i0 _ 14 144 Try.underlying22 hi0 hz0 hz1 hz2 rfl (by omega) v n (aes l) hs hown B A m c (aes news) hx (by rw [aes_length]; omega) hr (aes_one news) (by simp only [maxLen]; omega) (by omega) hbase ?_
  intro A' c' w' h1 h2 h3 h4
  rw [← aes_append] at h1
  exact h A' c' w' ((App.refl hown).step h1 h2 h3) h4
theorem RowA.app {w w' : World} {base j : Nat} {v v' : Value} {l es : List AE} (h : RowA w base v j l) (hap : App base 45 14 w v w' v' (j + es.length) (aes (l ++ es)))
    (hes : ∀ e ∈ es, AeOk w w.heap.size e) (hfe : ∀ e ∈ es, e.a.s.tags ≠ [] → ∀ a, e.A = some a → v.ownBlock ≠ some a.block) : RowA w' base v' (j + es.length) (l ++ es) := by
  have hall : ∀ e ∈ l ++ es, AeOk w w.heap.size e ∧ (e.a.s.tags ≠ [] → ∀ a, e.A = some a → v.ownBlock ≠ some a.block) := fun e he => by
    rcases List.mem_append.1 he with he | he
    · exact ⟨h.ok e he, h.far e he⟩
    · exact ⟨hes e he, hfe e he⟩
  refine ⟨hap.own, by simp [h.len], fun e he => ?_, fun e he ht a ha => ?_⟩
  · obtain ⟨h1, h2⟩ := hall e he
    refine ⟨?_, h1.len, h1.max, h1.ok⟩
    by_cases ht : e.a.s.tags = []
    · rw [ht]
      exact Rd.nil
    · exact h1.rd.grownS hap.grown fun a ha => h2 ht a ha
  · obtain ⟨h1, h2⟩ := hall e he
    rcases hap.block with hb | ⟨k, hb, hk⟩
    · rw [hb]
      exact h2 ht a ha
    · rw [hb]
      intro e1
      have e2 := Option.some.inj e1
      obtain ⟨b, o, hA, hlt, _⟩ := h1.rd (by intro e0; have := tgs_length e.a.s.tags; rw [e0] at this; exact ht (List.eq_nil_of_length_eq_zero (by simp at this; omega)))
      rw [ha] at hA
      have e3 := Option.some.inj hA
      subst e3
      simp only at e2
      omega
theorem RowA.bS {w w' : World} {base n : Nat} {v : Value} {l : List AE} (h : RowA w base v n l) (hb : Below w.heap.size w w') : RowA w' base v n l :=
  ⟨((App.refl h.own).later hb).own, h.len, fun e he => ((h.ok e he).below hb).more hb.size, h.far⟩
theorem RowA.own_lt {w : World} {base n : Nat} {v : Value} {l : List AE} (h : RowA w base v n l) : ∀ k, v.ownBlock = some k → k < w.heap.size ∧ base ≤ k := fun k hk => by
  rcases h.own.2 with ⟨h1, _⟩ | ⟨g, cap, cur, h1, hbase, hb, _⟩
  · rw [h1] at hk
    cases hk
  · rw [h1] at hk
    have e := Option.some.inj hk
    simp only at e
    subst e
    exact ⟨(Array.getElem?_eq_some_iff.1 hb).1, hbase⟩
theorem RowA.nil (w : World) (base : Nat) : RowA w base (.slice none 0 0) 0 [] := ⟨World.ownsRow_nil _ _ _ _, rfl, fun _ h => absurd h (by simp), fun _ h => absurd h (by simp)⟩
theorem RowA.rba {w : World} {base n c : Nat} {A : Option Addr} {l : List AE} (h : RowA w base (.slice A n c) n l) : RbA w w.heap.size A l := ⟨Rd.of_own h.own, h.ok⟩
theorem aes_single (e : AE) : aes [e] = aeC e := by simp [flatR]
theorem rd_adj {w : World} {g : Nat} (hg : w.heap.size = g) (e : AE) : Rd (w.alloc (.cells (adC e.a e.A e.n e.c) 45)) (g + 1) (some ⟨g, 0, none⟩) (aes [e]) := by
  rw [aes_single]
  exact Rd.lit' hg
theorem RowA.cap {w : World} {base n c : Nat} {A : Option Addr} {l : List AE} (h : RowA w base (.slice A n c) n l) : n ≤ c := by
  rcases h.own.2 with ⟨h1, h2⟩ | ⟨g, cap, cur, h1, _, _, hn, _⟩
  · omega
  · injection h1 with _ _ e3
    omega
end Go.Proofs.Ythaiplhjekkooaa

/- Lists of ints; Pick. -/
namespace Go.Proofs.Ythaiplhjekkooaa
open Go.RowKit

def iv (zs : List Int) : List Value := zs.map (Value.int .i64)
theorem iv_length (zs : List Int) : (iv zs).length = zs.length := by simp [iv]
theorem iv_append (a b : List Int) : iv (a ++ b) = iv a ++ iv b := by simp [iv]
theorem iv_get {zs : List Int} {k : Nat} {x : Int} (hk : zs[k]? = some x) : (iv zs)[k]? = some (.int .i64 x) := by simp [iv, hk]
theorem iv_one (zs : List Int) : ∀ u ∈ iv zs, u.oneCell' = true := by
  intro u hu
  obtain ⟨x, _, rfl⟩ := List.mem_map.1 hu
  rfl
abbrev Ri (w : World) (B : Nat) (A : Option Addr) (zs : List Int) : Prop := Rd w B A (iv zs)
theorem Ri.get {w : World} {B : Nat} {A : Option Addr} {zs : List Int} (h : Ri w B A zs) {k : Nat} (hk : k < zs.length) :
    ∃ b o x, zs[k]? = some x ∧ A = some ⟨b, o, none⟩ ∧ b < B ∧ w.cell? ⟨b, o + k, none⟩ = some (.int .i64 x) := by
  have e := List.getElem?_eq_getElem hk
  obtain ⟨b, o, h1, h2, h3⟩ := Rd.get h (iv_get e)
  exact ⟨b, o, zs[k], e, h1, h2, h3⟩
theorem tmod_pick (n m : Int) (hm : 0 < m) : -m < n.tmod m ∧ n.tmod m < m ∧ (n.tmod m < 0 → n.tmod m + m = n % m) ∧ (0 ≤ n.tmod m → n.tmod m = n % m) := by
  have hz : m ≠ 0 := by omega
  have hq0 := Int.emod_nonneg n hz
  have hq1 := Int.emod_lt_of_pos n hm
  have hp0 := Int.emod_nonneg (-n) hz
  have hp1 := Int.emod_lt_of_pos (-n) hm
  have he := Int.mul_ediv_add_emod (-n) m
  rw [tmod_eq_if]
  generalize (-n) / m = q at *
  generalize (-n) % m = s at *
  split
  · exact ⟨by omega, by omega, fun h => by omega, fun _ => rfl⟩
  · refine ⟨by omega, by omega, fun h => ?_, fun h => ?_⟩
    · have e : (m - s) + m * (-q - 1) = n := by
        rw [Int.mul_sub, Int.mul_neg]
        omega
      rw [← e, Int.add_mul_emod_self_left, Int.emod_eq_of_lt (by omega) (by omega)]
      omega
    · have hs : s = 0 := by omega
      have e : 0 + m * (-q) = n := by rw [Int.mul_neg]; omega
      rw [← e, Int.add_mul_emod_self_left, hs]
      simp

/-- Pick: a number from 0 to below m. -/
theorem kitPick (n : Int) (m : Nat) (w : World) (hm0 : 1 ≤ m) (hm : m ≤ 1099511627776) :
    Calls Try.prog 17 #[.int .i64 n, .int .i64 m] w fun e w' => e = .returned (.int .i64 (n % (m : Int))) ∧ w' = w := by
  have hz : ¬ (m : Int) = 0 := by omega
  have hzb : ((m : Int) == 0) = false := by rw [beq_eq_false_iff_ne]; omega
  obtain ⟨h1, h2, h3, h4⟩ := tmod_pick n m (by omega)
  obtain ⟨r, hr⟩ : ∃ r, n.tmod m = r := ⟨_, rfl⟩
  rw [hr] at h1 h2 h3 h4
  have H3 := Lib.hid h3
  have H4 := Lib.hid h4
  clear h3 h4
  go_enter Try.func17, Try.ntmps17
  go_wp2
  · go_ret
    refine ⟨?_, rfl⟩
    rw [← H3.out (by omega)]
    rfl
  · go_ret
    refine ⟨?_, rfl⟩
    rw [← H4.out (by omega)]
    rfl
end Go.Proofs.Ythaiplhjekkooaa

/- Rows of adjusted spans: a store of one. (Turned out of SoI.) -/
namespace Go.Proofs.Ythaiplhjekkooaa
open Go.RowKit
def storeKA (t : TypeId) (a : Addr) (v : Value) : Sem Unit := storeVar t a v
theorem storeKA_shut (t : TypeId) (a : Addr) (v : Value) : storeVar t a v = storeKA t a v := rfl
attribute [local go_sem ↓] storeKA_shut
theorem aes_take (l : List AE) (k : Nat) : (aes l).take (k * 14) = aes (l.take k) := flatR_take aeC_length l k
theorem aes_drop (l : List AE) (k : Nat) : (aes l).drop (k * 14) = aes (l.drop k) := flatR_drop aeC_length l k
/-- A span that may stand in a row: its tags lie elsewhere. -/
def OkG (w : World) (v : Value) (e : AE) : Prop := AeOk w w.heap.size e ∧ (e.a.s.tags ≠ [] → ∀ a, e.A = some a → v.ownBlock ≠ some a.block)
theorem aes_set {l : List AE} {i : Nat} (hi : i < l.length) (e : AE) : aes (l.set i e) = aes (l.take i) ++ aeC e ++ aes (l.drop (i + 1)) := by
  rw [List.set_eq_take_append_cons_drop, if_pos hi, aes_append]
  simp [flatR]
theorem run_storeVar_atA {P : Program} (w : World) (g o : Nat) (t ty : TypeId) (cells cur : Array Value) (hg : w.heap[g]? = some (.cells cur t (0, 0))) (hl : o + cells.size ≤ cur.size) (h1 : ∀ v ∈ cells.toList, v.oneCell' = true) (hi : (P.info? ty).map (·.size) = some cells.size) :
    (storeVar ty ⟨g, o, none⟩ (.agg cells)).run P w = .ok () (w.setRow g (cur.toList.take o ++ cells.toList ++ cur.toList.drop (o + cells.size)).toArray) := by
  have := run_storeCells_at (P := P) g o t cells.toList 0 cur w hg (by simpa using hl) h1
  cases hq : P.info? ty with
  | none => simp [hq] at hi
  | some i =>
    have hs : cells.size = i.size := by simp [hq] at hi; omega
    rw [Array.length_toList, Nat.add_zero] at this
    simp [storeVar, sizeOf, typeInfo, hq, Value.cells, hs]
    simpa [hs] using this
set_option maxRecDepth 100000 in
/-- A span stored into a row. -/
theorem RowA.store {W : World} {base g n c i : Nat} {l : List AE} (h : RowA W base (.slice (some ⟨g, 0, none⟩) n c) n l) (hi : i < n) (e : AE) (he : OkG W (.slice (some ⟨g, 0, none⟩) n c) e) :
    ∃ W', (storeKA 45 ⟨g, i * 14, none⟩ (adV e.a e.A e.n e.c)).run Try.prog W = .ok () W' ∧ RowA W' base (.slice (some ⟨g, 0, none⟩) n c) n (l.set i e) ∧ W.grownBy W' (some g) := by
  rcases h.own.2 with ⟨h1, _⟩ | ⟨g', cap', cur, hv, hbase, hb, hnc, hcm, hcs, htk⟩
  · cases h1
  · injection hv with e1 _ e3
    injection e1 with e1
    injection e1 with e1
    subst e1 e3
    have hi14 : i * 14 + 14 ≤ n * 14 := by omega
    have hn14 : n * 14 ≤ cur.size := by rw [hcs]; exact Nat.mul_le_mul_right 14 hnc
    have hst : (storeKA 45 ⟨g, i * 14, none⟩ (adV e.a e.A e.n e.c)).run Try.prog W = .ok () (W.setRow g (cur.toList.take (i * 14) ++ aeC e ++ cur.toList.drop (i * 14 + 14)).toArray) :=
      run_storeVar_atA W g (i * 14) 45 45 (adC e.a e.A e.n e.c) cur hb (by show i * 14 + 14 ≤ _; omega) (fun v hv => by
        have := adC_one e.a e.A e.n e.c
        rw [Array.all_eq_true'] at this
        exact this v (by simpa using hv)) (by rfl)
    refine ⟨_, hst, ?_, only_row g _⟩
    have hgr : W.grownBy (W.setRow g (cur.toList.take (i * 14) ++ aeC e ++ cur.toList.drop (i * 14 + 14)).toArray) (some g) := only_row g _
    have hF : ∀ x ∈ l.set i e, OkG W (.slice (some ⟨g, 0, none⟩) n c) x := fun x hx => by
      rcases List.mem_or_eq_of_mem_set hx with hx | rfl
      · exact ⟨h.ok x hx, h.far x hx⟩
      · exact he
    refine ⟨⟨by rw [aes_length, List.length_set, h.len], .inr ⟨g, c, _, rfl, hbase, setRow_heap W g cur _ _ _ hb, hnc, hcm, ?_, ?_⟩⟩, by rw [List.length_set, h.len], fun x hx => ?_, fun x hx => (hF x hx).2⟩
    · simp only [List.size_toArray, List.length_append, List.length_take, List.length_drop, Array.length_toList, aeC_length]
      omega
    · have e1 : aes (l.take i) = cur.toList.take (i * 14) := by
        rw [← aes_take, ← htk, List.take_take, Nat.min_eq_left (by omega)]
      have e2 : aes (l.drop (i + 1)) = (cur.toList.drop (i * 14 + 14)).take (n * 14 - (i * 14 + 14)) := by
        rw [← aes_drop, ← htk, List.drop_take, show (i + 1) * 14 = i * 14 + 14 from by omega]
      have hl1 : (cur.toList.take (i * 14) ++ aeC e).length = i * 14 + 14 := by
        rw [List.length_append, List.length_take, Array.length_toList, aeC_length, Nat.min_eq_left (by omega)]
      rw [aes_set (by rw [h.len]; exact hi), e1, e2, List.take_append, hl1, List.take_of_length_le (by omega)]
    · obtain ⟨h1, h2⟩ := hF x hx
      refine ⟨?_, h1.len, h1.max, h1.ok⟩
      by_cases ht : x.a.s.tags = []
      · rw [ht]
        exact Rd.nil
      · exact h1.rd.grownS hgr fun a ha => h2 ht a ha
theorem OkG.grown {w w' : World} {v : Value} {e : AE} (h : OkG w v e) (hg : w.grownBy w' v.ownBlock) : OkG w' v e := by
  obtain ⟨h1, h2⟩ := h
  refine ⟨⟨?_, h1.len, h1.max, h1.ok⟩, h2⟩
  by_cases ht : e.a.s.tags = []
  · rw [ht]
    exact Rd.nil
  · exact h1.rd.grownS hg fun a ha => h2 ht a ha
theorem RowA.okf {w : World} {base n : Nat} {v : Value} {l : List AE} (h : RowA w base v n l) {e : AE} (he : e ∈ l) : OkG w v e := ⟨h.ok e he, h.far e he⟩
end Go.Proofs.Ythaiplhjekkooaa

/- The document's layer 21: place, cycle, shift. -/
namespace Go.Proofs.Ythaiplhjekkooaa
open Go.RowKit
theorem loadSp_shutP (a : Addr) : loadVar 43 a = loadK 43 a := rfl
attribute [local go_sem ↓] loadSp_shutP

theorem plcG_rng (id : Nat) : ∀ (l : List Sp) (i : Nat), -1 ≤ plcG id l i ∧ plcG id l i < ((i + l.length : Nat) : Int) ∧ (0 ≤ plcG id l i → (i : Int) ≤ plcG id l i)
  | [], i => by rw [plcG]; exact ⟨by omega, by simp only [List.length_nil]; omega, by omega⟩
  | x :: l, i => by
    rw [plcG]
    split
    · exact ⟨by omega, by simp only [List.length_cons]; omega, by omega⟩
    · have h := plcG_rng id l (i + 1)
      refine ⟨h.1, by have := h.2.1; simp only [List.length_cons]; omega, fun h0 => by have := h.2.2 h0; omega⟩
theorem plc_rng (l : List Sp) (id : Nat) : -1 ≤ plc l id ∧ plc l id < (l.length : Int) := by
  have h := plcG_rng id l 0
  exact ⟨h.1, by have := h.2.1; simp only [Nat.zero_add] at this; exact this⟩
theorem plcG_step {l : List Sp} {k id : Nat} {x : Sp} (h : l[k]? = some x) : plcG id (l.drop k) k = if x.id = id then (k : Int) else plcG id (l.drop (k + 1)) (k + 1) := by
  obtain ⟨hk, rfl⟩ := List.getElem?_eq_some_iff.1 h
  rw [List.drop_eq_getElem_cons hk, plcG]
set_option maxRecDepth 100000 in
set_option maxHeartbeats 2000000 in
theorem raPlace {A : Option Addr} {n c B : Nat} (l : List El) (id : Nat) (w : World) (h : RbS w B A l) (hn : l.length = n) (hnl : n ≤ 9223372036854775807) :
    Calls Try.prog 55 #[.slice A n c, .int .u64 id] w fun e w' => e = .returned (.int .i64 (plc (sps l) id)) ∧ w' = w := by
  obtain ⟨q, hq⟩ : ∃ q, plc (sps l) id = q := ⟨_, rfl⟩
  rw [hq]
  have HQ := Lib.hid hq
  have HN := Lib.hid hn
  clear hq hn
  go_enter Try.func55, Try.ntmps55
  go_wp2_with fail
  go_loop [5] (fun i_ => ∃ k : Nat, k ≤ n ∧ i_ = .int .i64 k ∧ plcG id ((sps l).drop k) k = q) (fun i_ => n - (intOf i_).toNat)
  case atStart => exact ⟨0, by omega, rfl, HQ.out⟩
  case round =>
    obtain ⟨k, hk, rfl, hr⟩ := hrel
    by_cases hlt : k < n
    · have hlt' : (k : Int) < (n : Int) := by omega
      obtain ⟨e, he⟩ : ∃ e, l[k]? = some e := ⟨_, List.getElem?_eq_getElem (by rw [HN.out]; exact hlt)⟩
      obtain ⟨b, o, e1, hb, hc, -⟩ := h.get he
      subst e1
      have c2 : w.cell? ⟨b, o + k * 11 + 2, none⟩ = some (.int .u64 e.s.id) := hc 2 (by omega)
      have hst := plcG_step (id := id) (sps_get he)
      rw [hr] at hst
      have HST := Lib.hid hst
      obtain ⟨y, hy⟩ : ∃ y, e.s.id = y := ⟨_, rfl⟩
      rw [hy] at c2 HST
      clear hst hr hc he hy
      by_cases hid : y = id
      · subst hid
        have hst := HST.out
        rw [if_pos rfl] at hst
        subst hst
        go_wp2_with fail
        go_ret
        exact ⟨rfl, rfl⟩
      · have hst := HST.out
        rw [if_neg hid] at hst
        have hne : ((y : Int) == (id : Int)) = false := by simp; omega
        have HS := Lib.hid hst
        clear hst HST
        go_wp2_with fail
        exact ⟨⟨k + 1, by omega, by go_num, HS.out.symm⟩, by simp only [intOf]; omega⟩
    · have hlt' : decide ((k : Int) < (n : Int)) = false := by simp; omega
      rw [List.drop_eq_nil_of_le (by rw [sps_length, HN.out]; omega), plcG] at hr
      subst hr
      go_wp2_with fail
      go_ret
      exact ⟨rfl, rfl⟩
end Go.Proofs.Ythaiplhjekkooaa

/- The document's layer 21: cycle. -/
namespace Go.Proofs.Ythaiplhjekkooaa
open Go.RowKit
theorem loadSp_shutC (a : Addr) : loadVar 43 a = loadK 43 a := rfl
attribute [local go_sem ↓] loadSp_shutC

theorem RbS.at {w : World} {B : Nat} {b o : Nat} {l : List El} (h : RbS w B (some ⟨b, o, none⟩) l) {k : Nat} {e : El} (hk : l[k]? = some e) : w.cell? ⟨b, o + k * 11 + 2, none⟩ = some (.int .u64 e.s.id) ∧ w.cell? ⟨b, o + k * 11 + 3, none⟩ = some (.int .u64 e.s.parent) := by
  obtain ⟨b', o', e1, -, hc, -⟩ := h.get hk
  cases e1
  exact ⟨hc 2 (by omega), hc 3 (by omega)⟩
set_option maxRecDepth 100000 in
set_option maxHeartbeats 4000000 in
theorem raCycle {A : Option Addr} {n c B i : Nat} (l : List El) (x : El) (w : World) (h : RbS w B A l) (hn : l.length = n) (hnl : n ≤ 1000000) (hx : l[i]? = some x) :
    Calls Try.prog 56 #[.slice A n c, .int .i64 i] w fun e w' => e = .returned (.bool (cyc (sps l) i x.s)) ∧ ∃ d, w' = w.drewN d := by
  have hin : i < n := by rw [← hn]; exact (List.getElem?_eq_some_iff.1 hx).1
  have hin' : (i : Int) < (n : Int) := by omega
  obtain ⟨b, o, e1, -, -, -⟩ := h.get hx
  subst e1
  obtain ⟨q, hq⟩ : ∃ q, cyc (sps l) i x.s = q := ⟨_, rfl⟩
  rw [hq]
  unfold cyc at hq
  rw [sps_length, hn] at hq
  have HQ := Lib.hid hq
  have HN := Lib.hid hn
  have HX := Lib.hid hx
  have HR : Hid (∀ (d k : Nat) (e : El), l[k]? = some e → (w.drewN d).cell? ⟨b, o + k * 11 + 2, none⟩ = some (.int .u64 e.s.id) ∧ (w.drewN d).cell? ⟨b, o + k * 11 + 3, none⟩ = some (.int .u64 e.s.parent)) := Lib.hid fun d k e he => (h.drewN d).at he
  have CP : Hid (∀ (d id : Nat), Calls Try.prog 55 #[.slice (some ⟨b, o, none⟩) n c, .int .u64 id] (w.drewN d) fun e w' => e = .returned (.int .i64 (plc (sps l) id)) ∧ w' = w.drewN d) := Lib.hid fun d id => raPlace l id _ (h.drewN d) hn (by omega)
  have hpr : ∀ id, -1 ≤ plc (sps l) id ∧ plc (sps l) id < (n : Int) := fun id => by
    have := plc_rng (sps l) id
    rwa [sps_length, hn] at this
  have HPR := Lib.hid hpr
  have hx0 := HR.out 0 i x hx
  have hx1 : w.cell? ⟨b, o + i * 11 + 3, none⟩ = some (.int .u64 x.s.parent) := hx0.2
  obtain ⟨xp, hxp⟩ : ∃ xp, x.s.parent = xp := ⟨_, rfl⟩
  obtain ⟨xi, hxi⟩ : ∃ xi, x.s.id = xi := ⟨_, rfl⟩
  rw [hxp] at hx1 hq
  have HXP := Lib.hid hxp
  have HXI := Lib.hid hxi
  have cp0 : Calls Try.prog 55 #[.slice (some ⟨b, o, none⟩) n c, .int .u64 xp] w fun e w' => e = .returned (.int .i64 (plc (sps l) xp)) ∧ w' = w := CP.out 0 xp
  clear hpr hn hx hx0 h hxp hxi hq
  go_enter Try.func56, Try.ntmps56
  go_wp2_with fail
  refine cp0.mono ?_
  rintro e w1 ⟨rfl, rfl⟩
  go_wp2_with fail
  go_loopw [5, 6] (fun at_ n_ wr => ∃ (p : Int) (k d : Nat), k ≤ n + 1 ∧ -1 ≤ p ∧ p < n ∧ at_ = .int .i64 p ∧ n_ = .int .i64 k ∧ Hid (cycGo (sps l) i x.s (n + 1 - k) p = q) ∧ wr = w1.drewN d) (fun _ n_ _ => n + 1 - (intOf n_).toNat)
  case atStart => exact ⟨plc (sps l) xp, 0, 0, by omega, (HPR.out xp).1, (HPR.out xp).2, rfl, rfl, Lib.hid (by rw [← HXP.out]; exact HQ.out), rfl⟩
  case round =>
    obtain ⟨p, k, d, hk, hp1, hp2, rfl, rfl, HG, rfl⟩ := hrel
    by_cases hkn : k ≤ n
    · have hkn' : (k : Int) ≤ (n : Int) := by omega
      by_cases hp0 : 0 ≤ p
      · obtain ⟨j, hj⟩ : ∃ j : Nat, p = (j : Int) := ⟨p.toNat, by omega⟩
        subst hj
        have hjn : j < n := by omega
        have hjn' : (j : Int) < (n : Int) := by omega
        obtain ⟨y, hy⟩ : ∃ y, l[j]? = some y := ⟨_, List.getElem?_eq_getElem (by rw [HN.out]; exact hjn)⟩
        have hg := HG.out
        rw [show n + 1 - k = (n - k) + 1 from by omega, cycGo, if_neg (by omega), Int.toNat_natCast, sps_get hy] at hg
        simp only [] at hg
        rw [HXP.out, HXI.out] at hg
        obtain ⟨yp, hyp⟩ : ∃ yp, y.s.parent = yp := ⟨_, rfl⟩
        obtain ⟨yi, hyi⟩ : ∃ yi, y.s.id = yi := ⟨_, rfl⟩
        rw [hyp, hyi] at hg
        have HCX : Hid (∀ d, (w1.drewN d).cell? ⟨b, o + i * 11 + 2, none⟩ = some (.int .u64 xi) ∧ (w1.drewN d).cell? ⟨b, o + i * 11 + 3, none⟩ = some (.int .u64 xp)) := Lib.hid fun d => by
          have := HR.out d i x HX.out
          rwa [HXP.out, HXI.out] at this
        have HCY : Hid (∀ d, (w1.drewN d).cell? ⟨b, o + j * 11 + 2, none⟩ = some (.int .u64 yi) ∧ (w1.drewN d).cell? ⟨b, o + j * 11 + 3, none⟩ = some (.int .u64 yp)) := Lib.hid fun d => by
          have := HR.out d j y hy
          rwa [hyp, hyi] at this
        have HG1 := Lib.hid hg
        clear hg hy hyp hyi HG
        have cx2 : w1.cell? ⟨b, o + i * 11 + 2, none⟩ = some (.int .u64 xi) := (HCX.out 0).1
        have cx3 : w1.cell? ⟨b, o + i * 11 + 3, none⟩ = some (.int .u64 xp) := (HCX.out 0).2
        have cy2 : w1.cell? ⟨b, o + j * 11 + 2, none⟩ = some (.int .u64 yi) := (HCY.out 0).1
        have cy3 : w1.cell? ⟨b, o + j * 11 + 3, none⟩ = some (.int .u64 yp) := (HCY.out 0).2
        by_cases hx0 : xp = 0
        · subst hx0
          have hg := HG1.out
          rw [if_pos (.inl rfl)] at hg
          subst hg
          go_wp2_with fail
          go_quiet (fail)
          go_wp2_with fail
          go_ret
          exact ⟨rfl, _, by first | rfl | exact World.drewN_drewN _ _ _⟩
        have hx0' : ((xp : Int) == 0) = false := by simp; omega
        by_cases hlt : yi < xi
        · have hlt' : decide ((yi : Int) < (xi : Int)) = true := by simp; omega
          have hlt'' : (yi : Int) < (xi : Int) := by omega
          have hg := HG1.out
          rw [if_pos (.inr hlt)] at hg
          subst hg
          go_wp2_with fail
          go_quiet (fail)
          go_wp2_with fail
          go_ret
          exact ⟨rfl, _, by first | rfl | exact World.drewN_drewN _ _ _⟩
        have hlt' : decide ((yi : Int) < (xi : Int)) = false := by simp; omega
        have hlt'' : ¬ (yi : Int) < (xi : Int) := by omega
        have hg := HG1.out
        rw [if_neg (by rw [not_or]; exact ⟨hx0, hlt⟩)] at hg
        have HG2 := Lib.hid hg
        clear hg HG1
        go_wp2_with fail
        go_quiet (fail)
        by_cases hji : j = i
        · subst hji
          have hg := HG2.out
          rw [if_pos rfl] at hg
          subst hg
          go_wp2_with fail
          go_ret
          exact ⟨rfl, _, by first | rfl | exact World.drewN_drewN _ _ _⟩
        have hji' : ((j : Int) == (i : Int)) = false := by simp; omega
        have hg := HG2.out
        rw [if_neg (by omega)] at hg
        have HG3 := Lib.hid hg
        clear hg HG2
        obtain ⟨d2, hd2⟩ : ∃ d2, (w1.drewN d).drewN nq = w1.drewN d2 := ⟨_, World.drewN_drewN _ _ _⟩
        rw [hd2]
        clear hd2
        by_cases hy0 : yp = 0
        · subst hy0
          have hg := HG3.out
          rw [if_pos rfl] at hg
          subst hg
          go_wp2_with fail
          go_ret
          exact ⟨rfl, _, rfl⟩
        have hy0' : ((yp : Int) == 0) = false := by simp; omega
        have hg := HG3.out
        rw [if_neg hy0] at hg
        have HG4 := Lib.hid hg
        clear hg HG3
        go_wp2_with fail
        refine (CP.out d2 yp).mono ?_
        rintro e w3 ⟨rfl, rfl⟩
        go_wp2_with fail
        exact ⟨⟨plc (sps l) yp, k + 1, d2, by omega, (HPR.out yp).1, (HPR.out yp).2, rfl, by go_num, Lib.hid (by rw [show n + 1 - (k + 1) = n - k from by omega]; exact HG4.out), rfl⟩, by simp only [intOf]; omega⟩
      · have hp0' : decide ((0 : Int) ≤ p) = false := by simp; omega
        have hg := HG.out
        rw [show n + 1 - k = (n - k) + 1 from by omega, cycGo, if_pos (by omega)] at hg
        subst hg
        go_wp2_with fail
        go_ret
        exact ⟨rfl, _, rfl⟩
    · have hkn' : decide ((k : Int) ≤ (n : Int)) = false := by simp; omega
      have hg := HG.out
      rw [show n + 1 - k = 0 from by omega, cycGo] at hg
      subst hg
      go_wp2_with fail
      go_ret
      exact ⟨rfl, _, rfl⟩
end Go.Proofs.Ythaiplhjekkooaa

/- The document's truth: bootprintref17.truth. -/
namespace Go.Proofs.Ythaiplhjekkooaa
open Go.RowKit
theorem rTruth (w : World) (b : Bool) : Calls Try.prog 87 #[.bool b] w fun e w' => e = .returned (.int .i64 (if b = true then 1 else 0)) ∧ w' = w := by
  cases b
  · go_enter Try.func87, Try.ntmps87
    go_wp2
    go_ret
    exact ⟨rfl, rfl⟩
  · go_enter Try.func87, Try.ntmps87
    go_wp2
    go_ret
    exact ⟨rfl, rfl⟩

end Go.Proofs.Ythaiplhjekkooaa

/- Spans, the document's answer: the order of two numbers, texts, lists of tags. -/
namespace Go.Proofs.Ythaiplhjekkooaa
open Go.RowKit

theorem rNumber (x y : Int) (w : World) : Calls Try.prog 84 #[.int .u64 x, .int .u64 y] w fun e w' => e = .returned (.int .i64 (cmpI x y)) ∧ w' = w := by
  by_cases h1 : x < y
  · rw [show cmpI x y = -1 from by rw [cmpI, if_pos h1]]
    go_enter Try.func84, Try.ntmps84
    go_wp2
    go_ret
    exact ⟨rfl, rfl⟩
  · by_cases h2 : y < x
    · rw [show cmpI x y = 1 from by rw [cmpI, if_neg h1, if_pos h2]]
      go_enter Try.func84, Try.ntmps84
      go_wp2
      go_ret
      exact ⟨rfl, rfl⟩
    · rw [show cmpI x y = 0 from by rw [cmpI, if_neg h1, if_neg h2]]
      go_enter Try.func84, Try.ntmps84
      go_wp2
      go_ret
      exact ⟨rfl, rfl⟩
theorem rSigned (x y : Int) (w : World) : Calls Try.prog 85 #[.int .i64 x, .int .i64 y] w fun e w' => e = .returned (.int .i64 (cmpI x y)) ∧ w' = w := by
  by_cases h1 : x < y
  · rw [show cmpI x y = -1 from by rw [cmpI, if_pos h1]]
    go_enter Try.func85, Try.ntmps85
    go_wp2
    go_ret
    exact ⟨rfl, rfl⟩
  · by_cases h2 : y < x
    · rw [show cmpI x y = 1 from by rw [cmpI, if_neg h1, if_pos h2]]
      go_enter Try.func85, Try.ntmps85
      go_wp2
      go_ret
      exact ⟨rfl, rfl⟩
    · rw [show cmpI x y = 0 from by rw [cmpI, if_neg h1, if_neg h2]]
      go_enter Try.func85, Try.ntmps85
      go_wp2
      go_ret
      exact ⟨rfl, rfl⟩
theorem rTextC (s t : ByteArray) (w : World) : Calls Try.prog 86 #[.string s, .string t] w fun e w' => e = .returned (.int .i64 (cmpS s t)) ∧ w' = w := by
  rcases strLt_ways s t with ⟨h1, h3⟩ | ⟨h1, h2, h3⟩ | ⟨h1, h2, h3⟩
  · rw [h3]
    unfold strLt at h1
    clear h3
    go_enter Try.func86, Try.ntmps86
    go_wp2
    go_ret
    exact ⟨rfl, rfl⟩
  · rw [h3]
    have e0 : (s.toList == t.toList) = false := by
      rw [strEq_of', decide_eq_false_iff_not]
      rintro rfl
      rw [h1] at h2
      cases h2
    unfold strLt at h1 h2
    clear h3
    go_enter Try.func86, Try.ntmps86
    go_wp2
    go_ret
    exact ⟨rfl, rfl⟩
  · rw [h3]
    have e0 : (s.toList == t.toList) = true := by
      rw [strEq_of', decide_eq_true_iff]
      rw [strLt_ltb] at h1 h2
      exact nums_inj (ltb_tri _ _ h1 h2)
    unfold strLt at h1 h2
    clear h3
    go_enter Try.func86, Try.ntmps86
    go_wp2
    go_ret
    exact ⟨rfl, rfl⟩
set_option maxRecDepth 100000 in
set_option maxHeartbeats 2000000 in
theorem rTags {A1 A2 : Option Addr} {c1 c2 n m B : Nat} {la lb : List Tg} (w : World) (hf : RbT w B A1 la) (hg : RbT w B A2 lb) (hn : la.length = n) (hm : lb.length = m) (hnl : n ≤ 9223372036854775807) (hml : m ≤ 9223372036854775807) :
    Calls Try.prog 88 #[.slice A1 n c1, .slice A2 m c2] w fun e w' => e = .returned (.int .i64 (cmpTL la lb)) ∧ ∃ d, w' = w.drewN d := by
  have HN := Lib.hid hn
  have HM := Lib.hid hm
  obtain ⟨q, hq⟩ : ∃ q, cmpTL la lb = q := ⟨_, rfl⟩
  rw [hq]
  have HQ := Lib.hid hq
  clear hn hm hq
  go_enter Try.func88, Try.ntmps88
  go_wp2
  go_loopw [5, 6] (fun iv_ _ wr => ∃ j : Nat, j ≤ n ∧ j ≤ m ∧ iv_ = .int .i64 j ∧ cmpTL (la.drop j) (lb.drop j) = q ∧ ∃ d, wr = w.drewN d) (fun i _ _ => n - (intOf i).toNat)
  case atStart => exact ⟨0, by omega, by omega, rfl, HQ.out, 0, rfl⟩
  case round =>
    obtain ⟨j, hj, hjm, rfl, hd, d, rfl⟩ := hrel
    have HD := Lib.hid hd
    clear hd
    by_cases hlt : j < n
    · have hlt' : (j : Int) < (n : Int) := by omega
      by_cases hlm : j < m
      · have hlm2 : (j : Int) < (m : Int) := by omega
        obtain ⟨x, hx⟩ : ∃ x, la[j]? = some x := ⟨_, List.getElem?_eq_getElem (by rw [HN.out]; exact hlt)⟩
        obtain ⟨b1, o1, rfl, hbb1, c11, c12⟩ := RbT.get hf hx
        obtain ⟨y, hy⟩ : ∃ y, lb[j]? = some y := ⟨_, List.getElem?_eq_getElem (by rw [HM.out]; exact hlm)⟩
        obtain ⟨b2, o2, rfl, hbb2, c21, c22⟩ := RbT.get hg hy
        have hst := cmpTL_step hx hy
        rw [HD.out, cmpTg, orL2] at hst
        obtain ⟨u, hu⟩ : ∃ u, cmpS x.key y.key = u := ⟨_, rfl⟩
        obtain ⟨v, hv⟩ : ∃ v, cmpS x.val y.val = v := ⟨_, rfl⟩
        have hc1 := fun W => rTextC x.key y.key W
        have hc2 := fun W => rTextC x.val y.val W
        rw [hu] at hst hc1
        rw [hv] at hst hc2
        have HST := Lib.hid hst
        have HC1 := Lib.hid hc1
        have HC2 := Lib.hid hc2
        clear hst hc1 hc2 hu hv hx hy hbb1 hbb2
        go_wp2_with fail
        by_cases h0 : u = 0
        · subst h0
          by_cases h1 : v = 0
          · subst h1
            have hd := HST.out
            simp only [ne_eq, not_true, if_false] at hd
            have HD2 := Lib.hid hd
            clear hd
            go_quiet ((go_at_call 86; go_loud (exact (HC1.out _).mono (fun _ _ h => ⟨h.1, _, h.2⟩))))
            go_wp2_with fail
            go_quiet ((go_at_call 86; go_loud (exact (HC2.out _).mono (fun _ _ h => ⟨h.1, _, h.2⟩))))
            go_wp2_with fail
            go_roundw
            case rel => exact ⟨j + 1, by omega, by omega, by go_num, HD2.out.symm, _, rfl⟩
            case measure => simp [intOf]; omega
          · have hxb : (v != 0) = true := by simp [h1]
            have hd := HST.out
            simp only [ne_eq, not_true, if_false, h1, not_false_eq_true, if_true] at hd
            have HD2 := Lib.hid hd
            clear hd
            go_quiet ((go_at_call 86; go_loud (exact (HC1.out _).mono (fun _ _ h => ⟨h.1, _, h.2⟩))))
            go_wp2_with fail
            go_quiet ((go_at_call 86; go_loud (exact (HC2.out _).mono (fun _ _ h => ⟨h.1, _, h.2⟩))))
            go_wp2_with fail
            go_ret
            exact ⟨by rw [HD2.out]; rfl, _, rfl⟩
        · have hxb : (u != 0) = true := by simp [h0]
          have hxc : (u == 0) = false := by simp [h0]
          have hd := HST.out
          simp only [ne_eq, h0, not_false_eq_true, if_true] at hd
          have HD2 := Lib.hid hd
          clear hd
          go_quiet ((go_at_call 86; go_loud (exact (HC1.out _).mono (fun _ _ h => ⟨h.1, _, h.2⟩))))
          go_wp2_with fail
          go_ret
          exact ⟨by rw [HD2.out]; rfl, _, rfl⟩
      · have hlm2 : decide ((j : Int) < (m : Int)) = false := by simp; omega
        have hq1 : q = cmpI (n : Int) (m : Int) := by
          rw [← HD.out, show lb.drop j = [] from List.drop_eq_nil_of_le (by rw [HM.out]; omega), List.drop_eq_getElem_cons (by rw [HN.out]; exact hlt), cmpTL, cmpI, if_neg (by omega), if_pos (by omega)]
        have HQ1 := Lib.hid hq1
        clear hq1
        go_wp2_with (go_at_call 85; refine (rSigned _ _ _).mono ?_; rintro e w' ⟨rfl, hw⟩; rw [hw]; clear hw w')
        go_ret
        exact ⟨by rw [HQ1.out]; rfl, d, rfl⟩
    · have hlt' : decide ((j : Int) < (n : Int)) = false := by simp; omega
      obtain rfl : j = n := by omega
      have hq1 : q = cmpI (j : Int) (m : Int) := by
        rw [← HD.out, show la.drop j = [] from List.drop_eq_nil_of_le (by rw [HN.out]; omega)]
        by_cases hlm : j < m
        · rw [List.drop_eq_getElem_cons (by rw [HM.out]; exact hlm), cmpTL, cmpI, if_pos (by omega)]
        · rw [List.drop_eq_nil_of_le (by rw [HM.out]; omega), cmpTL, cmpI, if_neg (by omega), if_neg (by omega)]
      have HQ1 := Lib.hid hq1
      clear hq1
      go_wp2_with (go_at_call 85; refine (rSigned _ _ _).mono ?_; rintro e w' ⟨rfl, hw⟩; rw [hw]; clear hw w')
      go_ret
      exact ⟨by rw [HQ1.out]; rfl, d, rfl⟩
end Go.Proofs.Ythaiplhjekkooaa

/- Spans, the document's answer: Compare. -/
namespace Go.Proofs.Ythaiplhjekkooaa
open Go.RowKit

theorem orL_nest (x y : Int) (l : List Int) : orL (orL [x, y] :: l) = orL (x :: y :: l) := by
  simp only [orL]
  by_cases h : x = 0
  · subst h
    by_cases h2 : y = 0 <;> simp [h2]
  · simp [h]
theorem orL_none {l : List Int} {j : Nat} (h : l.length ≤ j) : orL (l.drop j) = 0 := by rw [List.drop_eq_nil_of_le h]; rfl

set_option maxRecDepth 100000 in
set_option maxHeartbeats 8000000 in
theorem rCompare {A1 A2 : Option Addr} {c1 c2 n m B : Nat} (a b : Sp) (w : World) (hf : RbT w B A1 a.tags) (hg : RbT w B A2 b.tags) (hn : a.tags.length = n) (hm : b.tags.length = m) (hB : B ≤ w.heap.size) (hnl : n ≤ 9223372036854775807) (hml : m ≤ 9223372036854775807) :
    Calls Try.prog 67 #[spV a A1 n c1, spV b A2 m c2] w fun e w' => e = .returned (.int .i64 (spCmp a b)) ∧ Below w.heap.size w w' := by
  have hb0 : Below w.heap.size w ((w.alloc (.cells (spC a A1 n c1) 43)).alloc (.cells (spC b A2 m c2) 43)) := ((Below.refl _ w).alloc (Nat.le_refl _) _).alloc (by simp) _
  have hff := Rd.below hf (hb0.mono hB)
  have hgg := Rd.below hg (hb0.mono hB)
  have bk1 := (Bk.new w 43 (spC a A1 n c1)).alloc (.cells (spC b A2 m c2) 43)
  have bk2 := Bk.new (w.alloc (.cells (spC a A1 n c1) 43)) 43 (spC b A2 m c2)
  rw [World.size_alloc] at bk2
  have hs1 : ((w.alloc (.cells (spC a A1 n c1) 43)).alloc (.cells (spC b A2 m c2) 43)).heap.size = w.heap.size + 2 := by simp
  obtain ⟨W, hW⟩ : ∃ W, (w.alloc (.cells (spC a A1 n c1) 43)).alloc (.cells (spC b A2 m c2) 43) = W := ⟨_, rfl⟩
  rw [hW] at hb0 hff hgg bk1 bk2 hs1
  have HW := Lib.hid hW
  obtain ⟨g, hgq⟩ : ∃ g, w.heap.size = g := ⟨_, rfl⟩
  rw [hgq] at bk1 bk2
  have HG := Lib.hid hgq
  have bd1 := bk1.drew
  have bd2 := bk2.drew
  have fd := Rd.drew hff
  have gd := Rd.drew hgg
  have hbd : Below w.heap.size w W.drew := below_drewN hb0 1
  have hBW : B ≤ W.drew.heap.size := by show B ≤ W.heap.size; omega
  obtain ⟨fa, hfa⟩ : ∃ fa : Int, (if a.fails = true then 1 else 0) = fa := ⟨_, rfl⟩
  obtain ⟨fb, hfb⟩ : ∃ fb : Int, (if b.fails = true then 1 else 0) = fb := ⟨_, rfl⟩
  have hT1 := fun W => rTruth W a.fails
  rw [hfa] at hT1
  have hT2 := fun W => rTruth W b.fails
  rw [hfb] at hT2
  have hres : spCmp a b = orL [cmpI a.hi b.hi, cmpI a.lo b.lo, cmpI a.id b.id, cmpI a.parent b.parent, cmpI a.start b.start, cmpI a.length b.length, cmpS a.service b.service, cmpS a.name b.name, cmpI a.kind b.kind, cmpI fa fb, cmpTL a.tags b.tags] := by rw [spCmp, hfa, hfb, cmpTr, orL_nest]
  obtain ⟨q, hq⟩ : ∃ q, spCmp a b = q := ⟨_, rfl⟩
  rw [hq]
  rw [hq] at hres
  have HQ := Lib.hid hres
  clear hres hfa hfb hq
  have HN := Lib.hid hn
  have HM := Lib.hid hm
  clear hW hgq hf hg hn hm hb0 hff hgg bk1 bk2 hs1
  go_enter Try.func67, Try.ntmps67
  go_upto_region 1 with fail
  rw [HW.out, HG.out]
  go_region_held3 (fun w' => (w'.cell? ⟨g, 0, none⟩ = some (.int .u64 a.hi) ∧ w'.cell? ⟨g, 1, none⟩ = some (.int .u64 a.lo) ∧ w'.cell? ⟨g, 2, none⟩ = some (.int .u64 a.id) ∧ w'.cell? ⟨g, 3, none⟩ = some (.int .u64 a.parent) ∧ w'.cell? ⟨g, 4, none⟩ = some (.string a.service) ∧ w'.cell? ⟨g, 5, none⟩ = some (.string a.name) ∧ w'.cell? ⟨g, 6, none⟩ = some (.int .i64 a.kind) ∧ w'.cell? ⟨g, 7, none⟩ = some (.int .i64 a.start) ∧ w'.cell? ⟨g, 8, none⟩ = some (.int .i64 a.length) ∧ w'.cell? ⟨g, 9, none⟩ = some (.bool a.fails) ∧ w'.cell? ⟨g, 10, none⟩ = some (.slice A1 n c1)) ∧ (w'.cell? ⟨g + 1, 0, none⟩ = some (.int .u64 b.hi) ∧ w'.cell? ⟨g + 1, 1, none⟩ = some (.int .u64 b.lo) ∧ w'.cell? ⟨g + 1, 2, none⟩ = some (.int .u64 b.id) ∧ w'.cell? ⟨g + 1, 3, none⟩ = some (.int .u64 b.parent) ∧ w'.cell? ⟨g + 1, 4, none⟩ = some (.string b.service) ∧ w'.cell? ⟨g + 1, 5, none⟩ = some (.string b.name) ∧ w'.cell? ⟨g + 1, 6, none⟩ = some (.int .i64 b.kind) ∧ w'.cell? ⟨g + 1, 7, none⟩ = some (.int .i64 b.start) ∧ w'.cell? ⟨g + 1, 8, none⟩ = some (.int .i64 b.length) ∧ w'.cell? ⟨g + 1, 9, none⟩ = some (.bool b.fails) ∧ w'.cell? ⟨g + 1, 10, none⟩ = some (.slice A2 m c2)))
    (exact ⟨cells11 (by assumption), cells11 (by assumption)⟩)
    (first
      | (go_at_call 84
         refine (rNumber _ _ _).mono ?_
         rintro e w' ⟨rfl, hw⟩
         rw [hw]
         clear hw w')
      | (go_at_call 85
         refine (rSigned _ _ _).mono ?_
         rintro e w' ⟨rfl, hw⟩
         rw [hw]
         clear hw w')
      | (go_at_call 86
         refine (rTextC _ _ _).mono ?_
         rintro e w' ⟨rfl, hw⟩
         rw [hw]
         clear hw w')
      | (go_at_call_of 87 (Value.bool a.fails)
         refine (hT1 _).mono ?_
         rintro e w' ⟨rfl, hw⟩
         rw [hw]
         clear hw w')
      | (go_at_call_of 87 (Value.bool b.fails)
         refine (hT2 _).mono ?_
         rintro e w' ⟨rfl, hw⟩
         rw [hw]
         clear hw w')
      | (go_at_call 88
         refine (rTags W.drew fd gd HN.out HM.out hnl hml).mono ?_
         rintro e w6 ⟨rfl, hw6⟩
         have hb6 := below_all hw6 W.drew.heap.size
         clear hw6
         have bf1 := bd1.below hb6 bd1.lt
         have bf2 := bd2.below hb6 bd2.lt
         have hbf := hbd.trans (hb6.mono hbd.size)
         have bz := Bk.new w6 3 #[.int .i64 (cmpI a.hi b.hi), .int .i64 (cmpI a.lo b.lo), .int .i64 (cmpI a.id b.id), .int .i64 (cmpI a.parent b.parent), .int .i64 (cmpI a.start b.start), .int .i64 (cmpI a.length b.length), .int .i64 (cmpS a.service b.service), .int .i64 (cmpS a.name b.name), .int .i64 (cmpI a.kind b.kind), .int .i64 (cmpI fa fb), .int .i64 (cmpTL a.tags b.tags)]
         have hbz := hbf.alloc hbf.size (.cells #[.int .i64 (cmpI a.hi b.hi), .int .i64 (cmpI a.lo b.lo), .int .i64 (cmpI a.id b.id), .int .i64 (cmpI a.parent b.parent), .int .i64 (cmpI a.start b.start), .int .i64 (cmpI a.length b.length), .int .i64 (cmpS a.service b.service), .int .i64 (cmpS a.name b.name), .int .i64 (cmpI a.kind b.kind), .int .i64 (cmpI fa fb), .int .i64 (cmpTL a.tags b.tags)] 3)
         have bg1 := bf1.alloc (.cells #[.int .i64 (cmpI a.hi b.hi), .int .i64 (cmpI a.lo b.lo), .int .i64 (cmpI a.id b.id), .int .i64 (cmpI a.parent b.parent), .int .i64 (cmpI a.start b.start), .int .i64 (cmpI a.length b.length), .int .i64 (cmpS a.service b.service), .int .i64 (cmpS a.name b.name), .int .i64 (cmpI a.kind b.kind), .int .i64 (cmpI fa fb), .int .i64 (cmpTL a.tags b.tags)] 3)
         have bg2 := bf2.alloc (.cells #[.int .i64 (cmpI a.hi b.hi), .int .i64 (cmpI a.lo b.lo), .int .i64 (cmpI a.id b.id), .int .i64 (cmpI a.parent b.parent), .int .i64 (cmpI a.start b.start), .int .i64 (cmpI a.length b.length), .int .i64 (cmpS a.service b.service), .int .i64 (cmpS a.name b.name), .int .i64 (cmpI a.kind b.kind), .int .i64 (cmpI fa fb), .int .i64 (cmpTL a.tags b.tags)] 3))
      | fail)
  all_goals
    obtain ⟨l, hl⟩ : ∃ l : List Int, [cmpI a.hi b.hi, cmpI a.lo b.lo, cmpI a.id b.id, cmpI a.parent b.parent, cmpI a.start b.start, cmpI a.length b.length, cmpS a.service b.service, cmpS a.name b.name, cmpI a.kind b.kind, cmpI fa fb, cmpTL a.tags b.tags] = l := ⟨_, rfl⟩
    have hlen : l.length = 11 := by rw [← hl]; rfl
    have hbk : Bk (w6.alloc (.cells #[.int .i64 (cmpI a.hi b.hi), .int .i64 (cmpI a.lo b.lo), .int .i64 (cmpI a.id b.id), .int .i64 (cmpI a.parent b.parent), .int .i64 (cmpI a.start b.start), .int .i64 (cmpI a.length b.length), .int .i64 (cmpS a.service b.service), .int .i64 (cmpS a.name b.name), .int .i64 (cmpI a.kind b.kind), .int .i64 (cmpI fa fb), .int .i64 (cmpTL a.tags b.tags)] 3)) w6.heap.size 3 (l.map (Value.int .i64)).toArray := by rw [← hl]; exact bz
    obtain ⟨v, hv⟩ : ∃ v, w6.alloc (.cells #[.int .i64 (cmpI a.hi b.hi), .int .i64 (cmpI a.lo b.lo), .int .i64 (cmpI a.id b.id), .int .i64 (cmpI a.parent b.parent), .int .i64 (cmpI a.start b.start), .int .i64 (cmpI a.length b.length), .int .i64 (cmpS a.service b.service), .int .i64 (cmpS a.name b.name), .int .i64 (cmpI a.kind b.kind), .int .i64 (cmpI fa fb), .int .i64 (cmpTL a.tags b.tags)] 3) = v := ⟨_, rfl⟩
    rw [hv] at hbk hbz ⊢
    obtain ⟨z, hz⟩ : ∃ z, w6.heap.size = z := ⟨_, rfl⟩
    rw [hz] at hbk ⊢
    have hget : ∀ j x, l[j]? = some x → v.cell? ⟨z, j, none⟩ = some (.int .i64 x) := fun j x h => by
      rw [hbk.cell j, List.getElem?_toArray, List.getElem?_map, h]
      rfl
    have HGET := Lib.hid hget
    have HLEN := Lib.hid hlen
    have hqq := HQ.out
    rw [hl] at hqq
    have HQQ := Lib.hid hqq
    clear hl hlen hbk hv hz hget hqq bz bg1 bg2 bf1 bf2 hbf hb6
    go_wp2_with fail
    go_loop [6] (fun i => ∃ j : Nat, j ≤ 11 ∧ i = .int .i64 j ∧ orL (l.drop j) = q) (fun i => 11 - (intOf i).toNat)
    case atStart => exact ⟨0, by omega, rfl, HQQ.out.symm⟩
    case round =>
      obtain ⟨j, hj, rfl, hd⟩ := hrel
      have HD := Lib.hid hd
      clear hd
      by_cases hlt : j < 11
      · have hlt' : (j : Int) < 11 := by omega
        obtain ⟨x, hx⟩ : ∃ x, l[j]? = some x := ⟨_, List.getElem?_eq_getElem (by rw [HLEN.out]; exact hlt)⟩
        have hc := HGET.out j x hx
        have hd := orL_drop hx
        rw [HD.out] at hd
        have HX := Lib.hid hd
        clear hx hd
        by_cases h0 : x = 0
        · subst h0
          have hd := HX.out
          rw [if_neg (by simp)] at hd
          have HX2 := Lib.hid hd
          clear hd
          go_wp2
          go_round
          case rel => exact ⟨j + 1, by omega, by go_num, HX2.out.symm⟩
          case measure => simp [intOf]; omega
        · have hxb : (x != 0) = true := by simp [h0]
          have hd := HX.out
          rw [if_pos h0] at hd
          have HX2 := Lib.hid hd
          clear hd
          go_wp2
          go_ret
          exact ⟨by rw [HX2.out]; rfl, hbz⟩
      · have hlt' : decide ((j : Int) < 11) = false := by simp; omega
        have hq0 : q = 0 := by rw [← HD.out]; exact orL_none (by rw [HLEN.out]; omega)
        have HQ0 := Lib.hid hq0
        clear hq0
        go_wp2
        go_ret
        exact ⟨by rw [HQ0.out]; rfl, hbz⟩
end Go.Proofs.Ythaiplhjekkooaa
