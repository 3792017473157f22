/- Texts of the proof of DepsNamesSaid, joined: DfC DfD DfE DfF DepsNames DepsNamesP. -/
import Derived.Test.YthaiplhjekkooaaJDepsNames7
import Derived.Test.YthaiplhjekkooaaJDepsNames8
import Derived.Deep.RegionHeld3
import Derived.BigRegion
import Derived.Test.YthaiplhjekkooaaJDepsNames9
import Derived.Deep.Cut
import Derived.Deep.CutRange
import Derived.Deep.RegionWith
import Derived.Test.YthaiplhjekkooaaJDepsNames6
/- deps: Calls. -/
namespace Go.Proofs.Ythaiplhjekkooaa
open Go.RowKit Go.MapKept
theorem loadEd_shutC2 (a : Addr) : loadVar 47 a = loadK 47 a := rfl
attribute [local go_sem ↓] loadEd_shutC2
attribute [local go_sem ↓] sliced_s
attribute [local go_sem ↓ high] sliced_s0

/-- What Calls hands back. -/
def CallsPost (w : World) (l : List Ed) (s : ByteArray) (e : Ending) (w' : World) : Prop :=
  edChk l ≠ 0 ∧ e = .returned (.tuple #[.slice none 0 0, .int .i64 2]) ∧ Below w.heap.size w w' ∨
  edChk l = 0 ∧ ∃ A c out, CallsIs l s out ∧ e = .returned (.tuple #[.slice A out.length c, .int .i64 0]) ∧ w'.ownsRow w.heap.size 9 1 (.slice A out.length c) out.length (out.map strV) ∧ Below w.heap.size w w'
def mapN (w : World) (b : Nat) : Nat := match w.heap[b]? with | some (.map es _) => es.size | _ => 0
theorem mapN_set {w : World} {b : Nat} {L : List ByteArray} (h : Mg strV boV w b (setL L)) : mapN w b = L.length := by
  rw [mapN, h.1]
  simp [mgE_length]
theorem mgGet_set {κ : ByteArray} : ∀ (L : List ByteArray), ((mgGet κ (setL L)).map boV).getD (.bool false) = .bool (hasT κ L)
  | [] => rfl
  | y :: L => by
    have ih := mgGet_set (κ := κ) L
    unfold mgGet setL hasT at *
    rw [List.map_cons, List.find?_cons, List.any_cons]
    by_cases h : y = κ
    · simp [h]
    · have e1 : decide (y = κ) = false := decide_eq_false h
      simp only [e1, Bool.false_or]
      exact ih
theorem mgPut_set {κ : ByteArray} {L : List ByteArray} (h : κ ∉ L) : mgPut κ true (setL L) = setL (L ++ [κ]) := by
  rw [mgPut_new (by rw [setL_keys]; exact h)]
  simp [setL]
theorem fine_size {e : Ed} (h : edFine e = true) : e.t.size ≤ 128 := by
  unfold edFine at h
  simp only [Bool.and_eq_true, decide_eq_true_eq] at h
  have := h.1.2
  unfold txtB at this
  simp only [Bool.and_eq_true, decide_eq_true_eq] at this
  exact this.1
set_option maxRecDepth 100000 in
set_option maxHeartbeats 8000000 in
theorem deCalls {A : Option Addr} {n c B : Nat} (l : List Ed) (s : ByteArray) (w : World) (h : RbD w B A l) (hn : l.length = n) (hB : B ≤ w.heap.size) (hs : n ≤ 10000) :
    Calls Try.prog 24 #[.slice A n c, .string s] w (CallsPost w l s) := by
  have cc := deCheck (c := c) l w h hn hB (by omega)
  have h2 := edChk_two l
  obtain ⟨ck, hck⟩ : ∃ ck, edChk l = ck := ⟨_, rfl⟩
  rw [hck] at cc h2
  have HCK := Lib.hid hck
  have HN := Lib.hid hn
  have HH := Lib.hid h
  clear hn h hck
  have hmm := @run_makeMap Try.prog
  go_enter Try.func24, Try.ntmps24
  go_wp2_with fail
  refine cc.mono ?_
  rintro en w5 ⟨rfl, hb5⟩
  by_cases h0 : ck = 0
  · subst h0
    have m0 := (Mg.new (kv := strV) (vv := boV) w5).alloc (.cells #[.string s] 9)
    have hb0 := (hb5.alloc hb5.size (.map #[] 0))
    have hb1 := hb0.alloc hb0.size (.cells #[.string s] 9)
    have q0 := Qu.one (w5.alloc (.map #[] 0)) s (base := w.heap.size) hb0.size
    rw [World.size_alloc] at q0
    obtain ⟨b, hb⟩ : ∃ b, w5.heap.size = b := ⟨_, rfl⟩
    have hwb : w.heap.size ≤ b := by rw [← hb]; exact hb5.size
    obtain ⟨w1, hw1⟩ : ∃ w1, (w5.alloc (.map #[] 0)).alloc (.cells #[.string s] 9) = w1 := ⟨_, rfl⟩
    rw [hw1] at m0 hb1 q0
    rw [hb] at m0 q0
    have HW1 := Lib.hid hw1
    have HBN := Lib.hid hb
    have HM0 := Lib.hid (show Mg strV boV w1 b (setL []) from m0)
    have HB1 := Lib.hid hb1
    have HQ0 := Lib.hid q0
    clear hw1 hb m0 hb0 hb1 q0 h2 cc hb5
    go_wp2_with fail
    rw [HW1.out, HBN.out]
    go_loopw [8] (fun wk_ wr => ∃ (m : Nat) (xs L : List ByteArray), Hid (Qu wr w.heap.size wk_ m xs) ∧ Hid (wk_.ownBlock ≠ some b) ∧ Hid (Mg strV boV wr b (setL L)) ∧ Hid (Below w.heap.size w wr) ∧ Hid (Bfs l s L xs) ∧ xs.length + (n - L.length) ≤ n + 1) (fun wk_ wr => sliceN wk_ + (n - mapN wr b))
    case atStart => exact ⟨1, [s], [], HQ0, Lib.hid (fun e => by have := Option.some.inj e; simp only at this; omega), HM0, HB1, Lib.hid (Bfs.start l s), by simp; omega⟩
    case round =>
      obtain ⟨m, xs, L, HQ, HNE, HM, HB, HI, hpot⟩ := hrel
      have hLn : L.length ≤ n := by rw [← HN.out]; exact Rch.len HI.out.nd HI.out.rch
      cases xs with
      | nil =>
        obtain ⟨g, off, cap, cur, rfl, -, -, -, -, hlen, -⟩ := HQ.out
        obtain rfl : m = 0 := by simpa using hlen.symm
        have ck := deKeys (some b) wr
        have hfull := HI.out.done
        have hsz : ∀ y ∈ L, y.size ≤ maxLen := fun y hy => by
          obtain ⟨e, he, rfl⟩ := List.mem_map.1 (rch_t (hfull.rch y hy))
          have := fine_size (((edChk_iff l).1 HCK.out).1 e he)
          simp only [maxLen]
          omega
        have cs := deSorted wr HM.out hsz (by omega)
        have HF := Lib.hid hfull
        have CK := Lib.hid ck
        have CS := Lib.hid cs
        have HB2 := Lib.hid (HB.out.alloc HB.out.size (.cells #[.map (some b)] 82))
        clear hfull hsz ck cs hlen
        go_wp2_with fail
        refine CK.out.mono ?_
        rintro en w' ⟨rfl, rfl⟩
        go_wp2_with fail
        refine CS.out.mono ?_
        rintro en w7 ⟨A7, c7, out, rfl, hso, hpe, hown, hb7⟩
        go_wp2_with fail
        go_ret2
        exact .inr ⟨HCK.out, A7, c7, out, ⟨hso, L, HF.out, hpe⟩, rfl, own_baseJ hown HB2.out.size, HB2.out.trans (hb7.mono HB2.out.size)⟩
      | cons x xs =>
        obtain ⟨g, off, cap, rfl, hmc, hm1, hcx, hq1, hob⟩ := HQ.out.first
        have hxl := HQ.out.len
        rw [List.length_cons] at hxl
        have hm0' : (0 : Int) < (m : Int) := by omega
        have hm0n : 0 < m := by omega
        have hmd : decide (0 < m) = true := by simp; omega
        have hm1' : (1 : Int) ≤ (m : Int) := by omega
        have hmc' : (m : Int) ≤ (cap : Int) := by omega
        rw [List.length_cons] at hpot
        have hM0 : mapN wr b = L.length := mapN_set HM.out
        obtain ⟨v1, hv1⟩ : ∃ v1, Value.slice (cutA (some ⟨g, off, none⟩) cap 1 1) (m - 1) (cap - 1) = v1 := ⟨_, rfl⟩
        rw [hv1] at hq1 hob
        have HV1 := Lib.hid hv1
        have HQ1 := Lib.hid hq1
        have HN1 := Lib.hid (show v1.ownBlock ≠ some b by rw [hob]; exact HNE.out)
        have HMID := Lib.hid HI.out.mid
        have HMS := Lib.hid (show sliceN (.slice (some ⟨g, off, none⟩) m cap) + (n - mapN wr b) = xs.length + 1 + (n - L.length) by rw [hM0, hxl]; rfl)
        obtain ⟨M0, hM⟩ : ∃ M0, xs.length + (n - L.length) = M0 := ⟨_, rfl⟩
        have hM0n : M0 ≤ n := by omega
        clear hq1 hob hv1 hM0 HQ HNE HI
        go_wp2_with fail
        rw [HV1.out]
        go_loopw [8, 30] (fun wk_ i_ wr2 => ∃ (i m2 : Nat) (xs2 L2 : List ByteArray), i ≤ n ∧ i_ = .int .i64 i ∧ Hid (Qu wr2 w.heap.size wk_ m2 xs2) ∧ Hid (wk_.ownBlock ≠ some b) ∧ Hid (Mg strV boV wr2 b (setL L2)) ∧ Hid (Below w.heap.size w wr2) ∧ Hid (Mid l s x i L2 xs2) ∧ xs2.length + (n - L2.length) = M0) (fun _ i_ _ => n - (intOf i_).toNat)
        case atStart => exact ⟨0, m - 1, xs, L, by omega, rfl, HQ1, HN1, HM, HB, HMID, hM⟩
        case round =>
          obtain ⟨i, m2, xs2, L2, hi, rfl, HQ, HNE, HM, HB, HI, hMM⟩ := hrel
          have hL2n : L2.length ≤ n := by rw [← HN.out]; exact Rch.len HI.out.nd HI.out.rch
          by_cases hij : i < n
          · have hij' : (i : Int) < (n : Int) := by omega
            obtain ⟨e, he⟩ : ∃ e, l[i]? = some e := ⟨_, List.getElem?_eq_getElem (by rw [HN.out]; exact hij)⟩
            obtain ⟨ob, oo, eA, hbb, hcl⟩ := RbD.at (Rd.below HH.out (HB.out.mono hB)) he
            subst eA
            have hld := loadK_ed hcl
            have HE := Lib.hid he
            have hal := (Below.refl wr.heap.size wr).alloc (Nat.le_refl _) (.cells (edA e) 47)
            have hlk := run_mgLook (z := .bool false) (e := 4) (strRun Try.underlying9) Try.underlying82 (by simp [Try.zeroValue4]) (HM.out.alloc (.cells (edA e) 47)) e.t false
            simp only [Bool.false_eq_true, if_false] at hlk
            rw [mgGet_set] at hlk
            have bk := Bk.new wr 47 (edA e)
            have HQ2 := Lib.hid (HQ.out.below hal)
            have HM2 := Lib.hid (HM.out.alloc (.cells (edA e) 47))
            have HB2 := Lib.hid (HB.out.alloc HB.out.size (.cells (edA e) 47))
            have hbw := HM.out.lt
            clear he hcl hal HQ HM HB
            by_cases h1 : e.f = x
            · have h1' : (e.f.toList == x.toList) = true := by rw [strEq_of', decide_eq_true h1]
              have H1 := Lib.hid h1
              clear h1
              by_cases h2 : e.t ∈ L2
              · rw [hasT_iff.2 h2] at hlk
                have HI2 := Lib.hid (HI.out.skip HE.out (.inr h2))
                clear bk
                go_wp2_with fail
                exact ⟨⟨i + 1, m2, xs2, L2, by omega, by go_num, HQ2, HNE, HM2, HB2, HI2, hMM⟩, by simp only [intOf]; omega⟩
              · have hf : hasT e.t L2 = false := by rw [← Bool.not_eq_true, hasT_iff]; exact h2
                rw [hf] at hlk
                have HI2 := Lib.hid (HI.out.push HE.out H1.out h2)
                have hL3 : (L2 ++ [e.t]).length ≤ n := by rw [← HN.out]; exact Rch.len HI2.out.nd HI2.out.rch
                rw [List.length_append, List.length_singleton] at hL3
                have hxs2 := HQ2.out.len
                have hm2 : m2 ≤ 20000 := by omega
                have HPS := Lib.hid (mgPut_set h2)
                have HBK := Lib.hid bk
                have HH2 := Lib.hid h2
                clear bk h2 hf
                go_upto_region 14 with (first
                  | (refine wpList_mgPut _ rfl (.tmp 45) (.tmp 47) (.const (.bool true)) 82 rfl (strRun Try.underlying9) Try.underlying82 b _ rfl HM2.out e.t true rfl rfl ?_
                     rintro w3 hm3 hg3 hs3)
                  | fail)
                rw [HPS.out] at hm3
                have hc3 : w3.cell? ⟨wr.heap.size, 2, none⟩ = some (.string e.t) := (HBK.out.grown hg3 (fun e1 => by have := Option.some.inj e1; omega)).cell 2
                have q3 := HQ2.out.grown hg3 HNE.out
                have q4 := q3.below ((Below.refl w3.heap.size w3).alloc (Nat.le_refl _) (.cells #[.string e.t] 9))
                have hb3 := HB2.out.trans (below_grownJ hg3 HB2.out.size (fun j hj => by have := Option.some.inj hj; omega))
                have hb4 := hb3.alloc hb3.size (.cells #[.string e.t] 9)
                have hm4 := hm3.alloc (.cells #[.string e.t] 9)
                have hcG : (w3.alloc (.cells #[.string e.t] 9)).cell? ⟨w3.heap.size, 0, none⟩ = some (.string e.t) := (Bk.new w3 9 #[.string e.t]).cell 0
                have HM4 := Lib.hid hm4
                have HB4 := Lib.hid hb4
                have HQ4 := Lib.hid q4
                have HCG := Lib.hid hcG
                have hlo := q4.lo
                have hbw4 := hm4.lt
                rw [World.size_alloc] at hbw4
                clear hs3 hg3 q3 q4 hb3 hb4 hm4 hm3 hcG HM2 HB2 HQ2 HBK
                go_wp2_with (at_builtin; go_loud (refine wpList_appQ _ rfl (.tmp 48) (.tmp 51) rfl w.heap.size _ m2 xs2 rfl HQ4.out e.t w3.heap.size 1 rfl HCG.out (by omega) HB4.out.size ?_))
                rintro v6 w6 k6 hq6 hg6 hk6
                have hm6 : Mg strV boV w6 b (setL (L2 ++ [e.t])) := HM4.out.grown hg6 (fun e1 => by
                  rcases hk6 with ⟨hk, -⟩ | ⟨hk, -⟩
                  · exact HNE.out (by rw [e1, hk])
                  · rw [hk] at e1; cases e1)
                have hb6 := HB4.out.trans (below_grownJ hg6 HB4.out.size (fun j hj => by
                  rcases hk6 with ⟨hk, -⟩ | ⟨hk, -⟩
                  · exact hlo j (by rw [← hk, hj])
                  · rw [hk] at hj; cases hj))
                have hne6 : v6.ownBlock ≠ some b := fun e1 => by
                  rcases hk6 with ⟨-, hk⟩ | ⟨-, g', hk, hge⟩
                  · exact HNE.out (by rw [← hk, e1])
                  · rw [hk] at e1
                    have := Option.some.inj e1
                    omega
                go_wp2_with fail
                exact ⟨⟨i + 1, m2 + 1, xs2 ++ [e.t], L2 ++ [e.t], by omega, by go_num, Lib.hid hq6, Lib.hid hne6, Lib.hid hm6, Lib.hid hb6, HI2, by simp; omega⟩, by simp only [intOf]; omega⟩
            · have h1' : (e.f.toList == x.toList) = false := by rw [strEq_of', decide_eq_false h1]
              have HI2 := Lib.hid (HI.out.skip HE.out (.inl h1))
              clear bk hlk
              go_wp2_with fail
              exact ⟨⟨i + 1, m2, xs2, L2, by omega, by go_num, HQ2, HNE, HM2, HB2, HI2, hMM⟩, by simp only [intOf]; omega⟩
          · have hij' : decide ((i : Int) < (n : Int)) = false := by simp; omega
            obtain rfl : i = n := by omega
            have HI2 := HI.out
            rw [← HN.out] at HI2
            have hms : mapN wr b = L2.length := mapN_set HM.out
            have hql := HQ.out.len
            obtain ⟨g2, off2, cap2, cur2, rfl, -⟩ := HQ.out
            go_wp2_with fail
            exact ⟨⟨m2, xs2, L2, HQ, HNE, HM, HB, Lib.hid HI2.done, by omega⟩, by rw [HMS.out, hms]; show m2 + (i - L2.length) < _; omega⟩
  · have h0' : ((ck : Int) != 0) = true := by simp; omega
    obtain rfl := h2.resolve_left h0
    go_wp2_with fail
    go_ret2
    exact .inl ⟨by rw [HCK.out]; exact h0, rfl, hb5⟩
end Go.Proofs.Ythaiplhjekkooaa

/- The document's Calls of layer 24. -/
namespace Go.Proofs.Ythaiplhjekkooaa
open Go.RowKit
theorem loadEd_shutD2 (a : Addr) : loadVar 47 a = loadK 47 a := rfl
attribute [local go_sem ↓] loadEd_shutD2

set_option maxRecDepth 100000 in
theorem rDeIn {A : Option Addr} {n c B : Nat} (xs : List ByteArray) (x : ByteArray) (w : World) (h : Rd w B A (xs.map strV)) (hn : xs.length = n) (hnl : n ≤ 9223372036854775807) :
    Calls Try.prog 46 #[.slice A n c, .string x] w fun e w' => e = .returned (.bool (hasT x xs)) ∧ w' = w := by
  obtain ⟨r, hr⟩ : ∃ r, hasT x xs = r := ⟨_, rfl⟩
  rw [hr]
  have HR := Lib.hid hr
  have HN := Lib.hid hn
  have HH := Lib.hid h
  clear hr hn h
  go_enter Try.func46, Try.ntmps46
  go_wp2_with fail
  go_loopw [5] (fun i_ wr => ∃ i : Nat, i ≤ n ∧ i_ = .int .i64 i ∧ wr = w ∧ Hid (x ∉ xs.take i)) (fun i_ _ => n - (intOf i_).toNat)
  case atStart => exact ⟨0, by omega, rfl, rfl, Lib.hid (by simp)⟩
  case round =>
    obtain ⟨i, hi, rfl, rfl, HA⟩ := hrel
    by_cases hlt : i < n
    · have hlt' : (i : Int) < (n : Int) := by omega
      obtain ⟨y, hy⟩ : ∃ y, xs[i]? = some y := ⟨_, List.getElem?_eq_getElem (by rw [HN.out]; exact hlt)⟩
      obtain ⟨b, o, eA, hc⟩ := Rs.get HH.out hy
      subst eA
      have HY := Lib.hid hy
      clear hy
      by_cases h1 : y = x
      · have h1' : (y.toList == x.toList) = true := by rw [strEq_of', decide_eq_true h1]
        have hr1 : r = true := by rw [← HR.out, hasT_iff, ← h1]; exact List.mem_of_getElem? HY.out
        subst hr1
        have H1 := Lib.hid h1
        clear h1
        go_wp2_with fail
        go_ret
        exact ⟨rfl, rfl⟩
      · have h1' : (y.toList == x.toList) = false := by rw [strEq_of', decide_eq_false h1]
        have H1 := Lib.hid h1
        clear h1
        go_wp2_with fail
        exact ⟨⟨i + 1, by omega, by go_num, trivial, Lib.hid (by
          rw [take_snoc HY.out, List.mem_append, List.mem_singleton]
          rintro (h | h)
          · exact HA.out h
          · exact H1.out h.symm)⟩, by simp only [intOf]; omega⟩
    · have hlt' : decide ((i : Int) < (n : Int)) = false := by simp; omega
      have hr1 : r = false := by
        have h1 := HA.out
        rw [List.take_of_length_le (by rw [HN.out]; omega)] at h1
        rw [← HR.out, ← Bool.not_eq_true, hasT_iff]
        exact h1
      subst hr1
      go_wp2_with fail
      go_ret
      exact ⟨rfl, rfl⟩
/-- append of texts. -/
theorem wpList_appTx (w : World) {ops : Array Oper} {rest : List Oper} {o : Oper} {a : Act} {Q : Exit → Act → World → Prop} (hgd : o.guard = none) (s x : Operand)
    (ho : o.op = .call { callee := .builtin .append, args := #[s, x], argTypes := #[57, 57] })
    (base : Nat) (v : Value) (n : Nat) (l : List ByteArray) (hs : a.eval s = v) (hown : w.ownsRow base 9 1 v n (l.map strV))
    (B : Nat) (A : Option Addr) (m c : Nat) (news : List ByteArray) (hx : a.eval x = .slice A m c) (hl : news.length = m) (hr : Rd w B A (news.map strV))
    (hbytes : n + m ≤ 1048576) (hbase : base ≤ w.heap.size)
    (h : ∀ A' c' w', App base 9 1 w v w' (.slice A' (n + m) c') (n + m) ((l ++ news).map strV) → wpList Try.prog ops Q rest (a.put o.dst (.slice A' (n + m) c')) w') :
    wpList Try.prog ops Q (o :: rest) a w := by
  obtain ⟨i0, hi0, hz0, hz1, hz2⟩ := info_parts strinfo
  refine wpList_app w hgd s x _ ho base 9 i0 _ 1 16 Try.underlying57 hi0 hz0 hz1 hz2 rfl (by omega) v n (l.map strV) hs hown B A m c (news.map strV) hx (by rw [List.length_map]; omega) hr (fun u hu => by
    obtain ⟨y, -, rfl⟩ := List.mem_map.1 hu
    rfl) (by simp only [maxLen]; omega) (by omega) hbase ?_
  intro A' c' w' h1 h2 h3 h4
  rw [← List.map_append] at h1
  exact h A' c' w' ((App.refl hown).step h1 h2 h3)
/-! ### the insertion sort, plain -/
/-- The first i + 1 in order, but for that at k, which is not behind those behind it. -/
structure Ins (Y : List ByteArray) (i k : Nat) : Prop where
  a : ∀ p q x y, p < q → q ≤ i → p ≠ k → q ≠ k → Y[p]? = some x → Y[q]? = some y → strLt y x = false
  b : ∀ q x y, k < q → q ≤ i → Y[k]? = some x → Y[q]? = some y → strLt y x = false
def SortTo (Y : List ByteArray) (i : Nat) : Prop := ∀ p q x y, p < q → q < i → Y[p]? = some x → Y[q]? = some y → strLt y x = false
theorem Ins.start {Y : List ByteArray} {i : Nat} (h : SortTo Y i) : Ins Y i i :=
  ⟨fun p q x y hpq hq _ hqk => h p q x y hpq (by omega), fun q x y h1 h2 => by omega⟩
theorem Ins.done {Y : List ByteArray} {i k : Nat} (h : Ins Y i k) (hki : k ≤ i) (hk : ∀ j x y, k = j + 1 → Y[j]? = some x → Y[k]? = some y → strLt y x = false) (hl : i < Y.length) : SortTo Y (i + 1) := fun p q x y hpq hq hp hqy => by
  by_cases h1 : p = k
  · subst h1
    exact h.b q x y hpq (by omega) hp hqy
  by_cases h2 : q = k
  · subst h2
    obtain ⟨j, hj⟩ : ∃ j, q = j + 1 := ⟨q - 1, by omega⟩
    obtain ⟨z, hz⟩ : ∃ z, Y[j]? = some z := ⟨_, List.getElem?_eq_getElem (by omega)⟩
    have h3 := hk j z y hj hz hqy
    by_cases h4 : p = j
    · subst h4
      rw [hp] at hz
      cases hz
      exact h3
    · exact strLt_tr (h.a p j x z (by omega) (by omega) h1 (by omega) hp hz) h3
  · exact h.a p q x y hpq (by omega) h1 h2 hp hqy
theorem strLt_asym {a b : ByteArray} (h : strLt a b = true) : strLt b a = false := by
  rw [← Bool.not_eq_true, strLt_cmp1]
  rw [strLt_cmp1] at h
  have := cmpS_cmp.neg a b
  omega
theorem Ins.swap {Y : List ByteArray} {i j : Nat} {x y : ByteArray} (h : Ins Y i (j + 1)) (hji : j + 1 ≤ i) (hl : i < Y.length) (hx : Y[j]? = some x) (hy : Y[j + 1]? = some y) (hlt : strLt y x = true) : Ins ((Y.set (j + 1) x).set j y) i j := by
  have hget : ∀ p, ((Y.set (j + 1) x).set j y)[p]? = if p = j then some y else if p = j + 1 then some x else Y[p]? := fun p => by
    rw [List.getElem?_set, List.length_set]
    by_cases h1 : j = p
    · subst h1
      rw [if_pos rfl, if_pos rfl, if_pos (by omega)]
    · rw [if_neg h1, if_neg (Ne.symm h1), List.getElem?_set]
      by_cases h2 : j + 1 = p
      · subst h2
        rw [if_pos rfl, if_pos rfl, if_pos (by omega)]
      · rw [if_neg h2, if_neg (Ne.symm h2)]
  constructor
  · intro p q u v hpq hq hp hqk hu hv
    rw [hget, if_neg hp] at hu
    rw [hget, if_neg hqk] at hv
    by_cases h1 : p = j + 1
    · rw [if_pos h1] at hu
      rw [if_neg (by omega)] at hv
      cases hu
      exact h.a j q x v (by omega) hq (by omega) (by omega) hx hv
    · rw [if_neg h1] at hu
      by_cases h2 : q = j + 1
      · rw [if_pos h2] at hv
        cases hv
        exact h.a p j u x (by omega) (by omega) (by omega) (by omega) hu hx
      · rw [if_neg h2] at hv
        exact h.a p q u v hpq hq h1 h2 hu hv
  · intro q u v hq hqi hu hv
    rw [hget, if_pos rfl] at hu
    cases hu
    rw [hget, if_neg (by omega)] at hv
    by_cases h2 : q = j + 1
    · rw [if_pos h2] at hv
      cases hv
      exact strLt_asym hlt
    · rw [if_neg h2] at hv
      exact h.b q y v (by omega) hqi hy hv
theorem SortTo.sorted {Y : List ByteArray} (h : SortTo Y Y.length) : SortT Y :=
  List.pairwise_iff_getElem.2 fun i j hi hj hij => h i j _ _ hij hj (List.getElem?_eq_getElem hi) (List.getElem?_eq_getElem hj)
end Go.Proofs.Ythaiplhjekkooaa

/- The document's Calls of layer 24: the walk. -/
namespace Go.Proofs.Ythaiplhjekkooaa
open Go.RowKit
theorem loadEd_shutE2 (a : Addr) : loadVar 47 a = loadK 47 a := rfl
attribute [local go_sem ↓] loadEd_shutE2

theorem ownTx_len {w : World} {base n : Nat} {v : Value} {xs : List ByteArray} (h : w.ownsRow base 9 1 v n (xs.map strV)) : xs.length = n := by
  have := h.1
  rwa [List.length_map, Nat.mul_one] at this
set_option maxRecDepth 100000 in
set_option maxHeartbeats 16000000 in
theorem rDeCalls {A : Option Addr} {n c B : Nat} (l : List Ed) (s : ByteArray) (w : World) (h : RbD w B A l) (hn : l.length = n) (hB : B ≤ w.heap.size) (hs : n ≤ 10000) :
    Calls Try.prog 29 #[.slice A n c, .string s] w (CallsPost w l s) := by
  have cc := rDeCheck (c := c) l w h hn hB (by omega)
  have h2 := edChk_two l
  obtain ⟨ck, hck⟩ : ∃ ck, edChk l = ck := ⟨_, rfl⟩
  rw [hck] at cc h2
  have HCK := Lib.hid hck
  have HN := Lib.hid hn
  have HH := Lib.hid h
  clear hn h hck
  go_enter Try.func29, Try.ntmps29
  go_wp2_with fail
  refine cc.mono ?_
  rintro en w5 ⟨rfl, hb5⟩
  by_cases h0 : ck = 0
  · subst h0
    have HB5 := Lib.hid hb5
    clear h2 cc hb5
    go_wp2_with fail
    go_loopw [7, 8] (fun out_ n_ wr => ∃ (k m c' : Nat) (A' : Option Addr), k ≤ n + 1 ∧ out_ = .slice A' m c' ∧ n_ = .int .i64 k ∧ Hid (wr.ownsRow w.heap.size 9 1 (.slice A' m c') m ((pasN l s k).map strV)) ∧ Hid (Below w.heap.size w wr)) (fun _ n_ _ => n + 1 - (intOf n_).toNat)
    case atStart => exact ⟨0, 0, 0, none, by omega, rfl, rfl, Lib.hid (World.ownsRow_nil _ _ _ _), HB5⟩
    case round =>
      obtain ⟨k, m, c', A', hk, rfl, rfl, HO, HB⟩ := hrel
      by_cases hkn : k ≤ n
      · have hkn' : (k : Int) ≤ (n : Int) := by omega
        obtain ⟨out0, ho0⟩ : ∃ out0, pasN l s k = out0 := ⟨_, rfl⟩
        have hp0 := pasN_pas l s k
        rw [ho0] at HO hp0
        have HS0 := Lib.hid ho0
        have HP0 := Lib.hid hp0
        clear ho0 hp0
        go_wp2_with fail
        go_loopw [7, 9] (fun out_ i_ wr2 => ∃ (i m2 c2 : Nat) (A2 : Option Addr), i ≤ n ∧ out_ = .slice A2 m2 c2 ∧ i_ = .int .i64 i ∧ Hid (wr2.ownsRow w.heap.size 9 1 (.slice A2 m2 c2) m2 ((pasTo l s out0 i).map strV)) ∧ Hid (Below w.heap.size w wr2)) (fun _ i_ _ => n - (intOf i_).toNat)
        case atStart => exact ⟨0, m, c', A', by omega, rfl, rfl, HO, HB⟩
        case round =>
          obtain ⟨i, m2, c2, A2, hi, rfl, rfl, HO2, HB2⟩ := hrel
          by_cases hij : i < n
          · have hij' : (i : Int) < (n : Int) := by omega
            obtain ⟨e, he⟩ : ∃ e, l[i]? = some e := ⟨_, List.getElem?_eq_getElem (by rw [HN.out]; exact hij)⟩
            obtain ⟨b, o, eA, k0, k1, k2, k3⟩ := RbD.cells (Rd.below HH.out (HB2.out.mono hB)) he
            subst eA
            have hsn := pasTo_succ (s := s) (out := out0) he
            have hpp : Pas l s (pasTo l s out0 i) := Pas.fold (fun x hx => List.mem_of_mem_take hx) HP0.out
            have hml := ownTx_len HO2.out
            have hmn : m2 ≤ n := by rw [← hml, ← HN.out]; exact Rch.len hpp.nd hpp.rch
            obtain ⟨o2, ho2⟩ : ∃ o2, pasTo l s out0 i = o2 := ⟨_, rfl⟩
            rw [ho2] at HO2 hsn hml
            have HSN := Lib.hid hsn
            have HML := Lib.hid hml
            have hrd : Rd wr wr.heap.size A2 (o2.map strV) := Rd.of_own HO2.out
            have i1 := rDeIn (c := c2) o2 e.f wr hrd hml (by omega)
            have i2 := rDeIn (c := c2) o2 e.t wr hrd hml (by omega)
            have hpi : pasIf s o2 e = ((decide (e.f = s) || hasT e.f o2) && !hasT e.t o2) := rfl
            obtain ⟨bf, hbf⟩ : ∃ bf, hasT e.f o2 = bf := ⟨_, rfl⟩
            obtain ⟨bt, hbt⟩ : ∃ bt, hasT e.t o2 = bt := ⟨_, rfl⟩
            rw [hbf] at i1 hpi
            rw [hbt] at i2 hpi
            have I1 := Lib.hid i1
            have I2 := Lib.hid i2
            have HPI := Lib.hid hpi
            have hskip : pasIf s o2 e = false → pasTo l s out0 (i + 1) = o2 := fun hf => by rw [HSN.out, pasStep, if_neg (by rw [hf]; simp)]
            have HSK := Lib.hid hskip
            have hpush : pasIf s o2 e = true → pasTo l s out0 (i + 1) = o2 ++ [e.t] := fun hf => by rw [HSN.out, pasStep, if_pos hf]
            have HPU := Lib.hid hpush
            clear hsn hpp hml ho2 hrd i1 i2 hpi hbf hbt he hskip hpush
            by_cases h1 : e.f = s
            · have h1' : (e.f.toList == s.toList) = true := by rw [strEq_of', decide_eq_true h1]
              have H1 := Lib.hid h1
              clear h1
              cases bt with
              | true =>
                have HS2 := Lib.hid (HSK.out (by rw [HPI.out]; simp))
                go_wp2_with fail
                refine I2.out.mono ?_
                rintro en w' ⟨rfl, hw'⟩
                rw [hw']
                clear hw'
                go_wp2_with fail
                exact ⟨⟨i + 1, m2, c2, A2, by omega, rfl, by go_num, Lib.hid (by rw [HS2.out]; exact HO2.out), HB2⟩, by simp only [intOf]; omega⟩
              | false =>
                have HS2 := Lib.hid (HPU.out (by rw [HPI.out, decide_eq_true H1.out]; rfl))
                go_wp2_with fail
                refine I2.out.mono ?_
                rintro en w' ⟨rfl, hw'⟩
                rw [hw']
                clear hw'
                have own4 := (App.refl HO2.out).later ((Below.refl wr.heap.size wr).alloc (Nat.le_refl _) (.cells #[.string e.t] 9))
                go_wp2_with (at_builtin; go_loud (refine wpList_appTx _ rfl (.tmp 55) (.tmp 61) rfl w.heap.size _ m2 o2 rfl own4.own (wr.heap.size + 1) (some ⟨wr.heap.size, 0, none⟩) 1 1 [e.t] rfl rfl (Rd.lit wr #[.string e.t] 9) (by omega) (by have := HB2.out.size; simp; omega) ?_))
                intro A6 c6 w6 hap
                have hb6 : Below w.heap.size w w6 := (HB2.out.alloc HB2.out.size (.cells #[.string e.t] 9)).trans (hap.below (by have := HB2.out.size; simp; omega) (fun q hq => by
                  rcases own4.own.2 with ⟨h3, _⟩ | ⟨g, cap, cur, h3, hbase, _⟩
                  · rw [h3] at hq; cases hq
                  · rw [h3] at hq
                    have := Option.some.inj hq
                    simp only at this
                    omega))
                go_wp2_with fail
                exact ⟨⟨i + 1, m2 + 1, c6, A6, by omega, rfl, by go_num, Lib.hid (by rw [HS2.out, List.map_append]; exact hap.own), Lib.hid hb6⟩, by simp only [intOf]; omega⟩
            · have h1' : (e.f.toList == s.toList) = false := by rw [strEq_of', decide_eq_false h1]
              have H1 := Lib.hid h1
              clear h1
              cases bf with
              | false =>
                have HS2 := Lib.hid (HSK.out (by rw [HPI.out, decide_eq_false H1.out]; simp))
                go_wp2_with fail
                refine I1.out.mono ?_
                rintro en w' ⟨rfl, hw'⟩
                rw [hw']
                clear hw'
                go_wp2_with fail
                exact ⟨⟨i + 1, m2, c2, A2, by omega, rfl, by go_num, Lib.hid (by rw [HS2.out]; exact HO2.out), HB2⟩, by simp only [intOf]; omega⟩
              | true =>
              cases bt with
              | true =>
                have HS2 := Lib.hid (HSK.out (by rw [HPI.out]; simp))
                go_wp2_with fail
                refine I1.out.mono ?_
                rintro en w' ⟨rfl, hw'⟩
                rw [hw']
                clear hw'
                go_wp2_with fail
                refine I2.out.mono ?_
                rintro en w' ⟨rfl, hw'⟩
                rw [hw']
                clear hw'
                go_wp2_with fail
                exact ⟨⟨i + 1, m2, c2, A2, by omega, rfl, by go_num, Lib.hid (by rw [HS2.out]; exact HO2.out), HB2⟩, by simp only [intOf]; omega⟩
              | false =>
                have HS2 := Lib.hid (HPU.out (by rw [HPI.out]; simp))
                go_wp2_with fail
                refine I1.out.mono ?_
                rintro en w' ⟨rfl, hw'⟩
                rw [hw']
                clear hw'
                go_wp2_with fail
                refine I2.out.mono ?_
                rintro en w' ⟨rfl, hw'⟩
                rw [hw']
                clear hw'
                have own4 := (App.refl HO2.out).later ((Below.refl wr.heap.size wr).alloc (Nat.le_refl _) (.cells #[.string e.t] 9))
                go_wp2_with (at_builtin; go_loud (refine wpList_appTx _ rfl (.tmp 55) (.tmp 61) rfl w.heap.size _ m2 o2 rfl own4.own (wr.heap.size + 1) (some ⟨wr.heap.size, 0, none⟩) 1 1 [e.t] rfl rfl (Rd.lit wr #[.string e.t] 9) (by omega) (by have := HB2.out.size; simp; omega) ?_))
                intro A6 c6 w6 hap
                have hb6 : Below w.heap.size w w6 := (HB2.out.alloc HB2.out.size (.cells #[.string e.t] 9)).trans (hap.below (by have := HB2.out.size; simp; omega) (fun q hq => by
                  rcases own4.own.2 with ⟨h3, _⟩ | ⟨g, cap, cur, h3, hbase, _⟩
                  · rw [h3] at hq; cases hq
                  · rw [h3] at hq
                    have := Option.some.inj hq
                    simp only at this
                    omega))
                go_wp2_with fail
                exact ⟨⟨i + 1, m2 + 1, c6, A6, by omega, rfl, by go_num, Lib.hid (by rw [HS2.out, List.map_append]; exact hap.own), Lib.hid hb6⟩, by simp only [intOf]; omega⟩
          · have hij' : decide ((i : Int) < (n : Int)) = false := by simp; omega
            obtain rfl : i = n := by omega
            have hsu : pasTo l s out0 i = pasN l s (k + 1) := by rw [pasTo, List.take_of_length_le (by rw [HN.out]; exact Nat.le_refl _), pasN, HS0.out]
            rw [hsu] at HO2
            clear hsu
            go_wp2_with fail
            exact ⟨⟨k + 1, m2, c2, A2, by omega, rfl, by go_num, HO2, HB2⟩, by simp only [intOf]; omega⟩
      · have hkn' : decide ((k : Int) ≤ (n : Int)) = false := by simp; omega
        obtain rfl : k = n + 1 := by omega
        have hfull : Full l s (pasN l s (n + 1)) := by have := pasN_full l s; rwa [HN.out] at this
        have HFU := Lib.hid hfull
        obtain ⟨out, hout⟩ : ∃ out, pasN l s (n + 1) = out := ⟨_, rfl⟩
        rw [hout] at HO HFU
        have hml := ownTx_len HO.out
        have hmn : m ≤ n := by rw [← hml, ← HN.out]; exact Rch.len HFU.out.nd HFU.out.rch
        clear hfull hout hkn hkn' hk hml
        go_wp2_with fail
        go_loopw [10] (fun i_ wr2 => ∃ (i : Nat) (Y : List ByteArray), 1 ≤ i ∧ (i ≤ m ∨ i = 1) ∧ i_ = .int .i64 i ∧ Hid (Y.Perm out) ∧ Hid (SortTo Y i) ∧ Hid (wr2.ownsRow w.heap.size 9 1 (.slice A' m c') m (Y.map strV)) ∧ Hid (Below w.heap.size w wr2)) (fun i_ _ => m - (intOf i_).toNat)
        case atStart => exact ⟨1, out, by omega, .inr rfl, rfl, Lib.hid (List.Perm.refl _), Lib.hid (fun p q x y h1 h2 => by omega), HO, HB⟩
        case round =>
          obtain ⟨i, Y, hi1, him, rfl, HY, HSO, HOY, HBY⟩ := hrel
          by_cases hlt : i < m
          · have hlt' : (i : Int) < (m : Int) := by omega
            clear him
            go_wp2_with fail
            go_loopw [11] (fun k_ wr3 => ∃ (k : Nat) (Z : List ByteArray), k ≤ i ∧ k_ = .int .i64 k ∧ Hid (Z.Perm out) ∧ Hid (Ins Z i k) ∧ Hid (wr3.ownsRow w.heap.size 9 1 (.slice A' m c') m (Z.map strV)) ∧ Hid (Below w.heap.size w wr3)) (fun k_ _ => (intOf k_).toNat)
            case atStart => exact ⟨i, Y, by omega, rfl, HY, Lib.hid (Ins.start HSO.out), HOY, HBY⟩
            case round =>
              obtain ⟨k, Z, hki, rfl, HZ, HI, HOZ, HBZ⟩ := hrel
              have hzl := ownTx_len HOZ.out
              rcases Nat.eq_zero_or_pos k with hk0 | hk0
              · subst hk0
                have HST := Lib.hid (HI.out.done (by omega) (fun j x y h => by omega) (by omega))
                rw [show ((0 : Nat) : Int) = 0 from rfl]
                go_wp2_with fail
                go_quiet (fail)
                go_wp2_with fail
                exact ⟨⟨i + 1, Z, by omega, .inl (by omega), by go_num, HZ, HST, Lib.hid ((App.refl HOZ.out).later (below_drewN (Below.refl _ _) _)).own, Lib.hid (below_drewN HBZ.out _)⟩, by simp only [intOf]; omega⟩
              · obtain ⟨j, hkj⟩ : ∃ j, k = j + 1 := ⟨k - 1, by omega⟩
                obtain ⟨x, hx⟩ : ∃ x, Z[j]? = some x := ⟨_, List.getElem?_eq_getElem (by omega)⟩
                obtain ⟨y, hy⟩ : ∃ y, Z[k]? = some y := ⟨_, List.getElem?_eq_getElem (by omega)⟩
                obtain ⟨g, hA⟩ : ∃ g, A' = some ⟨g, 0, none⟩ := by
                  rcases HOZ.out.2 with ⟨h1, _⟩ | ⟨g, _, _, h1, _⟩
                  · injection h1 with e1 e2
                    omega
                  · injection h1 with e1
                    exact ⟨g, e1⟩
                subst hA
                have hrd : Rd wr wr.heap.size (some ⟨g, 0, none⟩) (Z.map strV) := Rd.of_own HOZ.out
                have hcx : wr.cell? ⟨g, j, none⟩ = some (.string x) := by
                  obtain ⟨b, o, e, hc⟩ := Rs.get hrd hx
                  cases e
                  rwa [Nat.zero_add] at hc
                have hcy : wr.cell? ⟨g, k, none⟩ = some (.string y) := by
                  obtain ⟨b, o, e, hc⟩ := Rs.get hrd hy
                  cases e
                  rwa [Nat.zero_add] at hc
                have hfz : ∀ q, wr.frozen? ⟨g, q, none⟩ = false := fun q => by
                  rcases HOZ.out.2 with ⟨h1, _⟩ | ⟨g', cap, cur, h1, _, hb, _⟩
                  · cases h1
                  · injection h1 with e1
                    injection e1 with e1
                    injection e1 with e1
                    subst e1
                    exact Bk.frozen (t := 9) (cs := cur) hb q
                have hk0' : (0 : Int) < (k : Int) := by omega
                have hk1' : (1 : Int) ≤ (k : Int) := by omega
                have hkm : (k : Int) < (m : Int) := by omega
                have hjm : (j : Int) < (m : Int) := by omega
                have h2i : (k : Int) - 1 < (m : Int) := by omega
                have h3i : (0 : Int) ≤ (k : Int) - 1 := by omega
                have h4i : ((k : Int) - 1).toNat = j := by omega
                have hwk : IntKind.i64.wrap ((k : Int) - 1) = (k : Int) - 1 := IntWalk.i64_in _ ⟨by omega, by omega⟩
                have hjk : j ≠ k := by omega
                have HKJ := Lib.hid hkj
                have HX := Lib.hid hx
                have HYY := Lib.hid hy
                have HZL := Lib.hid hzl
                obtain ⟨lt, hlt0⟩ : ∃ lt, Op.bytesLess y.toList x.toList = lt := ⟨_, rfl⟩
                have HLT := Lib.hid (show strLt y x = lt from hlt0)
                clear hkj hx hy hrd hzl
                cases lt with
                | false =>
                  have HST := Lib.hid (HI.out.done (by omega) (fun j' x' y' h1 h2 h3 => by
                    have hj' : j' = j := by have := HKJ.out; omega
                    subst hj'
                    rw [HX.out] at h2
                    rw [HYY.out] at h3
                    cases h2
                    cases h3
                    exact HLT.out) (by have := HZL.out; omega))
                  go_wp2_with fail
                  go_quiet (fail)
                  go_wp2_with fail
                  exact ⟨⟨i + 1, Z, by omega, .inl (by omega), by go_num, HZ, HST, Lib.hid ((App.refl HOZ.out).later (below_drewN (Below.refl _ _) _)).own, Lib.hid (below_drewN HBZ.out _)⟩, by simp only [intOf]; omega⟩
                | true =>
                  have hIS : Ins ((Z.set k x).set j y) i j := by
                    have h1 := HI.out
                    have h2 := HYY.out
                    have hkj := HKJ.out
                    subst hkj
                    exact h1.swap hki (by have := HZL.out; omega) HX.out h2 HLT.out
                  have hPM : ((Z.set k x).set j y).Perm out := by
                    refine List.Perm.trans ?_ HZ.out
                    obtain ⟨h1, h2⟩ := List.getElem?_eq_some_iff.1 HX.out
                    obtain ⟨h3, h4⟩ := List.getElem?_eq_some_iff.1 HYY.out
                    rw [← h2, ← h4, List.set_comm _ _ (by have := HKJ.out; omega)]
                    exact List.set_set_perm h1 h3
                  have HIS := Lib.hid hIS
                  have HPM := Lib.hid hPM
                  clear hIS hPM
                  go_wp2_with fail
                  go_quiet (fail)
                  have hbq := below_drewN (Below.refl wr.heap.size wr) nq
                  have HOQ := Lib.hid ((App.refl HOZ.out).later hbq).own
                  have HBQ := Lib.hid (HBZ.out.trans (hbq.mono HBZ.out.size))
                  have q1 : (wr.drewN nq).cell? ⟨g, j, none⟩ = some (.string x) := hcx
                  have q2 : (wr.drewN nq).cell? ⟨g, k, none⟩ = some (.string y) := hcy
                  have q3 : ∀ q, (wr.drewN nq).frozen? ⟨g, q, none⟩ = false := hfz
                  obtain ⟨WX, hWX⟩ : ∃ WX, wr.drewN nq = WX := ⟨_, rfl⟩
                  rw [hWX] at q1 q2 q3 HOQ HBQ ⊢
                  clear hWX hcx hcy hfz hbq HOZ HBZ
                  go_wp2_with fail
                  go_region
                  have hge : w.heap.size ≤ g := by
                    rcases HOQ.out.2 with ⟨h1, _⟩ | ⟨g', cap, cur, h1, hb, _⟩
                    · cases h1
                    · injection h1 with e1
                      injection e1 with e1
                      injection e1 with e1
                      subst e1
                      exact hb
                  have hap := ((App.refl HOQ.out).set k (.string x)).set j (.string y)
                  have hown := (hap.later (below_drewN (Below.refl _ _) 1)).own
                  rw [show ((Z.map strV).set k (.string x)).set j (.string y) = ((Z.set k x).set j y).map strV by rw [List.map_set, List.map_set]] at hown
                  have hg1 := grown_setCellQ WX g k (.string x)
                  have hg2 := grown_setCellQ (WX.setCell ⟨g, k, none⟩ (.string x)) g j (.string y)
                  have hb1 := HBQ.out.trans (below_grownJ hg1 HBQ.out.size (fun q hq => by have := Option.some.inj hq; omega))
                  have hb2 := hb1.trans (below_grownJ hg2 hb1.size (fun q hq => by have := Option.some.inj hq; omega))
                  have HOWN := Lib.hid hown
                  have HB2 := Lib.hid (below_drewN hb2 1)
                  clear hg1 hg2 hb1 hb2 hown hap q1 q2 q3
                  go_wp2_with fail
                  exact ⟨⟨j, (Z.set k x).set j y, by have := HKJ.out; omega, by have := HKJ.out; congr 1; omega, HPM, HIS, HOWN, HB2⟩, by have := HKJ.out; simp only [intOf]; omega⟩
          · have hlt' : decide ((i : Int) < (m : Int)) = false := by simp; omega
            have hyl := ownTx_len HOY.out
            have hst : SortTo Y Y.length := by
              rcases him with h | h
              · have : i = m := by omega
                subst this
                rw [hyl]
                exact HSO.out
              · intro p q x y hpq hq
                omega
            have hso := hst.sorted
            subst hyl
            go_wp2_with fail
            go_ret2
            exact .inr ⟨HCK.out, A', c', Y, ⟨hso, out, HFU.out, HY.out⟩, rfl, HOY.out, HBY.out⟩
  · have h0' : ((ck : Int) == 0) = false := by simp; omega
    have h0'' : ((ck : Int) != 0) = true := by simp; omega
    obtain rfl := h2.resolve_left h0
    go_wp2_with fail
    go_ret2
    exact .inl ⟨by rw [HCK.out]; exact h0, rfl, hb5⟩
end Go.Proofs.Ythaiplhjekkooaa

/- kit's SameStrings; how long merged edges are. -/
namespace Go.Proofs.Ythaiplhjekkooaa
open Go.RowKit
set_option maxRecDepth 100000 in
set_option maxHeartbeats 2000000 in
theorem kitSameStrs {A A' : Option Addr} {n c c' B B' : Nat} (xs : List ByteArray) (w : World) (h : Rd w B A (xs.map strV)) (h' : Rd w B' A' (xs.map strV)) (hn : xs.length = n) (hnl : n ≤ 9223372036854775807) :
    Calls Try.prog 25 #[.slice A n c, .slice A' n c'] w fun e w' => e = .returned (.bool true) ∧ ∃ d, w' = w.drewN d := by
  have HN := Lib.hid hn
  have HH := Lib.hid h
  have HH' := Lib.hid h'
  have hself : ((n : Int) != (n : Int)) = false := by simp
  clear hn h h'
  go_enter Try.func25, Try.ntmps25
  go_wp2_with fail
  go_loopw [5] (fun i_ wr => ∃ k d : Nat, k ≤ n ∧ i_ = .int .i64 k ∧ wr = w.drewN d) (fun i_ _ => n - (intOf i_).toNat)
  case atStart => exact ⟨0, 0, by omega, rfl, rfl⟩
  case round =>
    obtain ⟨k, d, hk, rfl, rfl⟩ := hrel
    by_cases hlt : k < n
    · have hlt' : (k : Int) < (n : Int) := by omega
      obtain ⟨x, hx⟩ : ∃ x, xs[k]? = some x := ⟨_, List.getElem?_eq_getElem (by rw [HN.out]; exact hlt)⟩
      obtain ⟨b1, o1, e1, hc1⟩ := Rs.get HH.out hx
      obtain ⟨b2, o2, e2, hc2⟩ := Rs.get HH'.out hx
      subst e1 e2
      have hs : (x.toList == x.toList) = true := by simp
      have hs' : (x.toList != x.toList) = false := by rw [bne, hs]; rfl
      clear hx
      go_wp2_with fail
      go_region
      all_goals go_wp2_with fail
      all_goals exact ⟨⟨k + 1, d + 1, by omega, by go_num, rfl⟩, by simp only [intOf]; omega⟩
    · have hlt' : decide ((k : Int) < (n : Int)) = false := by simp; omega
      go_wp2_with fail
      go_ret
      exact ⟨rfl, d, rfl⟩
theorem addAll_lenF : ∀ (xs out o : List Ed), addAll xs out = some o → o.length ≤ out.length + xs.length
  | [], out, o, h => by
    rw [addAll] at h
    cases h
    exact Nat.le_refl _
  | x :: xs, out, o, h => by
    rw [addAll] at h
    split at h
    · have h1 := addAll_lenF xs _ o h
      have h2 := addE_lenU x out
      rw [List.length_cons]
      omega
    · cases h
theorem addOut_lenF (xs : List Ed) : (addOut xs).1.length ≤ xs.length := by
  unfold addOut
  split
  · rename_i o h
    have := addAll_lenF xs [] o h
    simpa using this
  · simp
theorem mergeOut_len (a b : List Ed) : (mergeOut a b).1.length ≤ a.length + b.length := by
  unfold mergeOut
  split
  · simp
  split
  · simp
  · have := addOut_lenF (a ++ b)
    rwa [List.length_append] at this
theorem betOut_len (l : List Ed) (p q : Nat) : (betOut l p q).1.length ≤ l.length := by
  unfold betOut
  split
  · simp
  · exact Nat.le_trans (addOut_lenF _) (List.length_filterMap_le _ _)
theorem callsIs_len {l : List Ed} {s : ByteArray} {out : List ByteArray} (h : CallsIs l s out) : out.length ≤ l.length := by
  obtain ⟨-, L, h2, h3⟩ := h
  rw [h3.length_eq]
  exact Rch.len h2.nd h2.rch
end Go.Proofs.Ythaiplhjekkooaa

/- The statement DepsNames: the worked examples of the chapter on calls. The walk. -/
namespace Go.Proofs.Ythaiplhjekkooaa
open Go.RowKit

def eAB (b n : Nat) : Ed := ⟨b, ⟨#[97]⟩, ⟨#[98]⟩, n⟩
def eAC (n : Nat) : Ed := ⟨0, ⟨#[97]⟩, ⟨#[99]⟩, n⟩
def eBC (n : Nat) : Ed := ⟨0, ⟨#[98]⟩, ⟨#[99]⟩, n⟩
theorem nmB1 : betOut exO 0 1 = ([eAB 0 2], 0) := by decide +kernel
theorem nmB2 : betOut exO 1 1 = ([eAB 0 1], 0) := by decide +kernel
theorem nmM : mergeOut exO [eAC 2] = ([eAB 0 1, eAC 2, eAB 1 1], 0) := by decide +kernel
theorem nmC0 : edChk [eAB 0 1, eBC 1] = 0 := by decide +kernel
theorem nmC : CallsIs [eAB 0 1, eBC 1] ⟨#[97]⟩ [⟨#[98]⟩, ⟨#[99]⟩] := by
  refine ⟨?_, [⟨#[98]⟩, ⟨#[99]⟩], ⟨by decide +kernel, fun x hx => ?_, fun e he hf => ?_⟩, List.Perm.refl _⟩
  · unfold SortT
    decide +kernel
  · have h1 : Rch [eAB 0 1, eBC 1] ⟨#[97]⟩ (eAB 0 1).t := .one (by simp) rfl
    have h2 : Rch [eAB 0 1, eBC 1] ⟨#[97]⟩ (eBC 1).t := .more (by simp) h1
    simp only [List.mem_cons, List.not_mem_nil, or_false] at hx
    rcases hx with rfl | rfl
    · exact h1
    · exact h2
  · simp only [List.mem_cons, List.not_mem_nil, or_false] at he
    rcases he with rfl | rfl
    · exact List.mem_cons_self ..
    · exact List.mem_cons_of_mem _ (List.mem_cons_self ..)
theorem rd_eds1 (w : World) (e : Ed) : RbD (w.alloc (.cells (edA e) 47)) (w.alloc (.cells (edA e) 47)).heap.size (some ⟨w.heap.size, 0, none⟩) [e] := by
  have h := Rd.lit w (edA e) 47
  rw [World.size_alloc]
  exact h
theorem rd_eds2 (w : World) (e f : Ed) : RbD (w.alloc (.cells (edA e ++ edA f) 47)) (w.alloc (.cells (edA e ++ edA f) 47)).heap.size (some ⟨w.heap.size, 0, none⟩) [e, f] := by
  have h := Rd.lit w (edA e ++ edA f) 47
  rw [World.size_alloc]
  exact h
theorem rd_eds3 (w : World) (e f g : Ed) : RbD (w.alloc (.cells (edA e ++ edA f ++ edA g) 47)) (w.alloc (.cells (edA e ++ edA f ++ edA g) 47)).heap.size (some ⟨w.heap.size, 0, none⟩) [e, f, g] := by
  have h := Rd.lit w (edA e ++ edA f ++ edA g) 47
  rw [World.size_alloc]
  exact h
/-- What the law holds, in a world. -/
structure Nm (w W : World) (A2 A3 A4 : Option Addr) : Prop where
  b : Below w.heap.size w W
  r : RbD W W.heap.size A2 exO
  s : RbD W W.heap.size A3 [eAB 0 2]
  t : RbD W W.heap.size A4 [eAB 0 1]
theorem Nm.go {w W W' : World} {A2 A3 A4 : Option Addr} (h : Nm w W A2 A3 A4) (hb : Below W.heap.size W W') : Nm w W' A2 A3 A4 :=
  ⟨h.b.trans (hb.mono h.b.size), Rd.belowS h.r hb, Rd.belowS h.s hb, Rd.belowS h.t hb⟩
theorem Nm.alloc {w W : World} {A2 A3 A4 : Option Addr} (h : Nm w W A2 A3 A4) (o : Obj) : Nm w (W.alloc o) A2 A3 A4 := h.go ((Below.refl _ W).alloc (Nat.le_refl _) o)
theorem Nm.drewN {w W : World} {A2 A3 A4 : Option Addr} (h : Nm w W A2 A3 A4) (d : Nat) : Nm w (W.drewN d) A2 A3 A4 := h.go (below_drewN (Below.refl _ W) d)
set_option maxRecDepth 100000 in
set_option maxHeartbeats 8000000 in
theorem depsNames_walk (w : World) : Calls Try.prog 6 #[] w fun e w' => e = .returned (.bool true) ∧ Below w.heap.size w w' := by
  go_enter Try.func6, Try.ntmps6
  go_wp2_with fail
  refine (lawExample w).mono ?_
  rintro e w1 ⟨b, c, rfl, hr1, hb1⟩
  have ce := edLaw (c := c) exL 10 w1 hr1 (n := 4) rfl (Nat.le_refl _) (by omega) (by omega) (by omega) (fun e he => by
    simp only [exL, List.mem_cons, List.not_mem_nil, or_false] at he
    rcases he with rfl | rfl | rfl | rfl <;> simp [exE, lawA])
  rw [exOut] at ce
  go_wp2_with fail
  refine ce.mono ?_
  rintro e w2 ⟨A2, c2, rfl, hown2, hb2⟩
  have hb02 := hb1.trans (hb2.mono hb1.size)
  have r2 : RbD w2 w2.heap.size A2 exO := Rd.of_own hown2
  have cb1 := deBetween (c := c2) (n := exO.length) exO 0 1 w2 r2 rfl (Nat.le_refl _) (by decide)
  rw [nmB1] at cb1
  clear ce hr1 hb1 hb2 hown2
  go_wp2_with fail
  refine cb1.mono ?_
  rintro e w3 ⟨A3, c3, rfl, own3, hb3⟩
  have hb03 := hb02.trans (hb3.mono hb02.size)
  have r3 := Rd.belowS r2 hb3
  have s3 : RbD w3 w3.heap.size A3 [eAB 0 2] := Rd.of_own own3
  have cb2 := deBetween (c := c2) (n := exO.length) exO 1 1 w3 r3 rfl (Nat.le_refl _) (by decide)
  rw [nmB2] at cb2
  clear cb1 hb02 hb3 own3 r2
  go_wp2_with fail
  refine cb2.mono ?_
  rintro e w4 ⟨A4, c4, rfl, own4, hb4⟩
  have nm4 : Nm w w4 A2 A3 A4 := ⟨hb03.trans (hb4.mono hb03.size), Rd.belowS r3 hb4, Rd.belowS s3 hb4, Rd.of_own own4⟩
  clear cb2 hb03 hb4 own4 r3 s3
  go_wp2_with fail
  refine (lawEdge (eAC 2) w4).mono ?_
  rintro e w5 ⟨rfl, hb5⟩
  have nm6 := (nm4.go hb5).alloc (.cells (edA (eAC 2)) 47)
  have cm := deMerge (c1 := c2) (c2 := 1) (n1 := exO.length) (n2 := 1) exO [eAC 2] _ nm6.r (rd_eds1 w5 (eAC 2)) rfl rfl (Nat.le_refl _) (by decide) (by omega)
  rw [nmM] at cm
  have CM := Lib.hid cm
  have N6 := Lib.hid nm6
  clear nm4 hb5 nm6 cm
  go_wp2_with fail
  refine CM.out.mono ?_
  rintro e w7 ⟨A7, c7, rfl, own7, hb7⟩
  have nm7 := N6.out.go hb7
  have u7 : RbD w7 w7.heap.size A7 [eAB 0 1, eAC 2, eAB 1 1] := Rd.of_own own7
  clear CM N6 hb7 own7
  go_wp2_with fail
  refine (lawEdge (eAB 0 1) w7).mono ?_
  rintro e w8 ⟨rfl, hb8⟩
  have nm8 := nm7.go hb8
  have u8 := Rd.belowS u7 hb8
  clear nm7 u7 hb8
  go_wp2_with fail
  refine (lawEdge (eBC 1) w8).mono ?_
  rintro e w9 ⟨rfl, hb9⟩
  have nm10 := (nm8.go hb9).alloc (.cells (edA (eAB 0 1) ++ edA (eBC 1)) 47)
  have u10 := Rd.belowS u8 (hb9.alloc hb9.size (.cells (edA (eAB 0 1) ++ edA (eBC 1)) 47))
  have cc := deCalls (c := 2) (n := 2) [eAB 0 1, eBC 1] ⟨#[97]⟩ _ (rd_eds2 w9 (eAB 0 1) (eBC 1)) rfl (Nat.le_refl _) (by omega)
  have N10 := Lib.hid nm10
  have U10 := Lib.hid u10
  have CC := Lib.hid cc
  clear nm8 u8 hb9 nm10 u10 cc
  go_wp2_with fail
  refine CC.out.mono ?_
  rintro e w11 (⟨h1, -⟩ | ⟨-, A11, c11, out, his, rfl, own11, hb11⟩)
  · exact absurd nmC0 h1
  obtain rfl := his.eq nmC
  have nm11 := N10.out.go hb11
  have u11 := Rd.belowS U10.out hb11
  have v11 : Rd w11 w11.heap.size A11 (([⟨#[98]⟩, ⟨#[99]⟩] : List ByteArray).map strV) := Rd.of_own own11
  clear CC N10 U10 his hb11 own11
  go_wp2_with fail
  refine (deLives w11).mono ?_
  rintro e w12 ⟨rfl, hb12⟩
  have nm12 := nm11.go hb12
  have u12 := Rd.belowS u11 hb12
  have v12 := Rd.belowS v11 hb12
  clear nm11 u11 v11 hb12
  go_wp2_with fail
  refine (lawEdge (eAB 0 2) w12).mono ?_
  rintro e w13 ⟨rfl, hb13⟩
  have hal := hb13.alloc hb13.size (.cells (edA (eAB 0 2)) 47)
  have nm14 := nm12.go hal
  have u14 := Rd.belowS u12 hal
  have v14 := Rd.belowS v12 hal
  have s1 := kitSameEds (c := c3) (c' := 1) (n := 1) (n' := 1) [eAB 0 2] [eAB 0 2] _ nm14.s (rd_eds1 w13 (eAB 0 2)) rfl rfl (by omega)
  rw [decide_eq_true rfl] at s1
  have S1 := Lib.hid s1
  have N14 := Lib.hid nm14
  have U14 := Lib.hid u14
  have V14 := Lib.hid v14
  clear nm12 u12 v12 hb13 hal nm14 u14 v14 s1
  go_wp2_with fail
  refine S1.out.mono ?_
  rintro e w' ⟨rfl, d1, rfl⟩
  have nm15 := N14.out.drewN d1
  have u15 := Rd.belowS U14.out (below_drewN (Below.refl _ _) d1)
  have v15 := Rd.belowS V14.out (below_drewN (Below.refl _ _) d1)
  obtain ⟨w15, hw15⟩ : ∃ k, (w13.alloc (.cells (edA (eAB 0 2)) 47)).drewN d1 = k := ⟨_, rfl⟩
  rw [hw15] at nm15 u15 v15 ⊢
  clear hw15 S1 N14 U14 V14
  go_wp2_with fail
  refine (lawEdge (eAB 0 1) w15).mono ?_
  rintro e w16 ⟨rfl, hb16⟩
  have hal := hb16.alloc hb16.size (.cells (edA (eAB 0 1)) 47)
  have nm17 := nm15.go hal
  have u17 := Rd.belowS u15 hal
  have v17 := Rd.belowS v15 hal
  have s1 := kitSameEds (c := c4) (c' := 1) (n := 1) (n' := 1) [eAB 0 1] [eAB 0 1] _ nm17.t (rd_eds1 w16 (eAB 0 1)) rfl rfl (by omega)
  rw [decide_eq_true rfl] at s1
  have S1 := Lib.hid s1
  have N17 := Lib.hid nm17
  have U17 := Lib.hid u17
  have V17 := Lib.hid v17
  clear nm15 u15 v15 hb16 hal nm17 u17 v17 s1
  go_wp2_with fail
  refine S1.out.mono ?_
  rintro e w' ⟨rfl, d2, rfl⟩
  have nm18 := N17.out.drewN d2
  have u18 := Rd.belowS U17.out (below_drewN (Below.refl _ _) d2)
  have v18 := Rd.belowS V17.out (below_drewN (Below.refl _ _) d2)
  obtain ⟨w18, hw18⟩ : ∃ k, (w16.alloc (.cells (edA (eAB 0 1)) 47)).drewN d2 = k := ⟨_, rfl⟩
  rw [hw18] at nm18 u18 v18 ⊢
  clear hw18 S1 N17 U17 V17
  go_wp2_with fail
  refine (lawEdge (eAB 0 1) w18).mono ?_
  rintro e w19 ⟨rfl, hb19⟩
  have nm19 := nm18.go hb19
  have u19 := Rd.belowS u18 hb19
  have v19 := Rd.belowS v18 hb19
  clear nm18 u18 v18 hb19
  go_wp2_with fail
  refine (lawEdge (eAC 2) w19).mono ?_
  rintro e w20 ⟨rfl, hb20⟩
  have nm20 := nm19.go hb20
  have u20 := Rd.belowS u19 hb20
  have v20 := Rd.belowS v19 hb20
  clear nm19 u19 v19 hb20
  go_wp2_with fail
  refine (lawEdge (eAB 1 1) w20).mono ?_
  rintro e w21 ⟨rfl, hb21⟩
  have hal := hb21.alloc hb21.size (.cells (edA (eAB 0 1) ++ edA (eAC 2) ++ edA (eAB 1 1)) 47)
  have nm22 := nm20.go hal
  have u22 := Rd.belowS u20 hal
  have v22 := Rd.belowS v20 hal
  have s1 := kitSameEds (c := c7) (c' := 3) (n := 3) (n' := 3) [eAB 0 1, eAC 2, eAB 1 1] [eAB 0 1, eAC 2, eAB 1 1] _ u22 (rd_eds3 w21 (eAB 0 1) (eAC 2) (eAB 1 1)) rfl rfl (by omega)
  rw [decide_eq_true rfl] at s1
  have S1 := Lib.hid s1
  have N22 := Lib.hid nm22
  have V22 := Lib.hid v22
  clear nm20 u20 v20 hb21 hal nm22 u22 v22 s1
  go_wp2_with fail
  refine S1.out.mono ?_
  rintro e w' ⟨rfl, d3, rfl⟩
  have nm23 := N22.out.drewN d3
  have v23 := Rd.belowS V22.out (below_drewN (Below.refl _ _) d3)
  obtain ⟨w23, hw23⟩ : ∃ k, (w21.alloc (.cells (edA (eAB 0 1) ++ edA (eAC 2) ++ edA (eAB 1 1)) 47)).drewN d3 = k := ⟨_, rfl⟩
  rw [hw23] at nm23 v23 ⊢
  clear hw23 S1 N22 V22
  have hal := (Below.refl w23.heap.size w23).alloc (Nat.le_refl _) (.cells #[.string ⟨#[98]⟩, .string ⟨#[99]⟩] 9)
  have nm24 := nm23.go hal
  have v24 := Rd.belowS v23 hal
  have x24 : Rd (w23.alloc (.cells #[.string ⟨#[98]⟩, .string ⟨#[99]⟩] 9)) (w23.heap.size + 1) (some ⟨w23.heap.size, 0, none⟩) (([⟨#[98]⟩, ⟨#[99]⟩] : List ByteArray).map strV) := Rd.lit w23 #[.string ⟨#[98]⟩, .string ⟨#[99]⟩] 9
  have s1 := kitSameStrs (c := c11) (c' := 2) (n := 2) [⟨#[98]⟩, ⟨#[99]⟩] _ v24 x24 rfl (by omega)
  have S1 := Lib.hid s1
  have N24 := Lib.hid nm24
  clear nm23 v23 hal nm24 v24 x24 s1
  go_wp2_with fail
  refine S1.out.mono ?_
  rintro e w' ⟨rfl, d4, rfl⟩
  have hfin := (N24.out.drewN d4).b
  go_wp2_with fail
  go_ret
  exact ⟨rfl, hfin⟩
end Go.Proofs.Ythaiplhjekkooaa

/- The statement DepsNames, out of its walk. -/
namespace Go.Proofs.Ythaiplhjekkooaa
open Go.ChangeShapes Go.WideShapes Go.ChangeAt Go.RowKit
open Go.ChangeMaps (open_string shut_string)

set_option maxRecDepth 100000 in
theorem depsNames_lifted (os : Os) (started : os.Started) (H : Type) (enc : TypeId × Value → H) :
    ReturnsInHanded {} Try.checked os 6 .any (Rows.depsNamesSpec.pre6 enc Try.prog Try.f6 Rows.depsNamesRow.domain false) (Rows.depsNamesSpec.post enc Try.prog Try.f6 false true false false) := by
  refine returnsInHanded_of_change (C := Try.checked) ownKnob_none started (by kernel_rfl) Try.func6
    (ChangeSpec.witness6 (enc := enc) (C := Try.checked) false ⟨#[], #[], []⟩ 8 (by kernel_rfl) (by kernel_rfl) (by kernel_rfl) (by kernel_rfl)) ?_
  intro W base args ds gs before hval0 hW _ _
  have hval : ∀ (j : Nat) t v, Try.f6.params[j]? = some t → args[j]? = some v → Value.okWide Try.prog W .any base t v := hval0
  have hW' := hW
  obtain ⟨p, q, hA0, hV, rfl, hfz, hnd⟩ := hW
  have hA : DataW.TrodAll enc Try.prog W 0 (fun _ => true) true Try.f6.params.toList args.toList ds p := hA0
  rw [Try.params6] at hA hval
  obtain ⟨hargs, rfl, rfl⟩ := trodAll_nil hA
  obtain rfl : args = #[] := by cases args; simp_all
  obtain ⟨rfl, rfl⟩ := trodVars_none hV
  clear hA0 hval0
  refine (depsNames_walk  W ).mono fun e W' ⟨he, bel⟩ => ?_
  subst he
  exact ⟨_, rfl, _, _, _, [], _, [], hW', trodAll_mk1 (shut_bool Try.underlying4 _), trodAll_mk0, rfl, bel.frame _, fun h => by cases h⟩

/-- DepsNames: for every input the law returns true, and what came in reads as it did. -/
theorem depsNames_holds : Rows.DepsNamesSaid :=
  OpenClaim.holds_of_wide 6 Try.f6 rfl rfl rfl rfl rfl rfl rfl ⟨rfl, rfl, rfl, rfl, rfl⟩ rfl rfl rfl rfl rfl (by kernel_rfl) Try.func6 (by kernel_rfl)
    (of_decide_eq_true (by kernel_rfl)) (by unfold Func.isWrapper; first | (rw [if_pos (by decide +kernel)]; kernel_rfl) | (rw [if_neg (by decide +kernel)]; exact ⟨rfl, rfl⟩))
    (fun os started H enc _ => depsNames_lifted os started H enc)
#print axioms depsNames_holds
end Go.Proofs.Ythaiplhjekkooaa
