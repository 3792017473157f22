/- Spans: Tag, Copy; the document's answer: Tag, IDText, TraceText. -/
import Derived.Test.YtohnpogoldbplaaSpG
import Derived.Test.YtohnpogoldbplaaSpC
import Derived.Laws.ResultCell
import Derived.Laws.Tables
import Derived.Deep.Cut
import Derived.Test.YtohnpogoldbplaaSpQ
import Derived.Test.YtohnpogoldbplaaSpI
namespace Go.Proofs.Ytohnpogoldbplaa
open Go.RowKit

/-- A tag's value, if it is there. -/
def tagOf (l : List Tg) (k : ByteArray) : Option ByteArray := (l.find? fun t => decide (t.key = k)).map (·.val)
def tagVal (l : List Tg) (k : ByteArray) : ByteArray := (tagOf l k).getD ⟨#[]⟩
def tagIs (l : List Tg) (k : ByteArray) : Bool := (tagOf l k).isSome
theorem tagOf_hit {l : List Tg} {k : ByteArray} {j : Nat} {x : Tg} (h : (l.take j).any (fun t => decide (t.key = k)) = false) (hx : l[j]? = some x) (hp : x.key = k) : tagOf l k = some x.val := by
  have hj := (List.getElem?_eq_some_iff.1 hx).1
  have : l.find? (fun t => decide (t.key = k)) = some x := by
    rw [List.find?_eq_some_iff_getElem]
    refine ⟨by simpa using hp, j, hj, (List.getElem?_eq_some_iff.1 hx).2, fun i hi => ?_⟩
    have h1 := List.any_eq_false.1 h (l[i]'(by omega)) (List.mem_of_getElem? (i := i) (by rw [List.getElem?_take, if_pos hi]; exact List.getElem?_eq_getElem _))
    simpa using h1
  rw [tagOf, this]
  rfl
theorem tagOf_none {l : List Tg} {k : ByteArray} (h : l.any (fun t => decide (t.key = k)) = false) : tagOf l k = none := by
  have : l.find? (fun t => decide (t.key = k)) = none := by
    rw [List.find?_eq_none]
    intro x hx
    have := List.any_eq_false.1 h x hx
    simpa using this
  rw [tagOf, this]
  rfl

set_option maxRecDepth 100000 in
set_option maxHeartbeats 2000000 in
theorem rTag {A : Option Addr} {c n B : Nat} (s : Sp) (k : ByteArray) (w : World) (hf : RbT w B A s.tags) (hn : s.tags.length = n) (hB : B ≤ w.heap.size) (hnl : n ≤ 9223372036854775807) :
    Calls Try.prog 18 #[spV s A n c, .string k] w fun e w' => e = .returned (.tuple #[.string (tagVal s.tags k), .bool (tagIs s.tags k)]) ∧ Below w.heap.size w w' := by
  have hb0 : Below w.heap.size w (w.alloc (.cells (spC s A n c) 27)) := (Below.refl _ w).alloc (Nat.le_refl _) _
  have hf1 := Rd.alloc hf hB (.cells (spC s A n c) 27)
  have bk := Bk.new w 27 (spC s A n c)
  obtain ⟨w1, hw1⟩ : ∃ w1, w.alloc (.cells (spC s A n c) 27) = w1 := ⟨_, rfl⟩
  rw [hw1] at hb0 hf1 bk
  have HW := Lib.hid hw1
  obtain ⟨g, hg⟩ : ∃ g, w.heap.size = g := ⟨_, rfl⟩
  rw [hg] at bk
  have HG := Lib.hid hg
  have HN := Lib.hid hn
  have HB0 := Lib.hid hb0
  have k10 : w1.cell? ⟨g, 10, none⟩ = some (.slice A n c) := bk.cell 10
  obtain ⟨v, hv⟩ : ∃ v, tagVal s.tags k = v := ⟨_, rfl⟩
  obtain ⟨i, hi⟩ : ∃ i, tagIs s.tags k = i := ⟨_, rfl⟩
  rw [hv, hi]
  have HV := Lib.hid (And.intro hv hi)
  clear hw1 hg hn hb0 hf bk hv hi
  go_enter Try.func18, Try.ntmps18
  go_upto_region 1 with fail
  rw [HW.out, HG.out]
  go_wp2
  go_loopw [6] (fun iv_ wr => ∃ j : Nat, j ≤ n ∧ iv_ = .int .i64 j ∧ (s.tags.take j).any (fun t => decide (t.key = k)) = false ∧ wr = w1) (fun i _ => n - (intOf i).toNat)
  case atStart => exact ⟨0, by omega, rfl, rfl, rfl⟩
  case round =>
    obtain ⟨j, hj, rfl, hall, rfl⟩ := hrel
    have HA := Lib.hid hall
    clear hall
    by_cases hlt : j < n
    · have hlt' : (j : Int) < (n : Int) := by omega
      obtain ⟨x, hx⟩ : ∃ x, s.tags[j]? = some x := ⟨_, List.getElem?_eq_getElem (by rw [HN.out]; exact hlt)⟩
      obtain ⟨b, o, rfl, hbb, c1, c2⟩ := RbT.get hf1 hx
      have HX := Lib.hid hx
      clear hx
      by_cases he : x.key = k
      · have d1 : (x.key.toList == k.toList) = true := by rw [strEq_of', decide_eq_true_iff]; exact he
        have ht := tagOf_hit HA.out HX.out he
        have hv := HV.out
        rw [tagVal, tagIs, ht] at hv
        have HR := Lib.hid hv
        clear ht hv he
        go_wp2
        go_ret2
        exact ⟨by rw [← HR.out.1, ← HR.out.2]; rfl, HB0.out⟩
      · have d1 : (x.key.toList == k.toList) = false := by rw [strEq_of', decide_eq_false_iff_not]; exact he
        have hst : (s.tags.take (j + 1)).any (fun t => decide (t.key = k)) = false := by rw [take_snoc HX.out, List.any_append, HA.out]; simp [he]
        have HST := Lib.hid hst
        clear hst he
        go_wp2
        go_roundw
        case rel => exact ⟨j + 1, by omega, by go_num, HST.out, by first | rfl | trivial⟩
        case measure => simp [intOf]; omega
    · have hlt' : decide ((j : Int) < (n : Int)) = false := by simp; omega
      have h1 := HA.out
      rw [List.take_of_length_le (by rw [HN.out]; omega)] at h1
      have ht := tagOf_none h1
      have hv := HV.out
      rw [tagVal, tagIs, ht] at hv
      have HR := Lib.hid hv
      clear ht hv h1
      go_wp2
      go_ret2
      exact ⟨by rw [← HR.out.1, ← HR.out.2]; rfl, HB0.out⟩

theorem spTag1 {gk : Nat} (W : World) (t : Tg) (k : ByteArray) (hk : W.cell? ⟨gk, 0, none⟩ = some (.string k)) (hlt : gk < W.heap.size) :
    Calls Try.prog 56 #[.agg #[.string t.key, .string t.val], .pointer (some ⟨gk, 0, none⟩)] W fun e W' => e = .returned (.bool (decide (t.key = k))) ∧ Below W.heap.size W W' := by
  have hk1 := (World.cell?_alloc_lt W (.cells #[.string t.key, .string t.val] 42) ⟨gk, 0, none⟩ hlt).trans hk
  have d1 : decide (t.key = k) = (t.key.toList == k.toList) := strEq_of'.symm
  rw [d1]
  clear d1
  go_enter Try.func56, Try.ntmps56
  go_wp2
  go_ret
  exact ⟨rfl, (Below.refl _ W).alloc (Nat.le_refl _) _⟩

set_option maxHeartbeats 400000 in
theorem spIndexTag {A : Option Addr} {c n B gk : Nat} {l : List Tg} (k : ByteArray) (w : World) (hf : RbT w B A l) (hn : l.length = n) (hB : B ≤ w.heap.size) (hnl : n ≤ 9223372036854775807) (hk : w.cell? ⟨gk, 0, none⟩ = some (.string k)) (hgk : gk < w.heap.size) :
    Calls Try.prog 55 #[.slice A n c, .func (.func 56) #[] #[.pointer (some ⟨gk, 0, none⟩)]] w fun e w' => e = .returned (.int .i64 (idxT (fun t => decide (t.key = k)) l)) ∧ Below w.heap.size w w' := by
  have HN := Lib.hid hn
  obtain ⟨q, hq⟩ : ∃ q, idxT (fun t => decide (t.key = k)) l = q := ⟨_, rfl⟩
  rw [hq]
  have HQ := Lib.hid hq
  have HK := Lib.hid hk
  clear hn hq hk
  go_enter Try.func55, Try.ntmps55
  go_wp2
  go_loopw [8] (fun iv_ wr => ∃ j : Nat, j ≤ n ∧ iv_ = .int .i64 j ∧ (l.take j).any (fun t => decide (t.key = k)) = false ∧ Below w.heap.size w wr) (fun i _ => n - (intOf i).toNat)
  case atStart => exact ⟨0, by omega, rfl, rfl, Below.refl _ _⟩
  case round =>
    obtain ⟨j, hj, rfl, hall, hb⟩ := hrel
    have HA := Lib.hid hall
    clear hall
    have hsr := hb.size
    by_cases hlt : j < n
    · have hlt' : (j : Int) < (n : Int) := by omega
      obtain ⟨x, hx⟩ : ∃ x, l[j]? = some x := ⟨_, List.getElem?_eq_getElem (by rw [HN.out]; exact hlt)⟩
      obtain ⟨b, o, rfl, hbb, h1, h2⟩ := RbT.get (Rd.below hf (hb.mono hB)) hx
      have hc := spTag1 wr x k ((hb.cell (p := ⟨gk, 0, none⟩) hgk).trans HK.out) (by omega)
      have HX := Lib.hid hx
      obtain ⟨p, hp⟩ : ∃ p, decide (x.key = k) = p := ⟨_, rfl⟩
      rw [hp] at hc
      have HP := Lib.hid hp
      have HC := Lib.hid hc
      clear hx hp hc
      cases p with
      | true =>
        go_wp2_with (go_at_call 56; refine HC.out.mono ?_; rintro e w' ⟨rfl, hb'⟩)
        have hb2 := hb.trans (hb'.mono hb.size)
        go_ret
        have hqt : q = (j : Int) := by
          rw [← HQ.out]
          exact idxT_hit HA.out HX.out HP.out
        exact ⟨by rw [hqt]; rfl, hb2⟩
      | false =>
        go_wp2_with (go_at_call 56; refine HC.out.mono ?_; rintro e w' ⟨rfl, hb'⟩)
        have hb2 := hb.trans (hb'.mono hb.size)
        go_roundw
        case rel => exact ⟨j + 1, by omega, by go_num, by rw [take_snoc HX.out, List.any_append, HA.out]; simpa using HP.out, hb2⟩
        case measure => simp [intOf]; omega
    · have hlt' : decide ((j : Int) < (n : Int)) = false := by simp; omega
      go_wp2
      go_ret
      have : q = -1 := by
        rw [← HQ.out]
        have h1 := HA.out
        rw [List.take_of_length_le (by rw [HN.out]; omega)] at h1
        exact idxT_none h1
      exact ⟨by rw [this]; rfl, hb⟩

theorem idxT_find {l : List Tg} {k : ByteArray} : (idxT (fun t => decide (t.key = k)) l = -1 ∧ tagOf l k = none) ∨ ∃ (j : Nat) (x : Tg), idxT (fun t => decide (t.key = k)) l = j ∧ l[j]? = some x ∧ tagOf l k = some x.val := by
  cases hf : l.findIdx? (fun t => decide (t.key = k)) with
  | none =>
    have h := List.findIdx?_eq_none_iff.1 hf
    exact .inl ⟨by rw [idxT, hf], tagOf_none (List.any_eq_false.2 fun x hx => by rw [h x hx]; simp)⟩
  | some j =>
    obtain ⟨hj, h1, h2⟩ := List.findIdx?_eq_some_iff_getElem.1 hf
    refine .inr ⟨j, l[j], by rw [idxT, hf], List.getElem?_eq_getElem hj, ?_⟩
    have h3 : (l.take j).any (fun t => decide (t.key = k)) = false := by
      rw [List.any_eq_false]
      intro x hx
      obtain ⟨i, hi, rfl⟩ := List.mem_take_iff_getElem.1 hx
      exact h2 i (by omega)
    exact tagOf_hit h3 (List.getElem?_eq_getElem hj) (by simpa using h1)

set_option maxRecDepth 100000 in
set_option maxHeartbeats 2000000 in
theorem spTag {A : Option Addr} {c n B : Nat} (s : Sp) (k : ByteArray) (w : World) (hf : RbT w B A s.tags) (hn : s.tags.length = n) (hB : B ≤ w.heap.size) (hnl : n ≤ 9223372036854775807) :
    Calls Try.prog 17 #[spV s A n c, .string k] w fun e w' => e = .returned (.tuple #[.string (tagVal s.tags k), .bool (tagIs s.tags k)]) ∧ Below w.heap.size w w' := by
  have hb0 : Below w.heap.size w ((w.alloc (.cells (spC s A n c) 27)).alloc (.cells #[.string k] 9)) := ((Below.refl _ w).alloc (Nat.le_refl _) _).alloc (by simp) _
  have hf1 := Rd.below hf (hb0.mono hB)
  have bk := (Bk.new w 27 (spC s A n c)).alloc (.cells #[.string k] 9)
  have bs := Bk.new (w.alloc (.cells (spC s A n c) 27)) 9 #[.string k]
  rw [World.size_alloc] at bs
  obtain ⟨w1, hw1⟩ : ∃ w1, (w.alloc (.cells (spC s A n c) 27)).alloc (.cells #[.string k] 9) = w1 := ⟨_, rfl⟩
  rw [hw1] at hb0 hf1 bk bs
  have HW := Lib.hid hw1
  obtain ⟨g, hg⟩ : ∃ g, w.heap.size = g := ⟨_, rfl⟩
  rw [hg] at bk bs
  have HG := Lib.hid hg
  have HN := Lib.hid hn
  have HB0 := Lib.hid hb0
  have k10 : w1.cell? ⟨g, 10, none⟩ = some (.slice A n c) := bk.cell 10
  have hc := spIndexTag (c := c) k w1 hf1 hn (by have := hb0.size; omega) hnl (bs.cell 0) bs.lt
  have hfind := idxT_find (l := s.tags) (k := k)
  obtain ⟨q, hq⟩ : ∃ q, idxT (fun t => decide (t.key = k)) s.tags = q := ⟨_, rfl⟩
  rw [hq] at hc hfind
  have HC := Lib.hid hc
  clear hw1 hg hn hb0 hf hq hc
  rcases hfind with ⟨rfl, ht⟩ | ⟨j, x, rfl, hx, ht⟩
  · have hv : tagVal s.tags k = ⟨#[]⟩ ∧ tagIs s.tags k = false := by rw [tagVal, tagIs, ht]; exact ⟨rfl, rfl⟩
    rw [hv.1, hv.2]
    clear hv ht
    go_enter Try.func17, Try.ntmps17
    go_upto_region 1 with fail
    rw [HW.out, HG.out]
    go_wp2_with (go_at_call 55; refine HC.out.mono ?_; rintro e w' ⟨rfl, hb'⟩)
    go_ret2
    exact ⟨rfl, HB0.out.trans (hb'.mono HB0.out.size)⟩
  · have hv : tagVal s.tags k = x.val ∧ tagIs s.tags k = true := by rw [tagVal, tagIs, ht]; exact ⟨rfl, rfl⟩
    rw [hv.1, hv.2]
    have hjn : j < n := by have := (List.getElem?_eq_some_iff.1 hx).1; rw [HN.out] at this; exact this
    have hjn' : (j : Int) < (n : Int) := by omega
    have hsz : B ≤ w1.heap.size := Nat.le_trans hB HB0.out.size
    have HX := Lib.hid hx
    clear hv ht hx
    go_enter Try.func17, Try.ntmps17
    go_upto_region 1 with fail
    rw [HW.out, HG.out]
    go_wp2_with fail
    refine HC.out.mono ?_
    rintro e w' ⟨rfl, hb'⟩
    have bk2 := bk.below hb' bk.lt
    have k10' : w'.cell? ⟨g, 10, none⟩ = some (.slice A n c) := bk2.cell 10
    obtain ⟨b, o, rfl, hbb, c1, c2⟩ := RbT.get (Rd.below hf1 (hb'.mono hsz)) HX.out
    go_wp2
    go_ret2
    exact ⟨rfl, HB0.out.trans (hb'.mono HB0.out.size)⟩


@[go_sem] theorem nil_eq_tags (W : World) (a : Option Addr) (n c n' c' : Nat) : (binOp .eql 25 (.slice a n c) (.slice none n' c')).run Try.prog W = .ok (.bool a.isNone) W :=
  Lib.run_eql_slice_nil W _ _ a n c n' c' Try.underlying25
theorem wpList_appTg (w : World) {ops : Array Oper} {rest : List Oper} {o : Oper} {a : Act} {Q : Exit → Act → World → Prop} (hgd : o.guard = none) (s x : Operand)
    (ho : o.op = .call { callee := .builtin .append, args := #[s, x], argTypes := #[25, 25] })
    (base : Nat) (v : Value) (n : Nat) (l : List Tg) (hs : a.eval s = v) (hown : w.ownsRow base 42 2 v n (tgs l))
    (B : Nat) (A : Option Addr) (m c : Nat) (news : List Tg) (hx : a.eval x = .slice A m c) (hl : news.length = m) (hr : RbT w B A news)
    (hbytes : n + m ≤ 4398046511104) (hbase : base ≤ w.heap.size)
    (h : ∀ A' c' w', App base 42 2 w v w' (.slice A' (n + m) c') (n + m) (tgs (l ++ news)) → (A' = none → v = .slice none 0 0 ∧ m = 0) → wpList Try.prog ops Q rest (a.put o.dst (.slice A' (n + m) c')) w') :
    wpList Try.prog ops Q (o :: rest) a w :=
  wpList_plain hgd fun _ hK => wp_appT w s x ho base v n l hs hown B A m c news hx hl hr hbytes hbase fun A' c' w' h1 h2 => hK _ _ (h A' c' w' h1 h2)

theorem tags_nil {w : World} {B : Nat} {l : List Tg} (h : RbT w B none l) : l = [] := by
  cases l with
  | nil => rfl
  | cons x l =>
    obtain ⟨b, o, e, _⟩ := h (by intro e; have := tgs_length (x :: l); rw [e] at this; simp at this)
    cases e
set_option maxHeartbeats 400000 in
theorem slCloneT {A : Option Addr} {c B n : Nat} {l : List Tg} (w : World) (ha : RbT w B A l) (hB : B ≤ w.heap.size) (hx : n ≤ 4398046511104) (hn : l.length = n) :
    Calls Try.prog 70 #[.slice A n c] w (RetNew 42 2 w n (tgs l) (fun A' => A' = none → A = none)) := by
  subst hn
  cases A with
  | none =>
    obtain rfl : l = [] := tags_nil ha
    go_enter Try.func70, Try.ntmps70
    go_wp2
    go_ret
    exact ⟨none, 0, rfl, App.refl (World.ownsRow_nil _ _ _ _), by simp⟩
  | some a =>
    go_enter Try.func70, Try.ntmps70
    go_wp2_with (at_builtin; go_loud (refine wpList_appTg _ rfl (.tmp 5) (.tmp 6) rfl w.heap.size _ 0 [] rfl (World.ownsRow_lit w #[] 0 (Nat.le_refl _) (by simp [maxLen]) rfl) B _ l.length c l rfl rfl (ha.alloc hB _) (by omega) (by simp) ?_))
    intro A' c' w' happ hne
    go_wp2
    go_ret
    exact ⟨A', c', rfl, happ.fresh1, fun h => absurd h hne⟩

/-- Copy hands back the same span, its tags in memory of its own. -/
def CopyPost (w : World) (s : Sp) (n : Nat) (A : Option Addr) (e : Ending) (w' : World) : Prop :=
  ∃ A' c', e = .returned (.agg (spC s A' n c')) ∧ RbT w' w'.heap.size A' s.tags ∧ Below w.heap.size w w' ∧ n ≤ c' ∧ (∀ a, A' = some a → w.heap.size ≤ a.block) ∧ (A' = none → A = none ∧ n = 0 ∧ c' = 0)

theorem grown_setCell (W : World) (b o : Nat) (v : Value) : W.grownBy (W.setCell ⟨b, o, none⟩ v) (some b) :=
  ⟨rfl, rfl, rfl, by simp, fun i _ hne => Below.heap_setCell W ⟨b, o, none⟩ v i (fun e => hne (by rw [e]))⟩

set_option maxRecDepth 100000 in
set_option maxHeartbeats 2000000 in
theorem spCopy {A : Option Addr} {c n B : Nat} (s : Sp) (w : World) (hf : RbT w B A s.tags) (hn : s.tags.length = n) (hB : B ≤ w.heap.size) (hnl : n ≤ 4398046511104) :
    Calls Try.prog 30 #[spV s A n c] w (CopyPost w s n A) := by
  have hb0 : Below w.heap.size w ((w.alloc (.cells (spC s A n c) 27)).alloc (.cells zspC 27)) := ((Below.refl _ w).alloc (Nat.le_refl _) _).alloc (by simp) _
  have hf1 := Rd.below hf (hb0.mono hB)
  have bk := (Bk.new w 27 (spC s A n c)).alloc (.cells zspC 27)
  have br := Bk.new (w.alloc (.cells (spC s A n c) 27)) 27 zspC
  rw [World.size_alloc] at br
  have hs1 : ((w.alloc (.cells (spC s A n c) 27)).alloc (.cells zspC 27)).heap.size = w.heap.size + 2 := by simp
  obtain ⟨w1, hw1⟩ : ∃ w1, (w.alloc (.cells (spC s A n c) 27)).alloc (.cells zspC 27) = w1 := ⟨_, rfl⟩
  rw [hw1] at hb0 hf1 bk br hs1
  have HW := Lib.hid hw1
  obtain ⟨g, hg⟩ : ∃ g, w.heap.size = g := ⟨_, rfl⟩
  rw [hg] at bk br
  have HG := Lib.hid hg
  have hg1 : g + 2 ≤ w1.heap.size := by omega
  have hcl := slCloneT (c := c) w1 hf1 (by omega) hnl hn
  have HC := Lib.hid hcl
  have HN := Lib.hid hn
  have k10 : w1.cell? ⟨g, 10, none⟩ = some (.slice A n c) := bk.cell 10
  clear hw1 hg hn hcl hf hs1
  go_enter Try.func30, Try.ntmps30
  go_upto_region 1 with fail
  rw [HW.out, HG.out]
  go_wp2_with fail
  refine HC.out.mono ?_
  rintro e w2 ⟨A', c', rfl, happ, hne⟩
  have hb2 := happ.below0
  have bk2 := bk.below hb2 bk.lt
  have br2 := br.below hb2 br.lt
  have hlo := happ.lo
  have hrd := Rd.of_own happ.own
  have hcap : n ≤ c' ∧ (A' = none → n = 0 ∧ c' = 0) := by
    rcases happ.own.2 with ⟨h1, h2⟩ | ⟨q, cap, cur, h1, _, _, h3, _⟩
    · injection h1 with _ _ h4
      exact ⟨by omega, fun _ => ⟨h2, h4⟩⟩
    · injection h1 with h4 _ h5
      subst h5
      exact ⟨h3, fun h => by rw [h] at h4; cases h4⟩
  have k10b : w2.cell? ⟨g, 10, none⟩ = some (.slice A n c) := bk2.cell 10
  have f10b : w2.frozen? ⟨g, 10, none⟩ = false := bk2.frozen 10
  have bk3 := bk2.set 10 (.slice A' n c')
  have br3 := br2.far (p := ⟨g, 10, none⟩) (by show g + 1 ≠ g; omega) (.slice A' n c')
  have hb3 := (hb0.trans (hb2.mono hb0.size)).setCell (p := ⟨g, 10, none⟩) (by show w.heap.size ≤ g; rw [HG.out]; exact Nat.le_refl _) (.slice A' n c')
  have hrd3 := hrd.grownS (grown_setCell w2 g 10 (.slice A' n c')) (fun a ha e => by
    have h1 := (hlo a ha).1
    have h2 := Option.some.inj e
    omega)
  have bk3' : Bk (w2.setCell ⟨g, 10, none⟩ (.slice A' n c')) g 27 (spC s A' n c') := bk3
  obtain ⟨w3, hw3⟩ : ∃ w3, w2.setCell ⟨g, 10, none⟩ (.slice A' n c') = w3 := ⟨_, rfl⟩
  rw [hw3] at bk3' br3 hb3 hrd3
  have HW3 := Lib.hid hw3
  clear hw3 bk3 bk2 br2 hb2 hrd happ HC hf1 bk br
  go_wp2_with (first
    | (refine wpList_load_row rfl 27 (.tmp 1) rfl g rfl 27 (spC s A' n c') (0, 0) _ (by rw [HW3.out]; exact bk3') Try.underlying27 rfl (by rfl) ?_; rw [HW3.out])
    | (refine wpList_store_row rfl 27 (.tmp 2) (.tmp 7) rfl (g + 1) (spC s A' n c') rfl rfl 27 zspC br3 (by rfl) rfl (spC_one s A' n c') ?_))
  try simp only [Exit.inBlock, Exit.then]
  refine bodyPost_ret (results_cell_row rfl _ _ (g + 1) 27 (spC s A' n c') (0, 0) _ rfl (br3.row _) Try.underlying27 rfl (by rfl)) rfl ?_
  refine ⟨A', c', rfl, ?_, ?_, hcap.1, ?_, ?_⟩
  · refine hrd3.grownS (only_row (g + 1) _) (fun a ha e => ?_)
    have h1 := (hlo a ha).1
    have h2 := Option.some.inj e
    omega
  · refine hb3.trans ?_
    exact ⟨rfl, rfl, rfl, by simp [World.setRow], fun i hi => by
      have := HG.out
      have := hb3.size
      simp [World.setRow, Array.getElem?_modify]
      intro e
      omega⟩
  · intro a ha
    have h1 := (hlo a ha).1
    have := hb0.size
    omega
  · intro h
    exact ⟨hne h, (hcap.2 h).1, (hcap.2 h).2⟩


/-- The first j digits. -/
def idP (x j : Nat) : List Int := (List.range j).map fun p => hexD (x / 16 ^ (15 - p) % 16)
theorem idP_all (x : Nat) : idP x 16 = idL x := rfl
theorem idP_len (x j : Nat) : (idP x j).length = j := by simp [idP]
theorem idP_succ (x j : Nat) : idP x (j + 1) = idP x j ++ [hexD (x / 16 ^ (15 - j) % 16)] := by simp [idP, List.range_succ]
theorem strOfNums_append (a b : List Int) : strOfNums (a ++ b) = strOfNums a ++ strOfNums b := by
  apply ByteArray.ext
  apply Array.ext'
  rw [ByteArray.data_append, Array.toList_append, strOfNums_data, strOfNums_data, strOfNums_data, List.map_append]
theorem strOfNums_size (a : List Int) : (strOfNums a).size = a.length := by
  have : (strOfNums a).data.toList.length = a.length := by rw [strOfNums_data, List.length_map]
  rwa [Array.length_toList] at this
theorem digits_cut (z : Nat) (hz : z < 16) : digits16.extract z (z + 1) = strOfNums [hexD z] := by
  have key : ∀ z : Nat, z < 16 → (digits16.extract z (z + 1)).data.toList = [hexD z].map fun n => UInt8.ofNat n.toNat := by decide +kernel
  apply ByteArray.ext
  apply Array.ext'
  rw [strOfNums_data]
  exact key z hz

set_option maxHeartbeats 800000 in
theorem rIDText {x : Nat} (w : World) (hx : x < 18446744073709551616) :
    Calls Try.prog 29 #[.int .u64 (x : Nat)] w fun e w' => e = .returned (.string (strOfNums (idL x))) ∧ w' = w := by
  go_enter Try.func29, Try.ntmps29
  go_wp2
  go_loop [3, 4, 5] (fun sv iv_ _ => ∃ (j : Nat) (i : Int), j ≤ 16 ∧ iv_ = .int .i64 i ∧ 15 - (j : Int) ≤ i ∧ i ≤ 15 - (j : Int) ∧ sv = .string (strOfNums (idP x j))) (fun _ i _ => (intOf i + 1).toNat)
  case atStart => exact ⟨0, 15, by omega, rfl, by omega, by omega, rfl⟩
  case round =>
    obtain ⟨j, i, hj, rfl, hi1, hi2, rfl⟩ := hrel
    have hus : (strOfNums (idP x j)).size = j := by rw [strOfNums_size, idP_len]
    obtain ⟨u, hu⟩ : ∃ u, strOfNums (idP x j) = u := ⟨_, rfl⟩
    rw [hu] at hus ⊢
    have HU := Lib.hid hu
    have hus' : u.size ≤ 16 := by omega
    clear hu hus
    by_cases hlt : j < 16
    · obtain ⟨k, hk⟩ : ∃ k : Nat, 15 - j = k := ⟨_, rfl⟩
      obtain rfl : i = (k : Int) := by omega
      obtain ⟨z, hz⟩ : ∃ z : Nat, x / 16 ^ k % 16 = z := ⟨_, rfl⟩
      have hz16 : z < 16 := by omega
      have hq : x / 16 ^ k < 18446744073709551616 := Nat.lt_of_le_of_lt (Nat.div_le_self _ _) hx
      have hand : bits .and .u64 ((x : Int) / 2 ^ (4 * k)) 15 = (z : Int) := by
        rw [shr_nib k rfl, and15 _ hq, hz]
      have hd := digits_cut z hz16
      obtain ⟨v, hv⟩ : ∃ v, strOfNums [hexD z] = v := ⟨_, rfl⟩
      have hvs : v.size = 1 := by rw [← hv, strOfNums_size]; rfl
      have hcut : (⟨#[48, 49, 50, 51, 52, 53, 54, 55, 56, 57, 97, 98, 99, 100, 101, 102]⟩ : ByteArray).extract z (z + 1) = v := by rw [← hv, ← hd]; rfl
      have hst : u ++ v = strOfNums (idP x (j + 1)) := by rw [idP_succ, strOfNums_append, HU.out, hk, hz, hv]
      have hadd : ∀ W : World, (Op.stringOp .add u v).run Try.prog W = .ok (.string (u ++ v)) W := fun W => run_string_add_sum _ _ _ (by omega)
      have HST := Lib.hid hst
      have HK := Lib.hid hk
      have hvs' : v.size ≤ 1 := by omega
      clear hst hd hv hz hq hk hvs
      go_wp2
      go_round
      case rel => exact ⟨j + 1, _, by omega, rfl, by have := HK.out; omega, by have := HK.out; omega, by rw [HST.out]⟩
      case measure => simp [intOf]
    · obtain rfl : j = 16 := by omega
      have h16 := HU.out
      rw [idP_all] at h16
      have HUU := Lib.hid h16
      go_wp2
      go_ret
      exact ⟨by first | rfl | (rw [HUU.out]; rfl), rfl⟩
set_option maxHeartbeats 800000 in
theorem rTraceText {hi lo : Nat} (w : World) (h1 : hi < 18446744073709551616) (h2 : lo < 18446744073709551616) :
    Calls Try.prog 27 #[.agg #[.int .u64 (hi : Nat), .int .u64 (lo : Nat)]] w fun e w' => e = .returned (.string (strOfNums (idL hi) ++ strOfNums (idL lo))) ∧ Below w.heap.size w w' := by
  obtain ⟨u, hu⟩ : ∃ u, strOfNums (idL hi) = u := ⟨_, rfl⟩
  obtain ⟨v, hv⟩ : ∃ v, strOfNums (idL lo) = v := ⟨_, rfl⟩
  have hus : u.size = 16 := by rw [← hu, ← nums_len, nums_strOf (idL_byt hi)]; simp [idL]
  have hvs : v.size = 16 := by rw [← hv, ← nums_len, nums_strOf (idL_byt lo)]; simp [idL]
  have c1 := fun W => rIDText (x := hi) W h1
  have c2 := fun W => rIDText (x := lo) W h2
  rw [hu] at c1 ⊢
  rw [hv] at c2 ⊢
  have hadd : ∀ W : World, (Op.stringOp .add u v).run Try.prog W = .ok (.string (u ++ v)) W := fun W => run_string_add_sum _ _ _ (by omega)
  have C1 := Lib.hid c1
  have C2 := Lib.hid c2
  have hsum : u.size + v.size ≤ 9223372036854775807 := by omega
  clear hu hv hus hvs c1 c2
  have bk := Bk.new w 24 #[.int .u64 (hi : Nat), .int .u64 (lo : Nat)]
  have hb0 : Below w.heap.size w (w.alloc (.cells #[.int .u64 (hi : Nat), .int .u64 (lo : Nat)] 24)) := (Below.refl _ w).alloc (Nat.le_refl _) _
  have hs1 : (w.alloc (.cells #[.int .u64 (hi : Nat), .int .u64 (lo : Nat)] 24)).heap.size = w.heap.size + 1 := by simp
  obtain ⟨w1, hw1⟩ : ∃ w1, w.alloc (.cells #[.int .u64 (hi : Nat), .int .u64 (lo : Nat)] 24) = w1 := ⟨_, rfl⟩
  rw [hw1] at bk hb0 hs1
  have HW := Lib.hid hw1
  have k0 : w1.cell? ⟨w.heap.size, 0, none⟩ = some (.int .u64 (hi : Nat)) := bk.cell 0
  have k1 : w1.cell? ⟨w.heap.size, 1, none⟩ = some (.int .u64 (lo : Nat)) := bk.cell 1
  clear hw1
  go_enter Try.func27, Try.ntmps27
  go_upto_region 1 with fail
  rw [HW.out]
  obtain ⟨g, hg⟩ : ∃ g, w.heap.size = g := ⟨_, rfl⟩
  rw [hg] at bk k0 k1 hb0 hs1 ⊢
  have g0 : w1.drew.cell? ⟨g, 0, none⟩ = some (.int .u64 (hi : Nat)) := k0
  have g1 : w1.drew.cell? ⟨g, 1, none⟩ = some (.int .u64 (lo : Nat)) := k1
  go_quiet (first
    | (go_at_call_of 29 (Value.int .u64 (hi : Nat)); go_loud (exact (C1.out _).mono (fun _ _ h => ⟨h.1, _, h.2⟩)))
    | (go_at_call_of 29 (Value.int .u64 (lo : Nat)); go_loud (exact (C2.out _).mono (fun _ _ h => ⟨h.1, _, h.2⟩))))
  go_wp2
  go_ret
  exact ⟨rfl, below_drewN (by rw [hg]; exact hb0) _⟩
end Go.Proofs.Ytohnpogoldbplaa
