/- Texts of the proof of GatherScriptSaid, joined: SoR SpF2a SpF2b SpF2c SpF2 SoB SrF SpT. -/
import Derived.Test.YtoojpagpkbcfjaaGreatJGatherScript1
import Derived.Test.YtoojpagpkbcfjaaGreatJGatherScript7
import Derived.Test.YtoojpagpkbcfjaaGreatJGatherScript5
import Derived.Test.YtoojpagpkbcfjaaGreatJGatherScript6
import Derived.Test.YtoojpagpkbcfjaaGreatJGatherScript3
import Derived.Test.YtoojpagpkbcfjaaGreatJGatherScript4
import Derived.Laws.ResultCell
import Derived.Laws.Tables
import Derived.Deep.Cut
import Derived.Laws.StructEq
import Derived.Test.YtoojpagpkbcfjaaGreatJGatherScript2
/- Rows of spans of the call's own; a span laid into one. -/
namespace Go.Proofs.YtoojpagpkbcfjaaGreat
open Go.RowKit
attribute [local go_sem ↓] loadK_shut
attribute [local go_sem ↓] appK_shut

def sps (l : List El) : List Sp := l.map (·.s)
theorem sps_length (l : List El) : (sps l).length = l.length := by simp [sps]
theorem sps_get {l : List El} {i : Nat} {e : El} (h : l[i]? = some e) : (sps l)[i]? = some e.s := by simp [sps, h]
/-- A row of spans that is the walk's own; their tags lie elsewhere. -/
structure RowS (w : World) (base : Nat) (v : Value) (n : Nat) (l : List El) : Prop where
  own : w.ownsRow base 40 11 v n (els l)
  len : l.length = n
  ok : ∀ e ∈ l, ElOk w w.heap.size e
  far : ∀ e ∈ l, e.s.tags ≠ [] → ∀ a, e.A = some a → v.ownBlock ≠ some a.block

theorem spinfo : (Tryz.prog.info? 40).map (fun i => (i.zero, i.size, i.bytes)) = some (some (.agg zspC), 11, 120) := by kernel_rfl
/-- append of spans. -/
theorem wpList_appS (w : World) {ops : Array Oper} {rest : List Oper} {o : Oper} {a : Act} {Q : Exit → Act → World → Prop} (hgd : o.guard = none) (s x : Operand)
    (ho : o.op = .call { callee := .builtin .append, args := #[s, x], argTypes := #[45, 45] })
    (base : Nat) (v : Value) (n : Nat) (l : List El) (hs : a.eval s = v) (hown : w.ownsRow base 40 11 v n (els l))
    (B : Nat) (A : Option Addr) (m c : Nat) (news : List El) (hx : a.eval x = .slice A m c) (hl : news.length = m) (hr : Rd w B A (els news))
    (hbytes : n + m ≤ 1048576) (hbase : base ≤ w.heap.size)
    (h : ∀ A' c' w', App base 40 11 w v w' (.slice A' (n + m) c') (n + m) (els (l ++ news)) → (A' = none → v = .slice none 0 0 ∧ m = 0) → wpList Tryz.prog ops Q rest (a.put o.dst (.slice A' (n + m) c')) w') :
    wpList Tryz.prog ops Q (o :: rest) a w := by
  obtain ⟨i0, hi0, hz0, hz1, hz2⟩ := info_parts spinfo
  refine wpList_app w hgd s x _ ho base 40 i0 _ 11 120 Tryz.underlying45 hi0 hz0 hz1 hz2 rfl (by omega) v n (els l) hs hown B A m c (els news) hx (by rw [els_length]; omega) hr (els_one news) (by simp only [maxLen]; omega) (by omega) hbase ?_
  intro A' c' w' h1 h2 h3 h4
  rw [← els_append] at h1
  exact h A' c' w' ((App.refl hown).step h1 h2 h3) h4

theorem RowS.app {w w' : World} {base j : Nat} {v v' : Value} {l es : List El} (h : RowS w base v j l) (hap : App base 40 11 w v w' v' (j + es.length) (els (l ++ es)))
    (hes : ∀ e ∈ es, ElOk w w.heap.size e) (hfe : ∀ e ∈ es, e.s.tags ≠ [] → ∀ a, e.A = some a → v.ownBlock ≠ some a.block) : RowS w' base v' (j + es.length) (l ++ es) := by
  have hall : ∀ e ∈ l ++ es, ElOk w w.heap.size e ∧ (e.s.tags ≠ [] → ∀ a, e.A = some a → v.ownBlock ≠ some a.block) := fun e he => by
    rcases List.mem_append.1 he with he | he
    · exact ⟨h.ok e he, h.far e he⟩
    · exact ⟨hes e he, hfe e he⟩
  refine ⟨hap.own, by simp [h.len], fun e he => ?_, fun e he ht a ha => ?_⟩
  · obtain ⟨h1, h2⟩ := hall e he
    refine ⟨?_, h1.len, h1.max⟩
    by_cases ht : e.s.tags = []
    · rw [ht]
      exact Rd.nil
    · exact h1.rd.grownS hap.grown fun a ha => h2 ht a ha
  · obtain ⟨h1, h2⟩ := hall e he
    rcases hap.block with hb | ⟨k, hb, hk⟩
    · rw [hb]
      exact h2 ht a ha
    · rw [hb]
      intro e1
      have e2 := Option.some.inj e1
      obtain ⟨b, o, hA, hlt, _⟩ := h1.rd (by intro e0; have := tgs_length e.s.tags; rw [e0] at this; exact ht (List.eq_nil_of_length_eq_zero (by simp at this; omega)))
      rw [ha] at hA
      have e3 := Option.some.inj hA
      subst e3
      simp only at e2
      omega
theorem RowS.bS {w w' : World} {base n : Nat} {v : Value} {l : List El} (h : RowS w base v n l) (hb : Below w.heap.size w w') : RowS w' base v n l :=
  ⟨((App.refl h.own).later hb).own, h.len, fun e he => ((h.ok e he).below hb).more hb.size, h.far⟩
theorem RowS.own_lt {w : World} {base n : Nat} {v : Value} {l : List El} (h : RowS w base v n l) : ∀ k, v.ownBlock = some k → k < w.heap.size ∧ base ≤ k := fun k hk => by
  rcases h.own.2 with ⟨h1, _⟩ | ⟨g, cap, cur, h1, hbase, hb, _⟩
  · rw [h1] at hk
    cases hk
  · rw [h1] at hk
    have e := Option.some.inj hk
    simp only at e
    subst e
    exact ⟨(Array.getElem?_eq_some_iff.1 hb).1, hbase⟩
theorem RowS.nil (w : World) (base : Nat) : RowS w base (.slice none 0 0) 0 [] := ⟨World.ownsRow_nil _ _ _ _, rfl, fun _ h => absurd h (by simp), fun _ h => absurd h (by simp)⟩
theorem RowS.rbs {w : World} {base n c : Nat} {A : Option Addr} {l : List El} (h : RowS w base (.slice A n c) n l) : RbS w w.heap.size A l := ⟨Rd.of_own h.own, h.ok⟩
theorem sps_append (a b : List El) : sps (a ++ b) = sps a ++ sps b := by simp [sps]
theorem els_single (e : El) : els [e] = elC e := by simp [els]
theorem rd_span {w : World} {g : Nat} (hg : w.heap.size = g) (e : El) : Rd (w.alloc (.cells (spC e.s e.A e.n e.c) 40)) (g + 1) (some ⟨g, 0, none⟩) (els [e]) := by
  rw [els_single]
  exact Rd.lit' hg

/-- A slice of spans of the call's own, in the order l tells. -/
def OutPost (w : World) (n : Nat) (ss : List Sp) (e : Ending) (w' : World) : Prop :=
  ∃ A' c' l', e = .returned (.slice A' n c') ∧ sps l' = ss ∧ RowS w' w.heap.size (.slice A' n c') n l' ∧ Below w.heap.size w w'
/-- Where a part of a row of spans begins. -/
def cutA (a : Option Addr) (m k s : Nat) : Option Addr := if m = k then a else a.map (·.add (k * s))
theorem sliced_s (a : Option Addr) (k h m s : Nat) : sliced a k h m s = .slice (cutA a m k s) (h - k) (m - k) := rfl
theorem sliced_s0 (a : Option Addr) (h m s : Nat) : sliced a 0 h m s = .slice a h m := by
  simp only [sliced, Nat.zero_mul, Nat.sub_zero]
  split
  · rfl
  · cases a <;> rfl
theorem own_take {w : World} {base n c k size : Nat} {e : TypeId} {A : Option Addr} {xs : List Value} (h : w.ownsRow base e size (.slice A n c) n xs) (hk : k ≤ n) : w.ownsRow base e size (.slice A k c) k (xs.take (k * size)) := by
  refine ⟨by rw [List.length_take, h.1]; exact Nat.min_eq_left (Nat.mul_le_mul_right size hk), ?_⟩
  rcases h.2 with ⟨h1, h2⟩ | ⟨g, cap, cur, h1, hb, hg, hn, hc, hs, ht⟩
  · injection h1 with e1 _ e3
    subst e1 e3 h2
    obtain rfl : k = 0 := by omega
    exact .inl ⟨rfl, rfl⟩
  · injection h1 with e1 _ e3
    subst e1 e3
    refine .inr ⟨g, c, cur, rfl, hb, hg, by omega, hc, hs, ?_⟩
    rw [← ht, List.take_take, Nat.min_eq_left (Nat.mul_le_mul_right size hk)]
theorem RowS.take {w : World} {base n c k : Nat} {A : Option Addr} {l : List El} (h : RowS w base (.slice A n c) n l) (hk : k ≤ n) : RowS w base (.slice A k c) k (l.take k) := by
  have h1 := own_take h.own hk
  rw [els_take] at h1
  exact ⟨h1, by rw [List.length_take, h.len]; omega, fun e he => h.ok e (List.mem_of_mem_take he), fun e he ht a ha => by
    have := h.far e (List.mem_of_mem_take he) ht a ha
    cases A with
    | none => intro e1; cases e1
    | some q => exact this⟩
theorem Rd.dropS {w : World} {B k cap : Nat} {A : Option Addr} {l : List El} (h : Rd w B A (els l)) (hc : l.length ≤ cap) : Rd w B (cutA A cap k 11) (els (l.drop k)) := by
  unfold cutA
  rw [← els_drop]
  have h1 := Rd.drop (k := k * 11) (cap := cap * 11) h (by rw [els_length]; omega)
  by_cases hk : cap = k
  · rw [if_pos hk]
    rwa [if_pos (by omega)] at h1
  · rw [if_neg hk]
    rwa [if_neg (by omega)] at h1
theorem RowS.drewN {w : World} {base n : Nat} {v : Value} {l : List El} (h : RowS w base v n l) (k : Nat) : RowS (w.drewN k) base v n l := h.bS (below_drewN (Below.refl _ _) k)
theorem RowS.cap {w : World} {base n c : Nat} {A : Option Addr} {l : List El} (h : RowS w base (.slice A n c) n l) : n ≤ c := by
  rcases h.own.2 with ⟨h1, h2⟩ | ⟨g, cap, cur, h1, _, _, hn, _⟩
  · omega
  · injection h1 with _ _ e3
    omega
theorem run_appS (w : World) (base : Nat) (v : Value) (n : Nat) (l : List El) (hown : w.ownsRow base 40 11 v n (els l))
    (B : Nat) (A : Option Addr) (m c : Nat) (news : List El) (hl : news.length = m) (hr : Rd w B A (els news)) (hbytes : n + m ≤ 1048576) (hbase : base ≤ w.heap.size) :
    ∃ A' c' w', (appK #[45, 45] 45 #[v, .slice A m c]).run Tryz.prog w = .ok (.slice A' (n + m) c') w' ∧ App base 40 11 w v w' (.slice A' (n + m) c') (n + m) (els (l ++ news)) := by
  obtain ⟨i0, hi0, hz0, hz1, hz2⟩ := info_parts spinfo
  obtain ⟨v', w', hrun, h2, h3, h4, ⟨A', c', rfl⟩, h6⟩ := run_app (P := Tryz.prog) w base 45 45 40 i0 _ 11 120 Tryz.underlying45 hi0 hz0 hz1 hz2 rfl (by omega) v n (els l) hown B A m c (els news) (by rw [els_length, hl]) hr (els_one news) (by simp only [maxLen]; omega) (by omega) hbase
  rw [← els_append] at h2
  exact ⟨A', c', w', hrun, (App.refl hown).step h2 h3 h4⟩
/-- A span beside a row. -/
def OkF (w : World) (v : Value) (e : El) : Prop := ElOk w w.heap.size e ∧ (e.s.tags ≠ [] → ∀ a, e.A = some a → v.ownBlock ≠ some a.block)
theorem OkF.app {w w' : World} {base n : Nat} {v v' : Value} {xs : List Value} {e : El} (h : OkF w v e) (hap : App base 40 11 w v w' v' n xs) : OkF w' v' e := by
  obtain ⟨h1, h2⟩ := h
  refine ⟨⟨?_, h1.len, h1.max⟩, fun ht a ha => ?_⟩
  · by_cases ht : e.s.tags = []
    · rw [ht]
      exact Rd.nil
    · exact h1.rd.grownS hap.grown fun a ha => h2 ht a ha
  · rcases hap.block with hb | ⟨k, hb, hk⟩
    · rw [hb]
      exact h2 ht a ha
    · rw [hb]
      intro e1
      have e2 := Option.some.inj e1
      obtain ⟨b, o, hA, hlt, _⟩ := h1.rd (by intro e0; have := tgs_length e.s.tags; rw [e0] at this; exact ht (List.eq_nil_of_length_eq_zero (by simp at this; omega)))
      rw [ha] at hA
      have e3 := Option.some.inj hA
      subst e3
      simp only at e2
      omega
/-- One span laid into a row at k, what lay behind it being put back. -/
theorem insRow {base lo j k c c3 : Nat} {A A3 : Option Addr} {l : List El} {e : El} (W3 W4 : World) (hrow : RowS W3 base (.slice A j c) j l) (hk : k ≤ j) (hj : j ≤ 100000)
    (hA3 : W3.ownsRow lo 40 11 (.slice A3 (j - k) c3) (j - k) (els (l.drop k))) (hne : ∀ a, A3 = some a → (Value.slice A j c).ownBlock ≠ some a.block) (hbase : base ≤ W3.heap.size)
    (hb4 : Below W3.heap.size W3 W4) (hek : ElOk W4 W4.heap.size e) (hef : ∀ a, e.A = some a → W3.heap.size ≤ a.block) :
    ∃ A5 c5 w5 A6 c6 w6, (appK #[45, 45] 45 #[.slice A k c, .slice (some ⟨W4.heap.size, 0, none⟩) 1 1]).run Tryz.prog (W4.alloc (.cells (spC e.s e.A e.n e.c) 40)) = .ok (.slice A5 (k + 1) c5) w5 ∧
      (appK #[45, 45] 45 #[.slice A5 (k + 1) c5, .slice A3 (j - k) c3]).run Tryz.prog w5 = .ok (.slice A6 (j + 1) c6) w6 ∧ RowS w6 base (.slice A6 (j + 1) c6) (j + 1) (l.take k ++ e :: l.drop k) ∧ Below base W3 w6 := by
  have hb5 : Below W3.heap.size W3 (W4.alloc (.cells (spC e.s e.A e.n e.c) 40)) := hb4.alloc hb4.size _
  have hrd : Rd (W4.alloc (.cells (spC e.s e.A e.n e.c) 40)) (W4.heap.size + 1) (some ⟨W4.heap.size, 0, none⟩) (els [e]) := rd_span rfl e
  have hek5 : ElOk (W4.alloc (.cells (spC e.s e.A e.n e.c) 40)) (W4.alloc (.cells (spC e.s e.A e.n e.c) 40)).heap.size e :=
    (hek.below ((Below.refl _ W4).alloc (Nat.le_refl _) _)).more (by simp)
  obtain ⟨W5, hW5⟩ : ∃ W5, W4.alloc (.cells (spC e.s e.A e.n e.c) 40) = W5 := ⟨_, rfl⟩
  rw [hW5] at hb5 hrd hek5 ⊢
  have hrow5 := hrow.bS hb5
  have hob : (Value.slice A k c).ownBlock = (Value.slice A j c).ownBlock := by cases A <;> rfl
  have hlt := hrow.own_lt
  have hF : ∀ x ∈ e :: l, OkF W5 (.slice A k c) x := fun x hx => by
    rcases List.mem_cons.1 hx with rfl | hx
    · refine ⟨hek5, fun _ a ha e1 => ?_⟩
      rw [hob] at e1
      have h1 := (hlt _ e1).1
      have h2 := hef a ha
      omega
    · refine ⟨hrow5.ok x hx, fun ht a ha => ?_⟩
      rw [hob]
      exact hrow5.far x hx ht a ha
  have hbW : base ≤ W5.heap.size := Nat.le_trans hbase hb5.size
  obtain ⟨A5, c5, w5, hrun5, hap5⟩ := run_appS W5 base (.slice A k c) k (l.take k) (hrow5.take hk).own _ _ 1 1 [e] rfl hrd (by omega) hbW
  have hgr5 := hap5.grown
  rw [hob] at hgr5
  have hA5 := Rd.grownS (Rd.of_own ((App.refl hA3).later hb5).own) hgr5 hne
  have hl2 : (l.drop k).length = j - k := by rw [List.length_drop, hrow.len]
  obtain ⟨A6, c6, w6, hrun6, hap6⟩ := run_appS w5 base (.slice A5 (k + 1) c5) (k + 1) (l.take k ++ [e]) hap5.own _ A3 (j - k) c3 (l.drop k) hl2 hA5 (by omega) (Nat.le_trans hbW hap5.heap)
  rw [show k + 1 + (j - k) = j + 1 from by omega, List.append_assoc, List.singleton_append] at hap6
  rw [show k + 1 + (j - k) = j + 1 from by omega] at hrun6
  have hF6 : ∀ x ∈ l.take k ++ e :: l.drop k, OkF w6 (.slice A6 (j + 1) c6) x := fun x hx => by
    refine OkF.app (OkF.app (hF x ?_) hap5) hap6
    rcases List.mem_append.1 hx with hx | hx
    · exact List.mem_cons_of_mem _ (List.mem_of_mem_take hx)
    · rcases List.mem_cons.1 hx with rfl | hx
      · exact List.mem_cons_self
      · exact List.mem_cons_of_mem _ (List.mem_of_mem_drop hx)
  refine ⟨A5, c5, w5, A6, c6, w6, hrun5, hrun6, ⟨hap6.own, ?_, fun x hx => (hF6 x hx).1, fun x hx => (hF6 x hx).2⟩, ?_⟩
  · rw [List.length_append, List.length_take, List.length_cons, hl2, hrow.len]
    omega
  · have h5 : Below base W5 w5 := hap5.below hbW (fun q hq => (hlt q (by rw [← hob]; exact hq)).2)
    have h6 : Below base w5 w6 := hap6.below (Nat.le_trans hbW hap5.heap) (fun q hq => by
      rcases hap5.block with hb | ⟨r, hb, hr⟩
      · rw [hb, hob] at hq
        exact (hlt q hq).2
      · rw [hb] at hq
        have := Option.some.inj hq
        omega)
    exact ((hb5.mono hbase).trans h5).trans h6
end Go.Proofs.YtoojpagpkbcfjaaGreat


/- Spans: bootprintkit.SameSpan of two spans that are unlike, part. -/
namespace Go.Proofs.YtoojpagpkbcfjaaGreat
open Go.RowKit

set_option maxRecDepth 100000 in
set_option maxHeartbeats 8000000 in
theorem kitSameNeA {A1 A2 : Option Addr} {c1 c2 n m B : Nat} (a b : Sp) (w : World) (hf : RbT w B A1 a.tags) (hg : RbT w B A2 b.tags) (hn : a.tags.length = n) (hm : b.tags.length = m) (hB : B ≤ w.heap.size) (hcase : (a.hi ≠ b.hi) ∨ (a.hi = b.hi ∧ a.lo ≠ b.lo) ∨ (a.hi = b.hi ∧ a.lo = b.lo ∧ a.id ≠ b.id) ∨ (a.hi = b.hi ∧ a.lo = b.lo ∧ a.id = b.id ∧ a.parent ≠ b.parent)) (hnl : n ≤ 9223372036854775807) (hml : m ≤ 9223372036854775807) :
    Calls Tryz.prog 39 #[spV a A1 n c1, spV b A2 m c2] w fun e w' => e = .returned (.bool false) ∧ Below w.heap.size w w' := by
  have HCASE := Lib.hid hcase
  have hb0 : Below w.heap.size w ((w.alloc (.cells (spC a A1 n c1) 40)).alloc (.cells (spC b A2 m c2) 40)) := ((Below.refl _ w).alloc (Nat.le_refl _) _).alloc (by simp) _
  have bk1 := (Bk.new w 40 (spC a A1 n c1)).alloc (.cells (spC b A2 m c2) 40)
  have bk2 := Bk.new (w.alloc (.cells (spC a A1 n c1) 40)) 40 (spC b A2 m c2)
  rw [World.size_alloc] at bk2
  obtain ⟨w1, hw1⟩ : ∃ w1, ((w.alloc (.cells (spC a A1 n c1) 40)).alloc (.cells (spC b A2 m c2) 40)) = w1 := ⟨_, rfl⟩
  rw [hw1] at hb0 bk1 bk2
  have HW := Lib.hid hw1
  obtain ⟨g, hgq⟩ : ∃ g, w.heap.size = g := ⟨_, rfl⟩
  rw [hgq] at bk1 bk2
  have HG := Lib.hid hgq
  have kp0 : w1.cell? ⟨g, 0, none⟩ = some (.int .u64 a.hi) := bk1.cell 0
  have kp1 : w1.cell? ⟨g, 1, none⟩ = some (.int .u64 a.lo) := bk1.cell 1
  have kp2 : w1.cell? ⟨g, 2, none⟩ = some (.int .u64 a.id) := bk1.cell 2
  have kp3 : w1.cell? ⟨g, 3, none⟩ = some (.int .u64 a.parent) := bk1.cell 3
  have kp4 : w1.cell? ⟨g, 4, none⟩ = some (.string a.service) := bk1.cell 4
  have kp5 : w1.cell? ⟨g, 5, none⟩ = some (.string a.name) := bk1.cell 5
  have kp6 : w1.cell? ⟨g, 6, none⟩ = some (.int .i64 a.kind) := bk1.cell 6
  have kp7 : w1.cell? ⟨g, 7, none⟩ = some (.int .i64 a.start) := bk1.cell 7
  have kp8 : w1.cell? ⟨g, 8, none⟩ = some (.int .i64 a.length) := bk1.cell 8
  have kp9 : w1.cell? ⟨g, 9, none⟩ = some (.bool a.fails) := bk1.cell 9
  have kp10 : w1.cell? ⟨g, 10, none⟩ = some (.slice A1 n c1) := bk1.cell 10
  have kq0 : w1.cell? ⟨g + 1, 0, none⟩ = some (.int .u64 b.hi) := bk2.cell 0
  have kq1 : w1.cell? ⟨g + 1, 1, none⟩ = some (.int .u64 b.lo) := bk2.cell 1
  have kq2 : w1.cell? ⟨g + 1, 2, none⟩ = some (.int .u64 b.id) := bk2.cell 2
  have kq3 : w1.cell? ⟨g + 1, 3, none⟩ = some (.int .u64 b.parent) := bk2.cell 3
  have kq4 : w1.cell? ⟨g + 1, 4, none⟩ = some (.string b.service) := bk2.cell 4
  have kq5 : w1.cell? ⟨g + 1, 5, none⟩ = some (.string b.name) := bk2.cell 5
  have kq6 : w1.cell? ⟨g + 1, 6, none⟩ = some (.int .i64 b.kind) := bk2.cell 6
  have kq7 : w1.cell? ⟨g + 1, 7, none⟩ = some (.int .i64 b.start) := bk2.cell 7
  have kq8 : w1.cell? ⟨g + 1, 8, none⟩ = some (.int .i64 b.length) := bk2.cell 8
  have kq9 : w1.cell? ⟨g + 1, 9, none⟩ = some (.bool b.fails) := bk2.cell 9
  have kq10 : w1.cell? ⟨g + 1, 10, none⟩ = some (.slice A2 m c2) := bk2.cell 10
  clear hw1 bk1 bk2 hgq hf hg hn hm hcase
  go_enter Tryz.func39, Tryz.ntmps39
  go_upto_region 1 with fail
  rw [HW.out, HG.out]
  have hcase := HCASE.out
  clear HCASE
  rcases hcase with x1 | ⟨x1, x2⟩ | ⟨x1, x2, x3⟩ | ⟨x1, x2, x3, x4⟩
  · have d : ((a.hi : Int) != (b.hi : Int)) = true := by rw [bne_iff_ne]; omega
    have d' : ((a.hi : Int) == (b.hi : Int)) = false := by rw [beq_eq_false_iff_ne]; omega
    go_wp2
    go_ret
    exact ⟨rfl, hb0⟩
  · have d : ((a.lo : Int) != (b.lo : Int)) = true := by rw [bne_iff_ne]; omega
    have d' : ((a.lo : Int) == (b.lo : Int)) = false := by rw [beq_eq_false_iff_ne]; omega
    go_wp2
    go_ret
    exact ⟨rfl, hb0⟩
  · have d : ((a.id : Int) != (b.id : Int)) = true := by rw [bne_iff_ne]; omega
    have d' : ((a.id : Int) == (b.id : Int)) = false := by rw [beq_eq_false_iff_ne]; omega
    go_wp2
    go_ret
    exact ⟨rfl, hb0⟩
  · have d : ((a.parent : Int) != (b.parent : Int)) = true := by rw [bne_iff_ne]; omega
    have d' : ((a.parent : Int) == (b.parent : Int)) = false := by rw [beq_eq_false_iff_ne]; omega
    go_wp2
    go_ret
    exact ⟨rfl, hb0⟩
end Go.Proofs.YtoojpagpkbcfjaaGreat


/- Spans: bootprintkit.SameSpan of two spans that are unlike, part. -/
namespace Go.Proofs.YtoojpagpkbcfjaaGreat
open Go.RowKit

set_option maxRecDepth 100000 in
set_option maxHeartbeats 8000000 in
theorem kitSameNeB {A1 A2 : Option Addr} {c1 c2 n m B : Nat} (a b : Sp) (w : World) (hf : RbT w B A1 a.tags) (hg : RbT w B A2 b.tags) (hn : a.tags.length = n) (hm : b.tags.length = m) (hB : B ≤ w.heap.size) (hcase : (a.hi = b.hi ∧ a.lo = b.lo ∧ a.id = b.id ∧ a.parent = b.parent ∧ a.service ≠ b.service) ∨ (a.hi = b.hi ∧ a.lo = b.lo ∧ a.id = b.id ∧ a.parent = b.parent ∧ a.service = b.service ∧ a.name ≠ b.name) ∨ (a.hi = b.hi ∧ a.lo = b.lo ∧ a.id = b.id ∧ a.parent = b.parent ∧ a.service = b.service ∧ a.name = b.name ∧ a.kind ≠ b.kind) ∨ (a.hi = b.hi ∧ a.lo = b.lo ∧ a.id = b.id ∧ a.parent = b.parent ∧ a.service = b.service ∧ a.name = b.name ∧ a.kind = b.kind ∧ a.start ≠ b.start)) (hnl : n ≤ 9223372036854775807) (hml : m ≤ 9223372036854775807) :
    Calls Tryz.prog 39 #[spV a A1 n c1, spV b A2 m c2] w fun e w' => e = .returned (.bool false) ∧ Below w.heap.size w w' := by
  have HCASE := Lib.hid hcase
  have hb0 : Below w.heap.size w ((w.alloc (.cells (spC a A1 n c1) 40)).alloc (.cells (spC b A2 m c2) 40)) := ((Below.refl _ w).alloc (Nat.le_refl _) _).alloc (by simp) _
  have bk1 := (Bk.new w 40 (spC a A1 n c1)).alloc (.cells (spC b A2 m c2) 40)
  have bk2 := Bk.new (w.alloc (.cells (spC a A1 n c1) 40)) 40 (spC b A2 m c2)
  rw [World.size_alloc] at bk2
  obtain ⟨w1, hw1⟩ : ∃ w1, ((w.alloc (.cells (spC a A1 n c1) 40)).alloc (.cells (spC b A2 m c2) 40)) = w1 := ⟨_, rfl⟩
  rw [hw1] at hb0 bk1 bk2
  have HW := Lib.hid hw1
  obtain ⟨g, hgq⟩ : ∃ g, w.heap.size = g := ⟨_, rfl⟩
  rw [hgq] at bk1 bk2
  have HG := Lib.hid hgq
  have kp0 : w1.cell? ⟨g, 0, none⟩ = some (.int .u64 a.hi) := bk1.cell 0
  have kp1 : w1.cell? ⟨g, 1, none⟩ = some (.int .u64 a.lo) := bk1.cell 1
  have kp2 : w1.cell? ⟨g, 2, none⟩ = some (.int .u64 a.id) := bk1.cell 2
  have kp3 : w1.cell? ⟨g, 3, none⟩ = some (.int .u64 a.parent) := bk1.cell 3
  have kp4 : w1.cell? ⟨g, 4, none⟩ = some (.string a.service) := bk1.cell 4
  have kp5 : w1.cell? ⟨g, 5, none⟩ = some (.string a.name) := bk1.cell 5
  have kp6 : w1.cell? ⟨g, 6, none⟩ = some (.int .i64 a.kind) := bk1.cell 6
  have kp7 : w1.cell? ⟨g, 7, none⟩ = some (.int .i64 a.start) := bk1.cell 7
  have kp8 : w1.cell? ⟨g, 8, none⟩ = some (.int .i64 a.length) := bk1.cell 8
  have kp9 : w1.cell? ⟨g, 9, none⟩ = some (.bool a.fails) := bk1.cell 9
  have kp10 : w1.cell? ⟨g, 10, none⟩ = some (.slice A1 n c1) := bk1.cell 10
  have kq0 : w1.cell? ⟨g + 1, 0, none⟩ = some (.int .u64 b.hi) := bk2.cell 0
  have kq1 : w1.cell? ⟨g + 1, 1, none⟩ = some (.int .u64 b.lo) := bk2.cell 1
  have kq2 : w1.cell? ⟨g + 1, 2, none⟩ = some (.int .u64 b.id) := bk2.cell 2
  have kq3 : w1.cell? ⟨g + 1, 3, none⟩ = some (.int .u64 b.parent) := bk2.cell 3
  have kq4 : w1.cell? ⟨g + 1, 4, none⟩ = some (.string b.service) := bk2.cell 4
  have kq5 : w1.cell? ⟨g + 1, 5, none⟩ = some (.string b.name) := bk2.cell 5
  have kq6 : w1.cell? ⟨g + 1, 6, none⟩ = some (.int .i64 b.kind) := bk2.cell 6
  have kq7 : w1.cell? ⟨g + 1, 7, none⟩ = some (.int .i64 b.start) := bk2.cell 7
  have kq8 : w1.cell? ⟨g + 1, 8, none⟩ = some (.int .i64 b.length) := bk2.cell 8
  have kq9 : w1.cell? ⟨g + 1, 9, none⟩ = some (.bool b.fails) := bk2.cell 9
  have kq10 : w1.cell? ⟨g + 1, 10, none⟩ = some (.slice A2 m c2) := bk2.cell 10
  clear hw1 bk1 bk2 hgq hf hg hn hm hcase
  go_enter Tryz.func39, Tryz.ntmps39
  go_upto_region 1 with fail
  rw [HW.out, HG.out]
  have hcase := HCASE.out
  clear HCASE
  rcases hcase with ⟨x1, x2, x3, x4, x5⟩ | ⟨x1, x2, x3, x4, x5, x6⟩ | ⟨x1, x2, x3, x4, x5, x6, x7⟩ | ⟨x1, x2, x3, x4, x5, x6, x7, x8⟩
  · have d : (a.service.toList == b.service.toList) = false := by rw [strEq_of]; simpa using x5
    go_wp2
    go_ret
    exact ⟨rfl, hb0⟩
  · have d : (a.name.toList == b.name.toList) = false := by rw [strEq_of]; simpa using x6
    go_wp2
    go_ret
    exact ⟨rfl, hb0⟩
  · have d : ((a.kind : Int) != (b.kind : Int)) = true := by rw [bne_iff_ne]; omega
    have d' : ((a.kind : Int) == (b.kind : Int)) = false := by rw [beq_eq_false_iff_ne]; omega
    go_wp2
    go_ret
    exact ⟨rfl, hb0⟩
  · have d : ((a.start : Int) != (b.start : Int)) = true := by rw [bne_iff_ne]; omega
    have d' : ((a.start : Int) == (b.start : Int)) = false := by rw [beq_eq_false_iff_ne]; omega
    go_wp2
    go_ret
    exact ⟨rfl, hb0⟩
end Go.Proofs.YtoojpagpkbcfjaaGreat


/- Spans: bootprintkit.SameSpan of two spans that are unlike, part. -/
namespace Go.Proofs.YtoojpagpkbcfjaaGreat
open Go.RowKit

set_option maxRecDepth 100000 in
set_option maxHeartbeats 8000000 in
theorem kitSameNeC {A1 A2 : Option Addr} {c1 c2 n m B : Nat} (a b : Sp) (w : World) (hf : RbT w B A1 a.tags) (hg : RbT w B A2 b.tags) (hn : a.tags.length = n) (hm : b.tags.length = m) (hB : B ≤ w.heap.size) (hcase : (a.hi = b.hi ∧ a.lo = b.lo ∧ a.id = b.id ∧ a.parent = b.parent ∧ a.service = b.service ∧ a.name = b.name ∧ a.kind = b.kind ∧ a.start = b.start ∧ a.length ≠ b.length) ∨ (a.hi = b.hi ∧ a.lo = b.lo ∧ a.id = b.id ∧ a.parent = b.parent ∧ a.service = b.service ∧ a.name = b.name ∧ a.kind = b.kind ∧ a.start = b.start ∧ a.length = b.length ∧ a.fails ≠ b.fails) ∨ (a.hi = b.hi ∧ a.lo = b.lo ∧ a.id = b.id ∧ a.parent = b.parent ∧ a.service = b.service ∧ a.name = b.name ∧ a.kind = b.kind ∧ a.start = b.start ∧ a.length = b.length ∧ a.fails = b.fails ∧ n ≠ m)) (hnl : n ≤ 9223372036854775807) (hml : m ≤ 9223372036854775807) :
    Calls Tryz.prog 39 #[spV a A1 n c1, spV b A2 m c2] w fun e w' => e = .returned (.bool false) ∧ Below w.heap.size w w' := by
  have HCASE := Lib.hid hcase
  have hb0 : Below w.heap.size w ((w.alloc (.cells (spC a A1 n c1) 40)).alloc (.cells (spC b A2 m c2) 40)) := ((Below.refl _ w).alloc (Nat.le_refl _) _).alloc (by simp) _
  have bk1 := (Bk.new w 40 (spC a A1 n c1)).alloc (.cells (spC b A2 m c2) 40)
  have bk2 := Bk.new (w.alloc (.cells (spC a A1 n c1) 40)) 40 (spC b A2 m c2)
  rw [World.size_alloc] at bk2
  obtain ⟨w1, hw1⟩ : ∃ w1, ((w.alloc (.cells (spC a A1 n c1) 40)).alloc (.cells (spC b A2 m c2) 40)) = w1 := ⟨_, rfl⟩
  rw [hw1] at hb0 bk1 bk2
  have HW := Lib.hid hw1
  obtain ⟨g, hgq⟩ : ∃ g, w.heap.size = g := ⟨_, rfl⟩
  rw [hgq] at bk1 bk2
  have HG := Lib.hid hgq
  have kp0 : w1.cell? ⟨g, 0, none⟩ = some (.int .u64 a.hi) := bk1.cell 0
  have kp1 : w1.cell? ⟨g, 1, none⟩ = some (.int .u64 a.lo) := bk1.cell 1
  have kp2 : w1.cell? ⟨g, 2, none⟩ = some (.int .u64 a.id) := bk1.cell 2
  have kp3 : w1.cell? ⟨g, 3, none⟩ = some (.int .u64 a.parent) := bk1.cell 3
  have kp4 : w1.cell? ⟨g, 4, none⟩ = some (.string a.service) := bk1.cell 4
  have kp5 : w1.cell? ⟨g, 5, none⟩ = some (.string a.name) := bk1.cell 5
  have kp6 : w1.cell? ⟨g, 6, none⟩ = some (.int .i64 a.kind) := bk1.cell 6
  have kp7 : w1.cell? ⟨g, 7, none⟩ = some (.int .i64 a.start) := bk1.cell 7
  have kp8 : w1.cell? ⟨g, 8, none⟩ = some (.int .i64 a.length) := bk1.cell 8
  have kp9 : w1.cell? ⟨g, 9, none⟩ = some (.bool a.fails) := bk1.cell 9
  have kp10 : w1.cell? ⟨g, 10, none⟩ = some (.slice A1 n c1) := bk1.cell 10
  have kq0 : w1.cell? ⟨g + 1, 0, none⟩ = some (.int .u64 b.hi) := bk2.cell 0
  have kq1 : w1.cell? ⟨g + 1, 1, none⟩ = some (.int .u64 b.lo) := bk2.cell 1
  have kq2 : w1.cell? ⟨g + 1, 2, none⟩ = some (.int .u64 b.id) := bk2.cell 2
  have kq3 : w1.cell? ⟨g + 1, 3, none⟩ = some (.int .u64 b.parent) := bk2.cell 3
  have kq4 : w1.cell? ⟨g + 1, 4, none⟩ = some (.string b.service) := bk2.cell 4
  have kq5 : w1.cell? ⟨g + 1, 5, none⟩ = some (.string b.name) := bk2.cell 5
  have kq6 : w1.cell? ⟨g + 1, 6, none⟩ = some (.int .i64 b.kind) := bk2.cell 6
  have kq7 : w1.cell? ⟨g + 1, 7, none⟩ = some (.int .i64 b.start) := bk2.cell 7
  have kq8 : w1.cell? ⟨g + 1, 8, none⟩ = some (.int .i64 b.length) := bk2.cell 8
  have kq9 : w1.cell? ⟨g + 1, 9, none⟩ = some (.bool b.fails) := bk2.cell 9
  have kq10 : w1.cell? ⟨g + 1, 10, none⟩ = some (.slice A2 m c2) := bk2.cell 10
  clear hw1 bk1 bk2 hgq hf hg hn hm hcase
  go_enter Tryz.func39, Tryz.ntmps39
  go_upto_region 1 with fail
  rw [HW.out, HG.out]
  have hcase := HCASE.out
  clear HCASE
  rcases hcase with ⟨x1, x2, x3, x4, x5, x6, x7, x8, x9⟩ | ⟨x1, x2, x3, x4, x5, x6, x7, x8, x9, x10⟩ | ⟨x1, x2, x3, x4, x5, x6, x7, x8, x9, x10, x11⟩
  · have d : ((a.length : Int) != (b.length : Int)) = true := by rw [bne_iff_ne]; omega
    have d' : ((a.length : Int) == (b.length : Int)) = false := by rw [beq_eq_false_iff_ne]; omega
    go_wp2
    go_ret
    exact ⟨rfl, hb0⟩
  · have d : (a.fails != b.fails) = true := by simpa using x10
    have d' : (a.fails == b.fails) = false := by simpa using x10
    go_wp2
    go_ret
    exact ⟨rfl, hb0⟩
  · have d : ((n : Int) != (m : Int)) = true := by rw [bne_iff_ne]; omega
    go_wp2
    go_ret
    exact ⟨rfl, hb0⟩
end Go.Proofs.YtoojpagpkbcfjaaGreat


/- Spans: bootprintkit.SameSpan of any two spans. -/
namespace Go.Proofs.YtoojpagpkbcfjaaGreat
open Go.RowKit

theorem spC_head {a b : Sp} (h1 : a.hi = b.hi) (h2 : a.lo = b.lo) (h3 : a.id = b.id) (h4 : a.parent = b.parent) (h5 : a.service = b.service) (h6 : a.name = b.name) (h7 : a.kind = b.kind) (h8 : a.start = b.start) (h9 : a.length = b.length) (h10 : a.fails = b.fails) (A : Option Addr) (n c : Nat) : spV b A n c = spV a A n c := by
  rw [spV, spV, spC, spC, h1, h2, h3, h4, h5, h6, h7, h8, h9, h10]
set_option maxRecDepth 100000 in
set_option maxHeartbeats 8000000 in
theorem kitSame {A1 A2 : Option Addr} {c1 c2 n m B : Nat} (a b : Sp) (w : World) (hf : RbT w B A1 a.tags) (hg : RbT w B A2 b.tags) (hn : a.tags.length = n) (hm : b.tags.length = m) (hB : B ≤ w.heap.size) (hnl : n ≤ 9223372036854775807) (hml : m ≤ 9223372036854775807) :
    Calls Tryz.prog 39 #[spV a A1 n c1, spV b A2 m c2] w fun e w' => e = .returned (.bool (decide (a = b))) ∧ Below w.heap.size w w' := by
  by_cases hall : a.hi = b.hi ∧ a.lo = b.lo ∧ a.id = b.id ∧ a.parent = b.parent ∧ a.service = b.service ∧ a.name = b.name ∧ a.kind = b.kind ∧ a.start = b.start ∧ a.length = b.length ∧ a.fails = b.fails ∧ n = m
  · obtain ⟨h1, h2, h3, h4, h5, h6, h7, h8, h9, h10, rfl⟩ := hall
    have h := kitSameTags (c1 := c1) (c2 := c2) a a.tags b.tags w hf hg hn hm hB hnl
    rw [spC_head h1 h2 h3 h4 h5 h6 h7 h8 h9 h10]
    have e : decide (a = b) = decide (a.tags = b.tags) := by
      rw [decide_eq_decide]
      refine ⟨fun h => by rw [h], fun h => ?_⟩
      cases a; cases b
      simp only at h1 h2 h3 h4 h5 h6 h7 h8 h9 h10 h
      simp only [h1, h2, h3, h4, h5, h6, h7, h8, h9, h10, h]
    rw [e]
    exact h
  have hqf : decide (a = b) = false := by
    rw [decide_eq_false_iff_not]
    rintro rfl
    exact hall ⟨rfl, rfl, rfl, rfl, rfl, rfl, rfl, rfl, rfl, rfl, by omega⟩
  rw [hqf]
  have hcase : a.hi ≠ b.hi ∨ (a.hi = b.hi ∧ (a.lo ≠ b.lo ∨ (a.lo = b.lo ∧ (a.id ≠ b.id ∨ (a.id = b.id ∧ (a.parent ≠ b.parent ∨ (a.parent = b.parent ∧ (a.service ≠ b.service ∨ (a.service = b.service ∧ (a.name ≠ b.name ∨ (a.name = b.name ∧ (a.kind ≠ b.kind ∨ (a.kind = b.kind ∧ (a.start ≠ b.start ∨ (a.start = b.start ∧ (a.length ≠ b.length ∨ (a.length = b.length ∧ (a.fails ≠ b.fails ∨ (a.fails = b.fails ∧ n ≠ m))))))))))))))))))) := by
    by_cases x1 : a.hi = b.hi
    case neg => exact .inl x1
    refine .inr ⟨x1, ?_⟩
    by_cases x2 : a.lo = b.lo
    case neg => exact .inl x2
    refine .inr ⟨x2, ?_⟩
    by_cases x3 : a.id = b.id
    case neg => exact .inl x3
    refine .inr ⟨x3, ?_⟩
    by_cases x4 : a.parent = b.parent
    case neg => exact .inl x4
    refine .inr ⟨x4, ?_⟩
    by_cases x5 : a.service = b.service
    case neg => exact .inl x5
    refine .inr ⟨x5, ?_⟩
    by_cases x6 : a.name = b.name
    case neg => exact .inl x6
    refine .inr ⟨x6, ?_⟩
    by_cases x7 : a.kind = b.kind
    case neg => exact .inl x7
    refine .inr ⟨x7, ?_⟩
    by_cases x8 : a.start = b.start
    case neg => exact .inl x8
    refine .inr ⟨x8, ?_⟩
    by_cases x9 : a.length = b.length
    case neg => exact .inl x9
    refine .inr ⟨x9, ?_⟩
    by_cases x10 : a.fails = b.fails
    case neg => exact .inl x10
    exact .inr ⟨x10, fun x11 => hall ⟨x1, x2, x3, x4, x5, x6, x7, x8, x9, x10, x11⟩⟩
  rcases hcase with x1 | ⟨x1, x2 | ⟨x2, x3 | ⟨x3, x4 | ⟨x4, x5 | ⟨x5, x6 | ⟨x6, x7 | ⟨x7, x8 | ⟨x8, x9 | ⟨x9, x10 | ⟨x10, x11⟩⟩⟩⟩⟩⟩⟩⟩⟩⟩
  · exact kitSameNeA (c1 := c1) (c2 := c2) a b w hf hg hn hm hB (.inl x1) hnl hml
  · exact kitSameNeA (c1 := c1) (c2 := c2) a b w hf hg hn hm hB (.inr (.inl ⟨x1, x2⟩)) hnl hml
  · exact kitSameNeA (c1 := c1) (c2 := c2) a b w hf hg hn hm hB (.inr (.inr (.inl ⟨x1, x2, x3⟩))) hnl hml
  · exact kitSameNeA (c1 := c1) (c2 := c2) a b w hf hg hn hm hB (.inr (.inr (.inr (⟨x1, x2, x3, x4⟩)))) hnl hml
  · exact kitSameNeB (c1 := c1) (c2 := c2) a b w hf hg hn hm hB (.inl ⟨x1, x2, x3, x4, x5⟩) hnl hml
  · exact kitSameNeB (c1 := c1) (c2 := c2) a b w hf hg hn hm hB (.inr (.inl ⟨x1, x2, x3, x4, x5, x6⟩)) hnl hml
  · exact kitSameNeB (c1 := c1) (c2 := c2) a b w hf hg hn hm hB (.inr (.inr (.inl ⟨x1, x2, x3, x4, x5, x6, x7⟩))) hnl hml
  · exact kitSameNeB (c1 := c1) (c2 := c2) a b w hf hg hn hm hB (.inr (.inr (.inr (⟨x1, x2, x3, x4, x5, x6, x7, x8⟩)))) hnl hml
  · exact kitSameNeC (c1 := c1) (c2 := c2) a b w hf hg hn hm hB (.inl ⟨x1, x2, x3, x4, x5, x6, x7, x8, x9⟩) hnl hml
  · exact kitSameNeC (c1 := c1) (c2 := c2) a b w hf hg hn hm hB (.inr (.inl ⟨x1, x2, x3, x4, x5, x6, x7, x8, x9, x10⟩)) hnl hml
  · exact kitSameNeC (c1 := c1) (c2 := c2) a b w hf hg hn hm hB (.inr (.inr (⟨x1, x2, x3, x4, x5, x6, x7, x8, x9, x10, x11⟩))) hnl hml
end Go.Proofs.YtoojpagpkbcfjaaGreat


/- Lists of spans: bootprintkit.SmallSpans, SameSpans. -/
namespace Go.Proofs.YtoojpagpkbcfjaaGreat
open Go.RowKit
attribute [local go_sem ↓] loadK_shut

/-- If it says yes, they are few and each is small. -/
def SmallsPost (w : World) (l : List El) (N most : Int) (e : Ending) (w' : World) : Prop :=
  ∃ q, e = .returned (.bool q) ∧ Below w.heap.size w w' ∧ (q = true → (l.length : Int) ≤ N ∧ ∀ x ∈ l, smallB x.s most = true)
theorem list_eq_of {α : Type} {a b : List α} (hl : a.length = b.length) (h : ∀ (i : Nat) (x y : α), a[i]? = some x → b[i]? = some y → x = y) : a = b := by
  apply List.ext_getElem hl
  intro i h1 h2
  exact h i _ _ (List.getElem?_eq_getElem h1) (List.getElem?_eq_getElem h2)

set_option maxRecDepth 100000 in
set_option maxHeartbeats 4000000 in
theorem kitSames {A1 A2 : Option Addr} {c1 c2 n m B : Nat} {la lb : List El} (w : World) (hf : RbS w B A1 la) (hg : RbS w B A2 lb) (hn : la.length = n) (hm : lb.length = m) (hB : B ≤ w.heap.size) (hnl : n ≤ 9223372036854775807) (hml : m ≤ 9223372036854775807) :
    Calls Tryz.prog 15 #[.slice A1 n c1, .slice A2 m c2] w fun e w' => e = .returned (.bool (decide (sps la = sps lb))) ∧ Below w.heap.size w w' := by
  obtain ⟨q, hq⟩ : ∃ q, decide (sps la = sps lb) = q := ⟨_, rfl⟩
  rw [hq]
  have HQ := Lib.hid hq
  have HN := Lib.hid hn
  have HM := Lib.hid hm
  clear hq hn hm
  by_cases hnm : n = m
  case neg =>
    have d1 : ((n : Int) != (m : Int)) = true := by rw [bne_iff_ne]; omega
    have hq0 : q = false := by
      rw [← HQ.out, decide_eq_false_iff_not]
      intro e
      have := congrArg List.length e
      rw [sps_length, sps_length, HN.out, HM.out] at this
      exact hnm this
    have HQ0 := Lib.hid hq0
    clear hq0
    go_enter Tryz.func15, Tryz.ntmps15
    go_wp2
    go_ret
    exact ⟨by rw [HQ0.out]; rfl, Below.refl _ _⟩
  subst hnm
  go_enter Tryz.func15, Tryz.ntmps15
  go_wp2
  go_loopw [5] (fun iv_ wr => ∃ j : Nat, j ≤ n ∧ iv_ = .int .i64 j ∧ (∀ i x y, i < j → la[i]? = some x → lb[i]? = some y → x.s = y.s) ∧ Below w.heap.size w wr) (fun i _ => n - (intOf i).toNat)
  case atStart => exact ⟨0, by omega, rfl, fun i x y h => by omega, Below.refl _ _⟩
  case round =>
    obtain ⟨j, hj, rfl, hall, hb⟩ := hrel
    have HA := Lib.hid hall
    clear hall
    by_cases hlt : j < n
    · have hlt' : (j : Int) < (n : Int) := by omega
      go_wp2_with fail
      obtain ⟨x, hx⟩ : ∃ x, la[j]? = some x := ⟨_, List.getElem?_eq_getElem (by rw [HN.out]; exact hlt)⟩
      obtain ⟨y, hy⟩ : ∃ y, lb[j]? = some y := ⟨_, List.getElem?_eq_getElem (by rw [HM.out]; exact hlt)⟩
      have hbd : Below w.heap.size w wr.drew := below_drewN hb 1
      obtain ⟨b1, o1, rfl, hbb1, hc1, hok1⟩ := (hf.below (hbd.mono hB)).get hx
      obtain ⟨b2, o2, rfl, hbb2, hc2, hok2⟩ := (hg.below (hbd.mono hB)).get hy
      have hld1 := loadK_el hc1
      have hld2 := loadK_el hc2
      have hsm := kitSame (c1 := x.c) (c2 := y.c) x.s y.s wr.drew hok1.rd hok2.rd hok1.len hok2.len (Nat.le_trans hB hbd.size) hok1.max hok2.max
      obtain ⟨p, hp⟩ : ∃ p, decide (x.s = y.s) = p := ⟨_, rfl⟩
      rw [hp] at hsm
      have HP := Lib.hid hp
      have HS := Lib.hid hsm
      have HX := Lib.hid hx
      have HY := Lib.hid hy
      clear hc1 hc2 hp hsm hx hy hok1 hok2
      have hpq : p = false → q = false := fun h => by
        rw [← HQ.out, decide_eq_false_iff_not]
        intro e
        have h1 := sps_get HX.out
        rw [e, sps_get HY.out] at h1
        have h2 := HP.out
        rw [h, decide_eq_false_iff_not] at h2
        exact h2 (Option.some.inj h1).symm
      have HPQ := Lib.hid hpq
      clear hpq
      go_region_held3 (fun w' => (loadK 40 ⟨b1, o1 + j * 11, none⟩).run Tryz.prog w' = .ok (spV x.s x.A x.n x.c) w' ∧ (loadK 40 ⟨b2, o2 + j * 11, none⟩).run Tryz.prog w' = .ok (spV y.s y.A y.n y.c) w')
        (first | exact ⟨hld1, hld2⟩ | exact ⟨hle1, hle2⟩)
        (first
          | (go_at_call 39
             refine HS.out.mono ?_
             rintro e w5 ⟨rfl, hb5⟩
             have hb05 := hbd.trans (hb5.mono hbd.size)
             have hle1 : (loadK 40 ⟨b1, o1 + j * 11, none⟩).run Tryz.prog w5 = .ok (spV x.s x.A x.n x.c) w5 := by
               obtain ⟨b', o', e', -, hc', -⟩ := (hf.below (hb05.mono hB)).get HX.out
               cases e'
               exact loadK_el hc'
             have hle2 : (loadK 40 ⟨b2, o2 + j * 11, none⟩).run Tryz.prog w5 = .ok (spV y.s y.A y.n y.c) w5 := by
               obtain ⟨b', o', e', -, hc', -⟩ := (hg.below (hb05.mono hB)).get HY.out
               cases e'
               exact loadK_el hc')
          | fail)
      cases p with
      | false =>
        go_wp2
        go_ret
        exact ⟨by rw [HPQ.out (by first | rfl | trivial)]; rfl, hb05⟩
      | true =>
        have hst : ∀ i x y, i < j + 1 → la[i]? = some x → lb[i]? = some y → x.s = y.s := fun i u v hi hu hv => by
          by_cases hij : i < j
          · exact HA.out i u v hij hu hv
          · have : i = j := by omega
            subst this
            rw [HX.out] at hu
            rw [HY.out] at hv
            cases hu
            cases hv
            exact of_decide_eq_true HP.out
        have HST := Lib.hid hst
        clear hst
        go_wp2
        go_roundw
        case rel => exact ⟨j + 1, by omega, by go_num, HST.out, hb05⟩
        case measure => simp [intOf]; omega
    · have hlt' : decide ((j : Int) < (n : Int)) = false := by simp; omega
      obtain rfl : j = n := by omega
      have hqt : q = true := by
        rw [← HQ.out, decide_eq_true_iff]
        refine list_eq_of (by rw [sps_length, sps_length, HN.out, HM.out]) fun i u v hu hv => ?_
        simp only [sps, List.getElem?_map, Option.map_eq_some_iff] at hu hv
        obtain ⟨x, hx, rfl⟩ := hu
        obtain ⟨y, hy, rfl⟩ := hv
        have hi := (List.getElem?_eq_some_iff.1 hx).1
        rw [HN.out] at hi
        exact HA.out i x y hi hx hy
      have HQT := Lib.hid hqt
      clear hqt
      go_wp2
      go_ret
      exact ⟨by rw [HQT.out]; rfl, hb⟩
end Go.Proofs.YtoojpagpkbcfjaaGreat


/- Spans: Tag, Copy; the document's answer: Tag, IDText, TraceText. -/
namespace Go.Proofs.YtoojpagpkbcfjaaGreat
open Go.RowKit

/-- A tag's value, if it is there. -/
def tagOf (l : List Tg) (k : ByteArray) : Option ByteArray := (l.find? fun t => decide (t.key = k)).map (·.val)
def tagVal (l : List Tg) (k : ByteArray) : ByteArray := (tagOf l k).getD ⟨#[]⟩
def tagIs (l : List Tg) (k : ByteArray) : Bool := (tagOf l k).isSome
theorem tagOf_hit {l : List Tg} {k : ByteArray} {j : Nat} {x : Tg} (h : (l.take j).any (fun t => decide (t.key = k)) = false) (hx : l[j]? = some x) (hp : x.key = k) : tagOf l k = some x.val := by
  have hj := (List.getElem?_eq_some_iff.1 hx).1
  have : l.find? (fun t => decide (t.key = k)) = some x := by
    rw [List.find?_eq_some_iff_getElem]
    refine ⟨by simpa using hp, j, hj, (List.getElem?_eq_some_iff.1 hx).2, fun i hi => ?_⟩
    have h1 := List.any_eq_false.1 h (l[i]'(by omega)) (List.mem_of_getElem? (i := i) (by rw [List.getElem?_take, if_pos hi]; exact List.getElem?_eq_getElem _))
    simpa using h1
  rw [tagOf, this]
  rfl
theorem tagOf_none {l : List Tg} {k : ByteArray} (h : l.any (fun t => decide (t.key = k)) = false) : tagOf l k = none := by
  have : l.find? (fun t => decide (t.key = k)) = none := by
    rw [List.find?_eq_none]
    intro x hx
    have := List.any_eq_false.1 h x hx
    simpa using this
  rw [tagOf, this]
  rfl

theorem idxT_find {l : List Tg} {k : ByteArray} : (idxT (fun t => decide (t.key = k)) l = -1 ∧ tagOf l k = none) ∨ ∃ (j : Nat) (x : Tg), idxT (fun t => decide (t.key = k)) l = j ∧ l[j]? = some x ∧ tagOf l k = some x.val := by
  cases hf : l.findIdx? (fun t => decide (t.key = k)) with
  | none =>
    have h := List.findIdx?_eq_none_iff.1 hf
    exact .inl ⟨by rw [idxT, hf], tagOf_none (List.any_eq_false.2 fun x hx => by rw [h x hx]; simp)⟩
  | some j =>
    obtain ⟨hj, h1, h2⟩ := List.findIdx?_eq_some_iff_getElem.1 hf
    refine .inr ⟨j, l[j], by rw [idxT, hf], List.getElem?_eq_getElem hj, ?_⟩
    have h3 : (l.take j).any (fun t => decide (t.key = k)) = false := by
      rw [List.any_eq_false]
      intro x hx
      obtain ⟨i, hi, rfl⟩ := List.mem_take_iff_getElem.1 hx
      exact h2 i (by omega)
    exact tagOf_hit h3 (List.getElem?_eq_getElem hj) (by simpa using h1)

set_option maxHeartbeats 400000 in
theorem slCloneT {A : Option Addr} {c B n : Nat} {l : List Tg} (w : World) (ha : RbT w B A l) (hB : B ≤ w.heap.size) (hx : n ≤ 4398046511104) (hn : l.length = n) :
    Calls Tryz.prog 54 #[.slice A n c] w (RetNew 93 2 w n (tgs l) (fun A' => A' = none → A = none)) := by
  subst hn
  cases A with
  | none =>
    obtain rfl : l = [] := tags_nil ha
    go_enter Tryz.func54, Tryz.ntmps54
    go_wp2
    go_ret
    exact ⟨none, 0, rfl, App.refl (World.ownsRow_nil _ _ _ _), by simp⟩
  | some a =>
    go_enter Tryz.func54, Tryz.ntmps54
    go_wp2_with (at_builtin; go_loud (refine wpList_appTg _ rfl (.tmp 5) (.tmp 6) rfl w.heap.size _ 0 [] rfl (World.ownsRow_lit w #[] 0 (Nat.le_refl _) (by simp [maxLen]) rfl) B _ l.length c l rfl rfl (ha.alloc hB _) (by omega) (by simp) ?_))
    intro A' c' w' happ hne
    go_wp2
    go_ret
    exact ⟨A', c', rfl, happ.fresh1, fun h => absurd h hne⟩

set_option maxRecDepth 100000 in
set_option maxHeartbeats 2000000 in
theorem spCopy {A : Option Addr} {c n B : Nat} (s : Sp) (w : World) (hf : RbT w B A s.tags) (hn : s.tags.length = n) (hB : B ≤ w.heap.size) (hnl : n ≤ 4398046511104) :
    Calls Tryz.prog 41 #[spV s A n c] w (CopyPost w s n A) := by
  have hb0 : Below w.heap.size w ((w.alloc (.cells (spC s A n c) 40)).alloc (.cells zspC 40)) := ((Below.refl _ w).alloc (Nat.le_refl _) _).alloc (by simp) _
  have hf1 := Rd.below hf (hb0.mono hB)
  have bk := (Bk.new w 40 (spC s A n c)).alloc (.cells zspC 40)
  have br := Bk.new (w.alloc (.cells (spC s A n c) 40)) 40 zspC
  rw [World.size_alloc] at br
  have hs1 : ((w.alloc (.cells (spC s A n c) 40)).alloc (.cells zspC 40)).heap.size = w.heap.size + 2 := by simp
  obtain ⟨w1, hw1⟩ : ∃ w1, (w.alloc (.cells (spC s A n c) 40)).alloc (.cells zspC 40) = w1 := ⟨_, rfl⟩
  rw [hw1] at hb0 hf1 bk br hs1
  have HW := Lib.hid hw1
  obtain ⟨g, hg⟩ : ∃ g, w.heap.size = g := ⟨_, rfl⟩
  rw [hg] at bk br
  have HG := Lib.hid hg
  have hg1 : g + 2 ≤ w1.heap.size := by omega
  have hcl := slCloneT (c := c) w1 hf1 (by omega) hnl hn
  have HC := Lib.hid hcl
  have HN := Lib.hid hn
  have k10 : w1.cell? ⟨g, 10, none⟩ = some (.slice A n c) := bk.cell 10
  clear hw1 hg hn hcl hf hs1
  go_enter Tryz.func41, Tryz.ntmps41
  go_upto_region 1 with fail
  rw [HW.out, HG.out]
  go_wp2_with fail
  refine HC.out.mono ?_
  rintro e w2 ⟨A', c', rfl, happ, hne⟩
  have hb2 := happ.below0
  have bk2 := bk.below hb2 bk.lt
  have br2 := br.below hb2 br.lt
  have hlo := happ.lo
  have hrd := Rd.of_own happ.own
  have hcap : n ≤ c' ∧ (A' = none → n = 0 ∧ c' = 0) := by
    rcases happ.own.2 with ⟨h1, h2⟩ | ⟨q, cap, cur, h1, _, _, h3, _⟩
    · injection h1 with _ _ h4
      exact ⟨by omega, fun _ => ⟨h2, h4⟩⟩
    · injection h1 with h4 _ h5
      subst h5
      exact ⟨h3, fun h => by rw [h] at h4; cases h4⟩
  have k10b : w2.cell? ⟨g, 10, none⟩ = some (.slice A n c) := bk2.cell 10
  have f10b : w2.frozen? ⟨g, 10, none⟩ = false := bk2.frozen 10
  have bk3 := bk2.set 10 (.slice A' n c')
  have br3 := br2.far (p := ⟨g, 10, none⟩) (by show g + 1 ≠ g; omega) (.slice A' n c')
  have hb3 := (hb0.trans (hb2.mono hb0.size)).setCell (p := ⟨g, 10, none⟩) (by show w.heap.size ≤ g; rw [HG.out]; exact Nat.le_refl _) (.slice A' n c')
  have hrd3 := hrd.grownS (grown_setCell w2 g 10 (.slice A' n c')) (fun a ha e => by
    have h1 := (hlo a ha).1
    have h2 := Option.some.inj e
    omega)
  have bk3' : Bk (w2.setCell ⟨g, 10, none⟩ (.slice A' n c')) g 40 (spC s A' n c') := bk3
  obtain ⟨w3, hw3⟩ : ∃ w3, w2.setCell ⟨g, 10, none⟩ (.slice A' n c') = w3 := ⟨_, rfl⟩
  rw [hw3] at bk3' br3 hb3 hrd3
  have HW3 := Lib.hid hw3
  clear hw3 bk3 bk2 br2 hb2 hrd happ HC hf1 bk br
  go_wp2_with (first
    | (refine wpList_load_row rfl 40 (.tmp 1) rfl g rfl 40 (spC s A' n c') (0, 0) _ (by rw [HW3.out]; exact bk3') Tryz.underlying40 rfl (by rfl) ?_; rw [HW3.out])
    | (refine wpList_store_row rfl 40 (.tmp 2) (.tmp 7) rfl (g + 1) (spC s A' n c') rfl rfl 40 zspC br3 (by rfl) rfl (spC_one s A' n c') ?_))
  try simp only [Exit.inBlock, Exit.then]
  refine bodyPost_ret (results_cell_row rfl _ _ (g + 1) 40 (spC s A' n c') (0, 0) _ rfl (br3.row _) Tryz.underlying40 rfl (by rfl)) rfl ?_
  refine ⟨A', c', rfl, ?_, ?_, hcap.1, ?_, ?_⟩
  · refine hrd3.grownS (only_row (g + 1) _) (fun a ha e => ?_)
    have h1 := (hlo a ha).1
    have h2 := Option.some.inj e
    omega
  · refine hb3.trans ?_
    exact ⟨rfl, rfl, rfl, by simp [World.setRow], fun i hi => by
      have := HG.out
      have := hb3.size
      simp [World.setRow, Array.getElem?_modify]
      intro e
      omega⟩
  · intro a ha
    have h1 := (hlo a ha).1
    have := hb0.size
    omega
  · intro h
    exact ⟨hne h, (hcap.2 h).1, (hcap.2 h).2⟩


/-- The first j digits. -/
def idP (x j : Nat) : List Int := (List.range j).map fun p => hexD (x / 16 ^ (15 - p) % 16)
theorem idP_all (x : Nat) : idP x 16 = idL x := rfl
theorem idP_len (x j : Nat) : (idP x j).length = j := by simp [idP]
theorem idP_succ (x j : Nat) : idP x (j + 1) = idP x j ++ [hexD (x / 16 ^ (15 - j) % 16)] := by simp [idP, List.range_succ]
theorem strOfNums_append (a b : List Int) : strOfNums (a ++ b) = strOfNums a ++ strOfNums b := by
  apply ByteArray.ext
  apply Array.ext'
  rw [ByteArray.data_append, Array.toList_append, strOfNums_data, strOfNums_data, strOfNums_data, List.map_append]
theorem strOfNums_size (a : List Int) : (strOfNums a).size = a.length := by
  have : (strOfNums a).data.toList.length = a.length := by rw [strOfNums_data, List.length_map]
  rwa [Array.length_toList] at this
theorem digits_cut (z : Nat) (hz : z < 16) : digits16.extract z (z + 1) = strOfNums [hexD z] := by
  have key : ∀ z : Nat, z < 16 → (digits16.extract z (z + 1)).data.toList = [hexD z].map fun n => UInt8.ofNat n.toNat := by decide +kernel
  apply ByteArray.ext
  apply Array.ext'
  rw [strOfNums_data]
  exact key z hz

end Go.Proofs.YtoojpagpkbcfjaaGreat


/- Spans: ParseTrace. -/
namespace Go.Proofs.YtoojpagpkbcfjaaGreat
open Go.RowKit

/-- A hexadecimal digit's value, or -1. -/
def hexV (c : Int) : Int := if 48 ≤ c ∧ c ≤ 57 then c - 48 else if 97 ≤ c ∧ c ≤ 102 then c - 87 else -1
theorem hexV_rng (c : Int) : -1 ≤ hexV c ∧ hexV c ≤ 15 := by
  unfold hexV
  split
  · omega
  · split <;> omega
/-- The two numbers that 32 digits tell. -/
def ptG : List Int → Nat → Nat → Nat → Option (Nat × Nat)
  | [], _, a, b => some (a, b)
  | c :: l, i, a, b => if hexV c < 0 then none else if i < 16 then ptG l (i + 1) (a * 16 + (hexV c).toNat) b else ptG l (i + 1) a (b * 16 + (hexV c).toNat)
/-- What ParseTrace tells: the trace, the error. -/
def ptOf (s : ByteArray) : Nat × Nat × Nat :=
  if s.size ≠ 32 then (0, 0, 2) else match ptG (nums s) 0 0 0 with
    | none => (0, 0, 2)
    | some (a, b) => if a = 0 ∧ b = 0 then (0, 0, 2) else (a, b, 0)
theorem or_nib (v d : Nat) (hv : v < 1152921504606846976) (hd : d < 16) : bits .or .u64 (((v * 16 : Nat)) : Int) (d : Int) = ((v * 16 + d : Nat) : Int) := by
  rw [u64_or_nat _ _ (by omega) (by omega)]
  have e : v * 16 = 2 ^ 4 * v := by omega
  rw [e, ← Nat.two_pow_add_eq_or_of_lt (show d < 2 ^ 4 from by omega) v]

theorem resCellTmp {P : Program} {fn : Func} {p u : Tmp} {ty : TypeId} (h : fn.results = #[.cell p ty, .tmp u]) (tmps : Array Value) (w : World) (g : Nat) (t : TypeId) (cs : Array Value) (d : TypeDesc)
    (hp : tmps.getD p undef = .pointer (some ⟨g, 0, none⟩)) (hg : Bk w g t cs)
    (hu : P.underlying ty = some d) (hd : (match d with | .struct _ | .array _ _ => true | _ => false) = true) (hi : (P.info? ty).map (·.size) = some cs.size) :
    (results fn tmps).run P w = .ok (.tuple #[.agg cs, tmps.getD u undef]) w := by
  rw [results_cell_tmp h, hp]
  simp [asAddr, Result.andThen, run_loadVar_row w g t ty cs (0, 0) d hg hu hd hi]

theorem Bk.rowT {w : World} {g : Nat} {t : TypeId} {old : Array Value} (h : Bk w g t old) (cs : Array Value) : Bk (w.setRow g cs) g t cs := setRow_heap w g old cs t (0, 0) h
theorem below_rowT (w : World) {B g : Nat} (h : B ≤ g) (cs : Array Value) : Below B w (w.setRow g cs) :=
  ⟨rfl, rfl, rfl, by simp [World.setRow], fun i hi => by simp [World.setRow, Array.getElem?_modify]; intro e; omega⟩
theorem ptG_drop {s : ByteArray} {i a b : Nat} {c : Int} (h : (nums s)[i]? = some c) : ptG ((nums s).drop i) i a b = if hexV c < 0 then none else if i < 16 then ptG ((nums s).drop (i + 1)) (i + 1) (a * 16 + (hexV c).toNat) b else ptG ((nums s).drop (i + 1)) (i + 1) a (b * 16 + (hexV c).toNat) := by
  have hl := (List.getElem?_eq_some_iff.1 h).1
  have e : (nums s).drop i = c :: (nums s).drop (i + 1) := by
    rw [List.drop_eq_getElem_cons hl, (List.getElem?_eq_some_iff.1 h).2]
  rw [e, ptG]

end Go.Proofs.YtoojpagpkbcfjaaGreat

