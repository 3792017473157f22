/- Texts of the proof of DepsNamesSaid, joined: CpP SoR StK QuS Stw SpPl SpG0 SpN. -/
import Derived.Test.YthaiplhjekkooaaJDepsNames1
import Derived.ArgAppend
import Derived.Deep.Cut
import Derived.Deep.RegionHeld3
import Derived.Deep.QuietTactic
/- What a copy of a span is. -/
namespace Go.Proofs.Ythaiplhjekkooaa
open Go.RowKit

/-- Copy hands back the same span, its tags in memory of its own. -/
def CopyPost (w : World) (s : Sp) (n : Nat) (A : Option Addr) (e : Ending) (w' : World) : Prop :=
  ∃ A' c', e = .returned (.agg (spC s A' n c')) ∧ RbT w' w'.heap.size A' s.tags ∧ Below w.heap.size w w' ∧ n ≤ c' ∧ (∀ a, A' = some a → w.heap.size ≤ a.block) ∧ (A' = none → A = none ∧ n = 0 ∧ c' = 0)

@[go_sem] theorem nil_eq_tags (W : World) (a : Option Addr) (n c n' c' : Nat) : (binOp .eql 41 (.slice a n c) (.slice none n' c')).run Try.prog W = .ok (.bool a.isNone) W :=
  Lib.run_eql_slice_nil W _ _ a n c n' c' Try.underlying41
theorem wpList_appTg (w : World) {ops : Array Oper} {rest : List Oper} {o : Oper} {a : Act} {Q : Exit → Act → World → Prop} (hgd : o.guard = none) (s x : Operand)
    (ho : o.op = .call { callee := .builtin .append, args := #[s, x], argTypes := #[41, 41] })
    (base : Nat) (v : Value) (n : Nat) (l : List Tg) (hs : a.eval s = v) (hown : w.ownsRow base 90 2 v n (tgs l))
    (B : Nat) (A : Option Addr) (m c : Nat) (news : List Tg) (hx : a.eval x = .slice A m c) (hl : news.length = m) (hr : RbT w B A news)
    (hbytes : n + m ≤ 4398046511104) (hbase : base ≤ w.heap.size)
    (h : ∀ A' c' w', App base 90 2 w v w' (.slice A' (n + m) c') (n + m) (tgs (l ++ news)) → (A' = none → v = .slice none 0 0 ∧ m = 0) → wpList Try.prog ops Q rest (a.put o.dst (.slice A' (n + m) c')) w') :
    wpList Try.prog ops Q (o :: rest) a w :=
  wpList_plain hgd fun _ hK => wp_appT w s x ho base v n l hs hown B A m c news hx hl hr hbytes hbase fun A' c' w' h1 h2 => hK _ _ (h A' c' w' h1 h2)

theorem tags_nil {w : World} {B : Nat} {l : List Tg} (h : RbT w B none l) : l = [] := by
  cases l with
  | nil => rfl
  | cons x l =>
    obtain ⟨b, o, e, _⟩ := h (by intro e; have := tgs_length (x :: l); rw [e] at this; simp at this)
    cases e
theorem grown_setCell (W : World) (b o : Nat) (v : Value) : W.grownBy (W.setCell ⟨b, o, none⟩ v) (some b) :=
  ⟨rfl, rfl, rfl, by simp, fun i _ hne => Below.heap_setCell W ⟨b, o, none⟩ v i (fun e => hne (by rw [e]))⟩

end Go.Proofs.Ythaiplhjekkooaa

/- Rows of spans of the call's own; a span laid into one. -/
namespace Go.Proofs.Ythaiplhjekkooaa
open Go.RowKit
attribute [local go_sem ↓] loadK_shut
attribute [local go_sem ↓] appK_shut

def sps (l : List El) : List Sp := l.map (·.s)
theorem sps_length (l : List El) : (sps l).length = l.length := by simp [sps]
theorem sps_get {l : List El} {i : Nat} {e : El} (h : l[i]? = some e) : (sps l)[i]? = some e.s := by simp [sps, h]
/-- A row of spans that is the walk's own; their tags lie elsewhere. -/
structure RowS (w : World) (base : Nat) (v : Value) (n : Nat) (l : List El) : Prop where
  own : w.ownsRow base 43 11 v n (els l)
  len : l.length = n
  ok : ∀ e ∈ l, ElOk w w.heap.size e
  far : ∀ e ∈ l, e.s.tags ≠ [] → ∀ a, e.A = some a → v.ownBlock ≠ some a.block

theorem spinfo : (Try.prog.info? 43).map (fun i => (i.zero, i.size, i.bytes)) = some (some (.agg zspC), 11, 120) := by kernel_rfl
/-- append of spans. -/
theorem wpList_appS (w : World) {ops : Array Oper} {rest : List Oper} {o : Oper} {a : Act} {Q : Exit → Act → World → Prop} (hgd : o.guard = none) (s x : Operand)
    (ho : o.op = .call { callee := .builtin .append, args := #[s, x], argTypes := #[34, 34] })
    (base : Nat) (v : Value) (n : Nat) (l : List El) (hs : a.eval s = v) (hown : w.ownsRow base 43 11 v n (els l))
    (B : Nat) (A : Option Addr) (m c : Nat) (news : List El) (hx : a.eval x = .slice A m c) (hl : news.length = m) (hr : Rd w B A (els news))
    (hbytes : n + m ≤ 1048576) (hbase : base ≤ w.heap.size)
    (h : ∀ A' c' w', App base 43 11 w v w' (.slice A' (n + m) c') (n + m) (els (l ++ news)) → (A' = none → v = .slice none 0 0 ∧ m = 0) → wpList Try.prog ops Q rest (a.put o.dst (.slice A' (n + m) c')) w') :
    wpList Try.prog ops Q (o :: rest) a w := by
  obtain ⟨i0, hi0, hz0, hz1, hz2⟩ := info_parts spinfo
  refine wpList_app w hgd s x _ ho base 43 i0 _ 11 120 Try.underlying34 hi0 hz0 hz1 hz2 rfl (by omega) v n (els l) hs hown B A m c (els news) hx (by rw [els_length]; omega) hr (els_one news) (by simp only [maxLen]; omega) (by omega) hbase ?_
  intro A' c' w' h1 h2 h3 h4
  rw [← els_append] at h1
  exact h A' c' w' ((App.refl hown).step h1 h2 h3) h4

theorem RowS.app {w w' : World} {base j : Nat} {v v' : Value} {l es : List El} (h : RowS w base v j l) (hap : App base 43 11 w v w' v' (j + es.length) (els (l ++ es)))
    (hes : ∀ e ∈ es, ElOk w w.heap.size e) (hfe : ∀ e ∈ es, e.s.tags ≠ [] → ∀ a, e.A = some a → v.ownBlock ≠ some a.block) : RowS w' base v' (j + es.length) (l ++ es) := by
  have hall : ∀ e ∈ l ++ es, ElOk w w.heap.size e ∧ (e.s.tags ≠ [] → ∀ a, e.A = some a → v.ownBlock ≠ some a.block) := fun e he => by
    rcases List.mem_append.1 he with he | he
    · exact ⟨h.ok e he, h.far e he⟩
    · exact ⟨hes e he, hfe e he⟩
  refine ⟨hap.own, by simp [h.len], fun e he => ?_, fun e he ht a ha => ?_⟩
  · obtain ⟨h1, h2⟩ := hall e he
    refine ⟨?_, h1.len, h1.max⟩
    by_cases ht : e.s.tags = []
    · rw [ht]
      exact Rd.nil
    · exact h1.rd.grownS hap.grown fun a ha => h2 ht a ha
  · obtain ⟨h1, h2⟩ := hall e he
    rcases hap.block with hb | ⟨k, hb, hk⟩
    · rw [hb]
      exact h2 ht a ha
    · rw [hb]
      intro e1
      have e2 := Option.some.inj e1
      obtain ⟨b, o, hA, hlt, _⟩ := h1.rd (by intro e0; have := tgs_length e.s.tags; rw [e0] at this; exact ht (List.eq_nil_of_length_eq_zero (by simp at this; omega)))
      rw [ha] at hA
      have e3 := Option.some.inj hA
      subst e3
      simp only at e2
      omega
theorem RowS.bS {w w' : World} {base n : Nat} {v : Value} {l : List El} (h : RowS w base v n l) (hb : Below w.heap.size w w') : RowS w' base v n l :=
  ⟨((App.refl h.own).later hb).own, h.len, fun e he => ((h.ok e he).below hb).more hb.size, h.far⟩
theorem RowS.own_lt {w : World} {base n : Nat} {v : Value} {l : List El} (h : RowS w base v n l) : ∀ k, v.ownBlock = some k → k < w.heap.size ∧ base ≤ k := fun k hk => by
  rcases h.own.2 with ⟨h1, _⟩ | ⟨g, cap, cur, h1, hbase, hb, _⟩
  · rw [h1] at hk
    cases hk
  · rw [h1] at hk
    have e := Option.some.inj hk
    simp only at e
    subst e
    exact ⟨(Array.getElem?_eq_some_iff.1 hb).1, hbase⟩
theorem RowS.nil (w : World) (base : Nat) : RowS w base (.slice none 0 0) 0 [] := ⟨World.ownsRow_nil _ _ _ _, rfl, fun _ h => absurd h (by simp), fun _ h => absurd h (by simp)⟩
theorem RowS.rbs {w : World} {base n c : Nat} {A : Option Addr} {l : List El} (h : RowS w base (.slice A n c) n l) : RbS w w.heap.size A l := ⟨Rd.of_own h.own, h.ok⟩
theorem sps_append (a b : List El) : sps (a ++ b) = sps a ++ sps b := by simp [sps]
theorem els_single (e : El) : els [e] = elC e := by simp [els]
theorem rd_span {w : World} {g : Nat} (hg : w.heap.size = g) (e : El) : Rd (w.alloc (.cells (spC e.s e.A e.n e.c) 43)) (g + 1) (some ⟨g, 0, none⟩) (els [e]) := by
  rw [els_single]
  exact Rd.lit' hg

/-- A slice of spans of the call's own, in the order l tells. -/
def OutPost (w : World) (n : Nat) (ss : List Sp) (e : Ending) (w' : World) : Prop :=
  ∃ A' c' l', e = .returned (.slice A' n c') ∧ sps l' = ss ∧ RowS w' w.heap.size (.slice A' n c') n l' ∧ Below w.heap.size w w'
/-- Where a part of a row of spans begins. -/
def cutA (a : Option Addr) (m k s : Nat) : Option Addr := if m = k then a else a.map (·.add (k * s))
theorem sliced_s (a : Option Addr) (k h m s : Nat) : sliced a k h m s = .slice (cutA a m k s) (h - k) (m - k) := rfl
theorem sliced_s0 (a : Option Addr) (h m s : Nat) : sliced a 0 h m s = .slice a h m := by
  simp only [sliced, Nat.zero_mul, Nat.sub_zero]
  split
  · rfl
  · cases a <;> rfl
theorem own_take {w : World} {base n c k size : Nat} {e : TypeId} {A : Option Addr} {xs : List Value} (h : w.ownsRow base e size (.slice A n c) n xs) (hk : k ≤ n) : w.ownsRow base e size (.slice A k c) k (xs.take (k * size)) := by
  refine ⟨by rw [List.length_take, h.1]; exact Nat.min_eq_left (Nat.mul_le_mul_right size hk), ?_⟩
  rcases h.2 with ⟨h1, h2⟩ | ⟨g, cap, cur, h1, hb, hg, hn, hc, hs, ht⟩
  · injection h1 with e1 _ e3
    subst e1 e3 h2
    obtain rfl : k = 0 := by omega
    exact .inl ⟨rfl, rfl⟩
  · injection h1 with e1 _ e3
    subst e1 e3
    refine .inr ⟨g, c, cur, rfl, hb, hg, by omega, hc, hs, ?_⟩
    rw [← ht, List.take_take, Nat.min_eq_left (Nat.mul_le_mul_right size hk)]
theorem RowS.take {w : World} {base n c k : Nat} {A : Option Addr} {l : List El} (h : RowS w base (.slice A n c) n l) (hk : k ≤ n) : RowS w base (.slice A k c) k (l.take k) := by
  have h1 := own_take h.own hk
  rw [els_take] at h1
  exact ⟨h1, by rw [List.length_take, h.len]; omega, fun e he => h.ok e (List.mem_of_mem_take he), fun e he ht a ha => by
    have := h.far e (List.mem_of_mem_take he) ht a ha
    cases A with
    | none => intro e1; cases e1
    | some q => exact this⟩
theorem Rd.dropS {w : World} {B k cap : Nat} {A : Option Addr} {l : List El} (h : Rd w B A (els l)) (hc : l.length ≤ cap) : Rd w B (cutA A cap k 11) (els (l.drop k)) := by
  unfold cutA
  rw [← els_drop]
  have h1 := Rd.drop (k := k * 11) (cap := cap * 11) h (by rw [els_length]; omega)
  by_cases hk : cap = k
  · rw [if_pos hk]
    rwa [if_pos (by omega)] at h1
  · rw [if_neg hk]
    rwa [if_neg (by omega)] at h1
theorem RowS.drewN {w : World} {base n : Nat} {v : Value} {l : List El} (h : RowS w base v n l) (k : Nat) : RowS (w.drewN k) base v n l := h.bS (below_drewN (Below.refl _ _) k)
theorem RowS.cap {w : World} {base n c : Nat} {A : Option Addr} {l : List El} (h : RowS w base (.slice A n c) n l) : n ≤ c := by
  rcases h.own.2 with ⟨h1, h2⟩ | ⟨g, cap, cur, h1, _, _, hn, _⟩
  · omega
  · injection h1 with _ _ e3
    omega
theorem run_appS (w : World) (base : Nat) (v : Value) (n : Nat) (l : List El) (hown : w.ownsRow base 43 11 v n (els l))
    (B : Nat) (A : Option Addr) (m c : Nat) (news : List El) (hl : news.length = m) (hr : Rd w B A (els news)) (hbytes : n + m ≤ 1048576) (hbase : base ≤ w.heap.size) :
    ∃ A' c' w', (appK #[34, 34] 34 #[v, .slice A m c]).run Try.prog w = .ok (.slice A' (n + m) c') w' ∧ App base 43 11 w v w' (.slice A' (n + m) c') (n + m) (els (l ++ news)) := by
  obtain ⟨i0, hi0, hz0, hz1, hz2⟩ := info_parts spinfo
  obtain ⟨v', w', hrun, h2, h3, h4, ⟨A', c', rfl⟩, h6⟩ := run_app (P := Try.prog) w base 34 34 43 i0 _ 11 120 Try.underlying34 hi0 hz0 hz1 hz2 rfl (by omega) v n (els l) hown B A m c (els news) (by rw [els_length, hl]) hr (els_one news) (by simp only [maxLen]; omega) (by omega) hbase
  rw [← els_append] at h2
  exact ⟨A', c', w', hrun, (App.refl hown).step h2 h3 h4⟩
/-- A span beside a row. -/
def OkF (w : World) (v : Value) (e : El) : Prop := ElOk w w.heap.size e ∧ (e.s.tags ≠ [] → ∀ a, e.A = some a → v.ownBlock ≠ some a.block)
theorem OkF.app {w w' : World} {base n : Nat} {v v' : Value} {xs : List Value} {e : El} (h : OkF w v e) (hap : App base 43 11 w v w' v' n xs) : OkF w' v' e := by
  obtain ⟨h1, h2⟩ := h
  refine ⟨⟨?_, h1.len, h1.max⟩, fun ht a ha => ?_⟩
  · by_cases ht : e.s.tags = []
    · rw [ht]
      exact Rd.nil
    · exact h1.rd.grownS hap.grown fun a ha => h2 ht a ha
  · rcases hap.block with hb | ⟨k, hb, hk⟩
    · rw [hb]
      exact h2 ht a ha
    · rw [hb]
      intro e1
      have e2 := Option.some.inj e1
      obtain ⟨b, o, hA, hlt, _⟩ := h1.rd (by intro e0; have := tgs_length e.s.tags; rw [e0] at this; exact ht (List.eq_nil_of_length_eq_zero (by simp at this; omega)))
      rw [ha] at hA
      have e3 := Option.some.inj hA
      subst e3
      simp only at e2
      omega
/-- One span laid into a row at k, what lay behind it being put back. -/
theorem insRow {base lo j k c c3 : Nat} {A A3 : Option Addr} {l : List El} {e : El} (W3 W4 : World) (hrow : RowS W3 base (.slice A j c) j l) (hk : k ≤ j) (hj : j ≤ 100000)
    (hA3 : W3.ownsRow lo 43 11 (.slice A3 (j - k) c3) (j - k) (els (l.drop k))) (hne : ∀ a, A3 = some a → (Value.slice A j c).ownBlock ≠ some a.block) (hbase : base ≤ W3.heap.size)
    (hb4 : Below W3.heap.size W3 W4) (hek : ElOk W4 W4.heap.size e) (hef : ∀ a, e.A = some a → W3.heap.size ≤ a.block) :
    ∃ A5 c5 w5 A6 c6 w6, (appK #[34, 34] 34 #[.slice A k c, .slice (some ⟨W4.heap.size, 0, none⟩) 1 1]).run Try.prog (W4.alloc (.cells (spC e.s e.A e.n e.c) 43)) = .ok (.slice A5 (k + 1) c5) w5 ∧
      (appK #[34, 34] 34 #[.slice A5 (k + 1) c5, .slice A3 (j - k) c3]).run Try.prog w5 = .ok (.slice A6 (j + 1) c6) w6 ∧ RowS w6 base (.slice A6 (j + 1) c6) (j + 1) (l.take k ++ e :: l.drop k) ∧ Below base W3 w6 := by
  have hb5 : Below W3.heap.size W3 (W4.alloc (.cells (spC e.s e.A e.n e.c) 43)) := hb4.alloc hb4.size _
  have hrd : Rd (W4.alloc (.cells (spC e.s e.A e.n e.c) 43)) (W4.heap.size + 1) (some ⟨W4.heap.size, 0, none⟩) (els [e]) := rd_span rfl e
  have hek5 : ElOk (W4.alloc (.cells (spC e.s e.A e.n e.c) 43)) (W4.alloc (.cells (spC e.s e.A e.n e.c) 43)).heap.size e :=
    (hek.below ((Below.refl _ W4).alloc (Nat.le_refl _) _)).more (by simp)
  obtain ⟨W5, hW5⟩ : ∃ W5, W4.alloc (.cells (spC e.s e.A e.n e.c) 43) = W5 := ⟨_, rfl⟩
  rw [hW5] at hb5 hrd hek5 ⊢
  have hrow5 := hrow.bS hb5
  have hob : (Value.slice A k c).ownBlock = (Value.slice A j c).ownBlock := by cases A <;> rfl
  have hlt := hrow.own_lt
  have hF : ∀ x ∈ e :: l, OkF W5 (.slice A k c) x := fun x hx => by
    rcases List.mem_cons.1 hx with rfl | hx
    · refine ⟨hek5, fun _ a ha e1 => ?_⟩
      rw [hob] at e1
      have h1 := (hlt _ e1).1
      have h2 := hef a ha
      omega
    · refine ⟨hrow5.ok x hx, fun ht a ha => ?_⟩
      rw [hob]
      exact hrow5.far x hx ht a ha
  have hbW : base ≤ W5.heap.size := Nat.le_trans hbase hb5.size
  obtain ⟨A5, c5, w5, hrun5, hap5⟩ := run_appS W5 base (.slice A k c) k (l.take k) (hrow5.take hk).own _ _ 1 1 [e] rfl hrd (by omega) hbW
  have hgr5 := hap5.grown
  rw [hob] at hgr5
  have hA5 := Rd.grownS (Rd.of_own ((App.refl hA3).later hb5).own) hgr5 hne
  have hl2 : (l.drop k).length = j - k := by rw [List.length_drop, hrow.len]
  obtain ⟨A6, c6, w6, hrun6, hap6⟩ := run_appS w5 base (.slice A5 (k + 1) c5) (k + 1) (l.take k ++ [e]) hap5.own _ A3 (j - k) c3 (l.drop k) hl2 hA5 (by omega) (Nat.le_trans hbW hap5.heap)
  rw [show k + 1 + (j - k) = j + 1 from by omega, List.append_assoc, List.singleton_append] at hap6
  rw [show k + 1 + (j - k) = j + 1 from by omega] at hrun6
  have hF6 : ∀ x ∈ l.take k ++ e :: l.drop k, OkF w6 (.slice A6 (j + 1) c6) x := fun x hx => by
    refine OkF.app (OkF.app (hF x ?_) hap5) hap6
    rcases List.mem_append.1 hx with hx | hx
    · exact List.mem_cons_of_mem _ (List.mem_of_mem_take hx)
    · rcases List.mem_cons.1 hx with rfl | hx
      · exact List.mem_cons_self
      · exact List.mem_cons_of_mem _ (List.mem_of_mem_drop hx)
  refine ⟨A5, c5, w5, A6, c6, w6, hrun5, hrun6, ⟨hap6.own, ?_, fun x hx => (hF6 x hx).1, fun x hx => (hF6 x hx).2⟩, ?_⟩
  · rw [List.length_append, List.length_take, List.length_cons, hl2, hrow.len]
    omega
  · have h5 : Below base W5 w5 := hap5.below hbW (fun q hq => (hlt q (by rw [← hob]; exact hq)).2)
    have h6 : Below base w5 w6 := hap6.below (Nat.le_trans hbW hap5.heap) (fun q hq => by
      rcases hap5.block with hb | ⟨r, hb, hr⟩
      · rw [hb, hob] at hq
        exact (hlt q hq).2
      · rw [hb] at hq
        have := Option.some.inj hq
        omega)
    exact ((hb5.mono hbase).trans h5).trans h6
end Go.Proofs.Ythaiplhjekkooaa

/- Texts as keys. -/
namespace Go.Proofs.Ythaiplhjekkooaa
open Go.RowKit Go.MapKept Go.ChangeMaps

abbrev strV (s : ByteArray) : Value := .string s
theorem strRun {P : Program} {kt : TypeId} (hk : P.underlying kt = some .string) : KeyRun P kt strV where
  inj h := by injection h
  check w em x := MapKept.run_checkKey hk (by simp [IsKey]) em 9999
  find w x es hes := by
    rcases findNow_spec (d := .string) (k := .string x) (by simp [IsKey]) es 0 (fun e he => by obtain ⟨y, hy⟩ := hes e he; rw [hy]; simp [IsKey]) with ⟨h1, h2⟩ | ⟨j, e, h1, h2, h3⟩
    · exact .inl ⟨MapKept.run_findKey hk h1, h2⟩
    · exact .inr ⟨j, e, by rw [MapKept.run_findKey hk h1, Nat.zero_add], h2, h3⟩
  stays w x := MapKept.run_keyThatStays (d := .string) (by simp [IsKey])
theorem Rs.get {w : World} {B : Nat} {A : Option Addr} {xs : List ByteArray} (h : Rd w B A (xs.map strV)) {i : Nat} {x : ByteArray} (hi : xs[i]? = some x) : ∃ b o, A = some ⟨b, o, none⟩ ∧ w.cell? ⟨b, o + i, none⟩ = some (.string x) := by
  obtain ⟨b, o, e, -, hc⟩ := Rd.get h (show (xs.map strV)[i]? = some (.string x) by rw [List.getElem?_map, hi]; rfl)
  exact ⟨b, o, e, hc⟩
end Go.Proofs.Ythaiplhjekkooaa

/- A queue of strings: its front is cut off, it grows at its end. -/
namespace Go.Proofs.Ythaiplhjekkooaa
open Go.RowKit

/-- The strings xs, in a part of a row. -/
def Qu (w : World) (base : Nat) (v : Value) (n : Nat) (xs : List ByteArray) : Prop :=
  ∃ g off cap cur, v = .slice (some ⟨g, off, none⟩) n cap ∧ base ≤ g ∧ Bk w g 9 cur ∧ n ≤ cap ∧ off + cap ≤ cur.size ∧ xs.length = n ∧ ∀ j s, xs[j]? = some s → cur[off + j]? = some (.string s)
theorem Qu.one (w : World) (s : ByteArray) {base : Nat} (hb : base ≤ w.heap.size) : Qu (w.alloc (.cells #[.string s] 9)) base (.slice (some ⟨w.heap.size, 0, none⟩) 1 1) 1 [s] :=
  ⟨w.heap.size, 0, 1, #[.string s], rfl, hb, Bk.new w _ _, Nat.le_refl _, by simp, rfl, fun j t h => by
    cases j with
    | zero => simp at h; subst h; rfl
    | succ j => simp at h⟩
theorem Qu.below {w w' : World} {base n : Nat} {v : Value} {xs : List ByteArray} (h : Qu w base v n xs) (hb : Below w.heap.size w w') : Qu w' base v n xs := by
  obtain ⟨g, off, cap, cur, h1, h2, h3, h4⟩ := h
  exact ⟨g, off, cap, cur, h1, h2, h3.below hb h3.lt, h4⟩
theorem Qu.grown {w w' : World} {base n : Nat} {k : Option Nat} {v : Value} {xs : List ByteArray} (h : Qu w base v n xs) (hg : w.grownBy w' k) (hne : v.ownBlock ≠ k) : Qu w' base v n xs := by
  obtain ⟨g, off, cap, cur, rfl, h2, h3, h4⟩ := h
  exact ⟨g, off, cap, cur, rfl, h2, (hg.block g h3.lt hne).trans h3, h4⟩
theorem Qu.len {w : World} {base n : Nat} {v : Value} {xs : List ByteArray} (h : Qu w base v n xs) : xs.length = n := by
  obtain ⟨g, off, cap, cur, h1, h2, h3, h4, h5, h6, h7⟩ := h
  exact h6
theorem Qu.lo {w : World} {base n : Nat} {v : Value} {xs : List ByteArray} (h : Qu w base v n xs) : ∀ j, v.ownBlock = some j → base ≤ j := fun j hj => by
  obtain ⟨g, off, cap, cur, rfl, h2, -⟩ := h
  have := Option.some.inj hj
  simp only at this
  omega
theorem Qu.first {w : World} {base n : Nat} {v : Value} {x : ByteArray} {xs : List ByteArray} (h : Qu w base v n (x :: xs)) :
    ∃ g off cap, v = .slice (some ⟨g, off, none⟩) n cap ∧ n ≤ cap ∧ 1 ≤ n ∧ w.cell? ⟨g, off, none⟩ = some (.string x) ∧ Qu w base (.slice (cutA (some ⟨g, off, none⟩) cap 1 1) (n - 1) (cap - 1)) (n - 1) xs ∧
      (Value.slice (cutA (some ⟨g, off, none⟩) cap 1 1) (n - 1) (cap - 1)).ownBlock = v.ownBlock := by
  obtain ⟨g, off, cap, cur, rfl, h2, h3, h4, h5, h6, h7⟩ := h
  have hx := h7 0 x rfl
  rw [List.length_cons] at h6
  refine ⟨g, off, cap, rfl, h4, by omega, by rw [h3.cell off]; exact hx, ?_, ?_⟩
  · unfold cutA
    by_cases hc : cap = 1
    · rw [if_pos hc]
      have hx0 : xs = [] := List.eq_nil_of_length_eq_zero (by omega)
      subst hx0
      exact ⟨g, off, cap - 1, cur, rfl, h2, h3, by omega, by omega, by simp at h6 ⊢; omega, fun j s hj => by simp at hj⟩
    · rw [if_neg hc]
      refine ⟨g, off + 1, cap - 1, cur, rfl, h2, h3, by omega, by omega, by omega, fun j s hj => ?_⟩
      have := h7 (j + 1) s (by simpa using hj)
      rw [← this]
      congr 1
      omega
  · unfold cutA
    split <;> rfl
theorem grown_setCellQ (w : World) (g i : Nat) (u : Value) : w.grownBy (w.setCell ⟨g, i, none⟩ u) (some g) :=
  ⟨rfl, rfl, rfl, by simp, fun k _ hne => heap_setCell_other w _ k u (fun e => hne (by rw [e]))⟩
theorem strinfo : (Try.prog.info? 9).map (fun i => (i.zero, i.size, i.bytes)) = some (some (.string ⟨#[]⟩), 1, 16) := by kernel_rfl
/-- append of one string to a queue. -/
theorem wpList_appQ (w : World) {ops : Array Oper} {rest : List Oper} {o : Oper} {a : Act} {Q : Exit → Act → World → Prop} (hgd : o.guard = none) (s x : Operand)
    (ho : o.op = .call { callee := .builtin .append, args := #[s, x], argTypes := #[57, 57] })
    (base : Nat) (v : Value) (n : Nat) (xs : List ByteArray) (hs : a.eval s = v) (h : Qu w base v n xs) (u : ByteArray) (G c : Nat) (hx : a.eval x = .slice (some ⟨G, 0, none⟩) 1 c) (hG : w.cell? ⟨G, 0, none⟩ = some (.string u))
    (hbytes : n ≤ 1048576) (hbase : base ≤ w.heap.size)
    (hK : ∀ v' w' k, Qu w' base v' (n + 1) (xs ++ [u]) → w.grownBy w' k → (k = v.ownBlock ∧ v'.ownBlock = v.ownBlock ∨ k = none ∧ ∃ g', v'.ownBlock = some g' ∧ w.heap.size ≤ g') → wpList Try.prog ops Q rest (a.put o.dst v') w') :
    wpList Try.prog ops Q (o :: rest) a w := by
  obtain ⟨i0, hi0, hz0, hz1, hz2⟩ := info_parts strinfo
  obtain ⟨g, off, cap, cur, rfl, h2, h3, h4, h5, h6, h7⟩ := h
  have hcur : ∀ j, w.cell? ⟨g, j, none⟩ = cur[j]? := fun j => h3.cell j
  have hlo : (xs.map strV).length = n * 1 := by rw [List.length_map, h6, Nat.mul_one]
  refine wpList_append_arg w hgd s x 57 ho 9 i0 (.string ⟨#[]⟩) 1 16 Try.underlying57 hi0 hz0 hz1 hz2 rfl (by omega) g off n cap (xs.map strV) hs hlo
    (fun j u hj => by
      rw [List.getElem?_map, Option.map_eq_some_iff] at hj
      obtain ⟨t, ht, rfl⟩ := hj
      rw [hcur]
      exact h7 j t ht) ⟨G, 0, none⟩ 1 c [.string u] hx rfl (fun j u' hj => by
      cases j with
      | zero => simp at hj; subst hj; exact hG
      | succ j => simp at hj) (fun u' hu => by simp at hu; subst hu; rfl)
    (fun hr j hj => by
      have hj0 : j = 0 := by simpa using hj
      subst hj0
      have hlt : off + n * 1 + 0 < cur.size := by omega
      refine ⟨by rw [hcur, Array.getElem?_eq_getElem hlt]; rfl, ?_⟩
      simp only [World.frozen?]
      rw [show w.heap[g]? = some (.cells cur 9 (0, 0)) from h3]
      simp) (by simp only [maxLen]; omega) (by omega) ?_ ?_
  · intro hr
    have e0 : w.setCells g (off + n * 1) [.string u] = w.setCell ⟨g, off + n, none⟩ (.string u) := by rw [Nat.mul_one]; rfl
    rw [e0]
    refine hK _ _ (some g) ⟨g, off, cap, cur.setIfInBounds (off + n) (.string u), rfl, h2, h3.set _ _, hr, by rw [Array.size_setIfInBounds]; exact h5, by simp [h6], fun j t hj => ?_⟩ (grown_setCellQ _ _ _ _) (.inl ⟨rfl, rfl⟩)
    rw [Array.getElem?_setIfInBounds]
    by_cases hjn : j < xs.length
    · rw [List.getElem?_append_left hjn] at hj
      rw [if_neg (by omega)]
      exact h7 j t hj
    · rw [List.getElem?_append_right (by omega)] at hj
      have hj1 := (List.getElem?_eq_some_iff.1 hj).1
      have hjx : j = n := by simp at hj1; omega
      subst hjx
      rw [h6, Nat.sub_self] at hj
      simp at hj
      subst hj
      rw [if_pos rfl, if_pos (by omega)]
  · intro hf v' w' hown hgr
    rcases hown.2 with ⟨h8, h9⟩ | ⟨g', cap', cur', rfl, hbase', hb', hnc', hcm', hcs', htk'⟩
    · omega
    · refine hK _ _ none ⟨g', 0, cap', cur', rfl, Nat.le_trans hbase hbase', hb', hnc', by omega, by simp [h6], fun j t hj => ?_⟩ hgr (.inr ⟨rfl, g', rfl, hbase'⟩)
      have e1 : xs.map strV ++ [Value.string u] = (xs ++ [u]).map strV := by simp
      have hjl := (List.getElem?_eq_some_iff.1 hj).1
      have hjl2 : j < n + 1 := by simp at hjl; omega
      have h8 : (cur'.toList.take ((n + 1) * 1))[j]? = some (.string t) := by
        rw [htk', e1, List.getElem?_map, hj]
        rfl
      rw [List.getElem?_take, if_pos (by omega)] at h8
      rw [Nat.zero_add]
      simpa using h8
end Go.Proofs.Ythaiplhjekkooaa

/- Numbers and strings stand in one of three ways. -/
namespace Go.Proofs.Ythaiplhjekkooaa
open Go.RowKit

def cmpI (x y : Int) : Int := if x < y then -1 else if y < x then 1 else 0
theorem strEq_of' {s t : ByteArray} : (s.toList == t.toList) = decide (s = t) := by
  rw [ByteArray.toList_eq, ByteArray.toList_eq, Bool.eq_iff_iff, beq_iff_eq, decide_eq_true_iff]
  exact ⟨fun h => ByteArray.ext (Array.ext' h), fun h => by rw [h]⟩
def cmpS (s t : ByteArray) : Int := if strLt s t = true then -1 else if s = t then 0 else 1
theorem stw_ltb (s t : ByteArray) : strLt s t = ltb (nums s) (nums t) := by
  have := ltb_str (nums_byt s) (nums_byt t)
  rw [strOf_nums, strOf_nums] at this
  exact this
theorem stw_irr : ∀ (a : List Int), ltb a a = false
  | [] => rfl
  | x :: a => by rw [ltb, stw_irr a]; simp
theorem stw_tr : ∀ (a b c : List Int), ltb a b = true → ltb b c = true → ltb a c = true
  | a, [], _, h, _ => by simp [ltb] at h
  | _, y :: b, [], _, h => by simp [ltb] at h
  | [], _ :: _, _ :: _, _, _ => rfl
  | x :: a, y :: b, z :: c, h1, h2 => by
    simp only [ltb, Bool.or_eq_true, Bool.and_eq_true, decide_eq_true_eq] at h1 h2 ⊢
    rcases h1 with h1 | ⟨h1, h1'⟩
    · rcases h2 with h2 | ⟨h2, _⟩ <;> exact .inl (by omega)
    · rcases h2 with h2 | ⟨h2, h2'⟩
      · exact .inl (by omega)
      · exact .inr ⟨by omega, stw_tr a b c h1' h2'⟩
theorem stw_tri : ∀ (a b : List Int), ltb a b = false → ltb b a = false → a = b
  | [], [], _, _ => rfl
  | [], _ :: _, h, _ => by cases h
  | _ :: _, [], _, h => by cases h
  | x :: a, y :: b, h1, h2 => by
    simp only [ltb, Bool.or_eq_false_iff, Bool.and_eq_false_iff, decide_eq_false_iff_not] at h1 h2
    have hxy : x = y := by omega
    subst hxy
    rw [stw_tri a b (by rcases h1.2 with h | h; · exact absurd rfl h
                        · exact h) (by rcases h2.2 with h | h; · exact absurd rfl h
                                       · exact h)]
theorem strLt_ways (s t : ByteArray) : (strLt s t = true ∧ cmpS s t = -1) ∨ (strLt s t = false ∧ strLt t s = true ∧ cmpS s t = 1) ∨ (strLt s t = false ∧ strLt t s = false ∧ cmpS s t = 0) := by
  cases h1 : strLt s t with
  | true => exact .inl ⟨rfl, by rw [cmpS, if_pos h1]⟩
  | false =>
    cases h2 : strLt t s with
    | true =>
      refine .inr (.inl ⟨rfl, rfl, ?_⟩)
      have hne : s ≠ t := fun e => by subst e; rw [h1] at h2; cases h2
      rw [cmpS, h1, if_neg hne]
      simp
    | false =>
      refine .inr (.inr ⟨rfl, rfl, ?_⟩)
      rw [stw_ltb] at h1 h2
      have := nums_inj (stw_tri _ _ h1 h2)
      subst this
      rw [cmpS, stw_ltb, h1]
      simp
end Go.Proofs.Ythaiplhjekkooaa

/- The order of spans, plain. -/
namespace Go.Proofs.Ythaiplhjekkooaa
open Go.RowKit

/-- The first that is not nought. -/
def orL : List Int → Int
  | [] => 0
  | x :: l => if x ≠ 0 then x else orL l
theorem orL_drop {l : List Int} {j : Nat} {x : Int} (h : l[j]? = some x) : orL (l.drop j) = if x ≠ 0 then x else orL (l.drop (j + 1)) := by
  have hl := (List.getElem?_eq_some_iff.1 h).1
  rw [List.drop_eq_getElem_cons hl, (List.getElem?_eq_some_iff.1 h).2, orL]
def cmpTr (h1 l1 h2 l2 : Int) : Int := orL [cmpI h1 h2, cmpI l1 l2]
def cmpTg (a b : Tg) : Int := orL [cmpS a.key b.key, cmpS a.val b.val]
/-- Two lists of tags. -/
def cmpTL : List Tg → List Tg → Int
  | [], [] => 0
  | [], _ :: _ => -1
  | _ :: _, [] => 1
  | a :: la, b :: lb => if cmpTg a b ≠ 0 then cmpTg a b else cmpTL la lb
theorem cmpTL_step {la lb : List Tg} {j : Nat} {a b : Tg} (ha : la[j]? = some a) (hb : lb[j]? = some b) : cmpTL (la.drop j) (lb.drop j) = if cmpTg a b ≠ 0 then cmpTg a b else cmpTL (la.drop (j + 1)) (lb.drop (j + 1)) := by
  have h1 := (List.getElem?_eq_some_iff.1 ha).1
  have h2 := (List.getElem?_eq_some_iff.1 hb).1
  rw [List.drop_eq_getElem_cons h1, List.drop_eq_getElem_cons h2, (List.getElem?_eq_some_iff.1 ha).2, (List.getElem?_eq_some_iff.1 hb).2, cmpTL]
/-- What Compare tells. -/
def spCmp (a b : Sp) : Int := orL [cmpTr a.hi a.lo b.hi b.lo, cmpI a.id b.id, cmpI a.parent b.parent, cmpI a.start b.start, cmpI a.length b.length, cmpS a.service b.service, cmpS a.name b.name, cmpI a.kind b.kind, cmpI (if a.fails = true then 1 else 0) (if b.fails = true then 1 else 0), cmpTL a.tags b.tags]
end Go.Proofs.Ythaiplhjekkooaa

/- Spans: cmp.Compare, cmp.Or, slices.CompareFunc. -/
namespace Go.Proofs.Ythaiplhjekkooaa
open Go.RowKit

theorem cmpU (x y : Int) (w : World) : Calls Try.prog 58 #[.int .u64 x, .int .u64 y] w fun e w' => e = .returned (.int .i64 (cmpI x y)) ∧ w' = w := by
  by_cases h1 : x < y
  · rw [show cmpI x y = -1 from by rw [cmpI, if_pos h1]]
    go_enter Try.func58, Try.ntmps58
    go_wp2
    go_ret
    exact ⟨rfl, rfl⟩
  · by_cases h2 : y < x
    · rw [show cmpI x y = 1 from by rw [cmpI, if_neg h1, if_pos h2]]
      go_enter Try.func58, Try.ntmps58
      go_wp2
      go_ret
      exact ⟨rfl, rfl⟩
    · rw [show cmpI x y = 0 from by rw [cmpI, if_neg h1, if_neg h2]]
      go_enter Try.func58, Try.ntmps58
      go_wp2
      go_ret
      exact ⟨rfl, rfl⟩
theorem cmpStr (s t : ByteArray) (w : World) : Calls Try.prog 59 #[.string s, .string t] w fun e w' => e = .returned (.int .i64 (cmpS s t)) ∧ w' = w := by
  have n1 : (s.toList == s.toList) = true := by simp
  have n2 : (t.toList == t.toList) = true := by simp
  cases h1 : strLt s t with
  | true =>
    rw [show cmpS s t = -1 from by rw [cmpS, if_pos h1]]
    unfold strLt at h1
    go_enter Try.func59, Try.ntmps59
    go_wp2
    go_ret
    exact ⟨rfl, rfl⟩
  | false =>
    by_cases h2 : s = t
    · subst h2
      rw [show cmpS s s = 0 from by rw [cmpS, h1]; simp]
      unfold strLt at h1
      go_enter Try.func59, Try.ntmps59
      go_wp2
      go_ret
      exact ⟨rfl, rfl⟩
    · rw [show cmpS s t = 1 from by rw [cmpS, h1, if_neg h2]; simp]
      have h3 : (s.toList == t.toList) = false := by rw [strEq_of']; simpa using h2
      unfold strLt at h1
      go_enter Try.func59, Try.ntmps59
      go_wp2
      go_ret
      exact ⟨rfl, rfl⟩
set_option maxHeartbeats 400000 in
theorem cmpOr {l : List Int} {n g : Nat} (w : World) (hn : l.length = n) (hnl : n ≤ 1000) (hb : Bk w g 3 (l.map (Value.int .i64)).toArray) :
    Calls Try.prog 57 #[.slice (some ⟨g, 0, none⟩) n n] w fun e w' => e = .returned (.int .i64 (orL l)) ∧ w' = w := by
  have HN := Lib.hid hn
  have hget : ∀ j x, l[j]? = some x → w.cell? ⟨g, j, none⟩ = some (.int .i64 x) := fun j x h => by
    rw [hb.cell j, List.getElem?_toArray, List.getElem?_map, h]
    rfl
  have HG := Lib.hid hget
  obtain ⟨q, hq⟩ : ∃ q, orL l = q := ⟨_, rfl⟩
  rw [hq]
  have HQ := Lib.hid hq
  clear hn hget hq
  go_enter Try.func57, Try.ntmps57
  go_wp2
  go_loop [8] (fun i => ∃ j : Nat, j ≤ n ∧ i = .int .i64 j ∧ orL (l.drop j) = q) (fun i => n - (intOf i).toNat)
  case atStart => exact ⟨0, by omega, rfl, HQ.out⟩
  case round =>
    obtain ⟨j, hj, rfl, hd⟩ := hrel
    have HD := Lib.hid hd
    clear hd
    by_cases hlt : j < n
    · have hlt' : (j : Int) < (n : Int) := by omega
      obtain ⟨x, hx⟩ : ∃ x, l[j]? = some x := ⟨_, List.getElem?_eq_getElem (by rw [HN.out]; exact hlt)⟩
      have hc := HG.out j x hx
      have hd := orL_drop hx
      rw [HD.out] at hd
      have HX := Lib.hid hd
      clear hx hd
      by_cases h0 : x = 0
      · subst h0
        have hd := HX.out
        rw [if_neg (by simp)] at hd
        have HX2 := Lib.hid hd
        clear hd
        go_wp2
        go_round
        case rel => exact ⟨j + 1, by omega, by go_num, HX2.out.symm⟩
        case measure => simp [intOf]; omega
      · have hxb : (x != 0) = true := by simp [h0]
        have hd := HX.out
        rw [if_pos h0] at hd
        have HX2 := Lib.hid hd
        clear hd
        go_wp2
        go_ret
        exact ⟨by rw [HX2.out]; rfl, rfl⟩
    · have hlt' : decide ((j : Int) < (n : Int)) = false := by simp; omega
      go_wp2
      go_ret
      have : q = 0 := by
        rw [← HD.out, List.drop_eq_nil_of_le (by rw [HN.out]; omega)]
        rfl
      exact ⟨by rw [this]; rfl, rfl⟩
end Go.Proofs.Ythaiplhjekkooaa

/- Spans: the order of spans is one: plain laws. -/
namespace Go.Proofs.Ythaiplhjekkooaa
open Go.RowKit

/-- A comparison that tells apart, and is in order. -/
structure Cmp {α : Type} (f : α → α → Int) : Prop where
  rng : ∀ a b, f a b = -1 ∨ f a b = 0 ∨ f a b = 1
  eq : ∀ a b, f a b = 0 ↔ a = b
  neg : ∀ a b, f b a = - f a b
  tr : ∀ a b c, f a b = -1 → f b c = -1 → f a c = -1
theorem Cmp.lex {α β : Type} {f : α → α → Int} {g : β → β → Int} (F : Cmp f) (G : Cmp g) : Cmp (fun (a b : α × β) => if f a.1 b.1 ≠ 0 then f a.1 b.1 else g a.2 b.2) := by
  refine ⟨fun a b => ?_, fun a b => ?_, fun a b => ?_, fun a b c => ?_⟩
  · by_cases h : f a.1 b.1 = 0
    · simp only [h]; simpa using G.rng a.2 b.2
    · rw [if_pos h]; exact F.rng a.1 b.1
  · by_cases h : f a.1 b.1 = 0
    · have h1 := (F.eq a.1 b.1).1 h
      simp only [h, ne_eq, not_true_eq_false, if_false]
      rw [G.eq]
      exact ⟨fun h2 => Prod.ext h1 h2, fun h2 => by rw [h2]⟩
    · simp only [h, ne_eq, not_false_eq_true, if_true, false_iff]
      rintro rfl
      exact h ((F.eq _ _).2 rfl)
  · by_cases h : f a.1 b.1 = 0
    · have h1 : f b.1 a.1 = 0 := by rw [F.neg, h]; rfl
      simp only [h, h1, ne_eq, not_true_eq_false, if_false]
      exact G.neg _ _
    · have h1 : f b.1 a.1 ≠ 0 := by rw [F.neg]; omega
      simp only [h, h1, ne_eq, not_false_eq_true, if_true]
      exact F.neg _ _
  · intro h1 h2
    by_cases e1 : f a.1 b.1 = 0
    · have q1 := (F.eq _ _).1 e1
      rw [if_neg (by simp [e1])] at h1
      by_cases e2 : f b.1 c.1 = 0
      · rw [if_neg (by simp [e2])] at h2
        rw [if_neg (by rw [q1, e2]; simp)]
        exact G.tr _ _ _ h1 h2
      · rw [if_pos e2] at h2
        rw [if_pos (by rw [q1]; exact e2), q1]
        exact h2
    · rw [if_pos e1] at h1
      by_cases e2 : f b.1 c.1 = 0
      · have q2 := (F.eq _ _).1 e2
        rw [if_pos (by rw [← q2]; exact e1), ← q2]
        exact h1
      · rw [if_pos e2] at h2
        have := F.tr _ _ _ h1 h2
        rw [if_pos (by omega)]
        exact this
theorem Cmp.pull {α γ : Type} {f : α → α → Int} (F : Cmp f) (h : γ → α) (hi : ∀ x y, h x = h y → x = y) : Cmp (fun x y => f (h x) (h y)) :=
  ⟨fun _ _ => F.rng _ _, fun x y => (F.eq _ _).trans ⟨hi x y, fun e => by rw [e]⟩, fun _ _ => F.neg _ _, fun _ _ _ => F.tr _ _ _⟩
theorem cmpI_cmp : Cmp cmpI := by
  have key : ∀ a b : Int, (cmpI a b = -1 ∧ a < b) ∨ (cmpI a b = 0 ∧ a = b) ∨ (cmpI a b = 1 ∧ b < a) := fun a b => by
    unfold cmpI
    by_cases h1 : a < b
    · rw [if_pos h1]; omega
    · rw [if_neg h1]
      by_cases h2 : b < a
      · rw [if_pos h2]; omega
      · rw [if_neg h2]; omega
  refine ⟨fun a b => ?_, fun a b => ?_, fun a b => ?_, fun a b c h1 h2 => ?_⟩
  · have := key a b; omega
  · have := key a b
    constructor <;> intro h <;> omega
  · have := key a b
    have := key b a
    omega
  · have := key a b
    have := key b c
    have := key a c
    omega
theorem strLt_ltb (s t : ByteArray) : strLt s t = ltb (nums s) (nums t) := by
  have := ltb_str (nums_byt s) (nums_byt t)
  rw [strOf_nums, strOf_nums] at this
  exact this
theorem ltb_irr : ∀ (a : List Int), ltb a a = false
  | [] => rfl
  | x :: a => by rw [ltb, ltb_irr a]; simp
theorem ltb_tr : ∀ (a b c : List Int), ltb a b = true → ltb b c = true → ltb a c = true
  | a, [], _, h, _ => by simp [ltb] at h
  | _, y :: b, [], _, h => by simp [ltb] at h
  | [], _ :: _, _ :: _, _, _ => rfl
  | x :: a, y :: b, z :: c, h1, h2 => by
    simp only [ltb, Bool.or_eq_true, Bool.and_eq_true, decide_eq_true_eq] at h1 h2 ⊢
    rcases h1 with h1 | ⟨h1, h1'⟩
    · rcases h2 with h2 | ⟨h2, _⟩ <;> exact .inl (by omega)
    · rcases h2 with h2 | ⟨h2, h2'⟩
      · exact .inl (by omega)
      · exact .inr ⟨by omega, ltb_tr a b c h1' h2'⟩
theorem ltb_tri : ∀ (a b : List Int), ltb a b = false → ltb b a = false → a = b
  | [], [], _, _ => rfl
  | [], _ :: _, h, _ => by cases h
  | _ :: _, [], _, h => by cases h
  | x :: a, y :: b, h1, h2 => by
    simp only [ltb, Bool.or_eq_false_iff, Bool.and_eq_false_iff, decide_eq_false_iff_not] at h1 h2
    have hxy : x = y := by omega
    subst hxy
    rw [ltb_tri a b (by rcases h1.2 with h | h; · exact absurd rfl h
                        · exact h) (by rcases h2.2 with h | h; · exact absurd rfl h
                                       · exact h)]
theorem cmpS_cmp : Cmp cmpS := by
  have asym : ∀ s t, strLt s t = true → strLt t s = false := fun s t h => by
    cases h2 : strLt t s with
    | false => rfl
    | true =>
      rw [strLt_ltb] at h h2
      have := ltb_tr _ _ _ h h2
      rw [ltb_irr] at this
      cases this
  have irr : ∀ s, strLt s s = false := fun s => by rw [strLt_ltb, ltb_irr]
  have tri : ∀ s t, strLt s t = false → s ≠ t → strLt t s = true := fun s t h hne => by
    cases h2 : strLt t s with
    | true => rfl
    | false =>
      rw [strLt_ltb] at h h2
      exact absurd (nums_inj (ltb_tri _ _ h h2)) hne
  refine ⟨fun a b => ?_, fun a b => ?_, fun a b => ?_, fun a b c => ?_⟩
  · unfold cmpS; split
    · simp
    · split <;> simp
  · unfold cmpS
    cases h : strLt a b with
    | true =>
      simp
      rintro rfl
      rw [irr] at h
      cases h
    | false => simp
  · by_cases he : a = b
    · subst he
      unfold cmpS
      rw [irr]; simp
    · cases h : strLt a b with
      | true =>
        have h2 := asym _ _ h
        unfold cmpS
        rw [h, h2, if_neg (by simp), if_neg (fun e => he e.symm), if_pos rfl]
        rfl
      | false =>
        have h2 := tri _ _ h he
        unfold cmpS
        rw [h, h2, if_pos rfl, if_neg (by simp), if_neg he]
  · unfold cmpS
    intro h1 h2
    have k1 : strLt a b = true := by
      cases h : strLt a b with
      | true => rfl
      | false => rw [h] at h1; simp at h1; split at h1 <;> cases h1
    have k2 : strLt b c = true := by
      cases h : strLt b c with
      | true => rfl
      | false => rw [h] at h2; simp at h2; split at h2 <;> cases h2
    have k3 : strLt a c = true := by
      rw [strLt_ltb] at k1 k2 ⊢
      exact ltb_tr _ _ _ k1 k2
    rw [k3]; rfl
theorem orL2 (x y : Int) : orL [x, y] = if x ≠ 0 then x else y := by
  simp only [orL]
  by_cases h : x = 0
  · by_cases h2 : y = 0
    · simp [h, h2]
    · simp [h, h2]
  · simp [h]
theorem cmpTg_cmp : Cmp cmpTg := by
  have := (cmpS_cmp.lex cmpS_cmp).pull (fun t : Tg => (t.key, t.val)) (fun x y h => by cases x; cases y; simp at h; simp [h])
  have e : cmpTg = fun x y : Tg => if cmpS x.key y.key ≠ 0 then cmpS x.key y.key else cmpS x.val y.val := by
    funext x y
    rw [cmpTg, orL2]
  rw [e]
  exact this
theorem cmpTL_cmp : Cmp cmpTL := by
  have F := cmpTg_cmp
  refine ⟨fun a => ?_, fun a => ?_, fun a => ?_, fun a => ?_⟩
  · induction a with
    | nil => intro b; cases b <;> simp [cmpTL]
    | cons x a ih =>
      intro b
      cases b with
      | nil => simp [cmpTL]
      | cons y b =>
        rw [cmpTL]
        by_cases h : cmpTg x y = 0
        · rw [if_neg (by simp [h])]; exact ih b
        · rw [if_pos h]; exact F.rng x y
  · induction a with
    | nil => intro b; cases b <;> simp [cmpTL]
    | cons x a ih =>
      intro b
      cases b with
      | nil => simp [cmpTL]
      | cons y b =>
        rw [cmpTL]
        by_cases h : cmpTg x y = 0
        · rw [if_neg (by simp [h]), ih b, (F.eq _ _).1 h]; simp
        · rw [if_pos h]
          refine ⟨fun e => absurd e h, fun e => ?_⟩
          injection e with e1 e2
          exact (F.eq _ _).2 e1
  · induction a with
    | nil => intro b; cases b <;> simp [cmpTL]
    | cons x a ih =>
      intro b
      cases b with
      | nil => simp [cmpTL]
      | cons y b =>
        rw [cmpTL, cmpTL]
        have hn := F.neg x y
        by_cases h : cmpTg x y = 0
        · rw [if_neg (by omega), if_neg (by simp [h])]; exact ih b
        · rw [if_pos (by omega), if_pos h]; exact hn
  · induction a with
    | nil =>
      intro b c h1 h2
      cases b with
      | nil => simp [cmpTL] at h1
      | cons y b =>
        cases c with
        | nil => simp [cmpTL] at h2
        | cons z c => rfl
    | cons x a ih =>
      intro b c h1 h2
      cases b with
      | nil => simp [cmpTL] at h1
      | cons y b =>
        cases c with
        | nil => simp [cmpTL] at h2
        | cons z c =>
          rw [cmpTL] at h1 h2 ⊢
          by_cases e1 : cmpTg x y = 0
          · have q1 := (F.eq _ _).1 e1
            rw [if_neg (by simp [e1])] at h1
            by_cases e2 : cmpTg y z = 0
            · rw [if_neg (by simp [e2])] at h2
              rw [if_neg (by rw [q1, e2]; simp)]
              exact ih b c h1 h2
            · rw [if_pos e2] at h2
              rw [if_pos (by rw [q1]; exact e2), q1]
              exact h2
          · rw [if_pos e1] at h1
            by_cases e2 : cmpTg y z = 0
            · have q2 := (F.eq _ _).1 e2
              rw [if_pos (by rw [← q2]; exact e1), ← q2]
              exact h1
            · rw [if_pos e2] at h2
              have := F.tr _ _ _ h1 h2
              rw [if_pos (by omega)]
              exact this
theorem Cmp.of_eq {α : Type} {f g : α → α → Int} (F : Cmp f) (h : ∀ a b, g a b = f a b) : Cmp g := by
  have e : g = f := by funext a b; exact h a b
  rw [e]; exact F
theorem cmpNat_cmp : Cmp (fun x y : Nat => cmpI (x : Int) (y : Int)) := cmpI_cmp.pull (fun x : Nat => (x : Int)) (fun x y h => by omega)
theorem cmpBool_cmp : Cmp (fun x y : Bool => cmpI (if x = true then 1 else 0) (if y = true then 1 else 0)) := cmpI_cmp.pull (fun x : Bool => if x = true then (1 : Int) else 0) (fun x y h => by cases x <;> cases y <;> simp at h <;> rfl)
def spTup (s : Sp) : (Nat × Nat) × Nat × Nat × Int × Int × ByteArray × ByteArray × Int × Bool × List Tg := ((s.hi, s.lo), s.id, s.parent, s.start, s.length, s.service, s.name, s.kind, s.fails, s.tags)
theorem orL1 (x : Int) : orL [x] = x := by
  simp only [orL]
  by_cases h : x = 0
  · simp [h]
  · simp [h]
theorem orL_cons (x y : Int) (l : List Int) : orL (x :: y :: l) = if x ≠ 0 then x else orL (y :: l) := rfl
/-- The order of spans is one: it tells spans apart, the other way round it is the opposite, and it goes on over a third. -/
theorem spCmp_cmp : Cmp spCmp := by
  have C := ((cmpNat_cmp.lex cmpNat_cmp).lex (cmpNat_cmp.lex (cmpNat_cmp.lex (cmpI_cmp.lex (cmpI_cmp.lex (cmpS_cmp.lex (cmpS_cmp.lex (cmpI_cmp.lex (cmpBool_cmp.lex cmpTL_cmp))))))))).pull spTup (fun x y h => by
    cases x; cases y
    simp only [spTup, Prod.mk.injEq] at h
    obtain ⟨⟨h1, h2⟩, h3, h4, h5, h6, h7, h8, h9, h10, h11⟩ := h
    subst h1 h2 h3 h4 h5 h6 h7 h8 h9 h10 h11
    rfl)
  refine C.of_eq fun a b => ?_
  rw [spCmp, orL_cons, orL_cons, orL_cons, orL_cons, orL_cons, orL_cons, orL_cons, orL_cons, orL_cons, orL1, cmpTr, orL2]
  rfl
end Go.Proofs.Ythaiplhjekkooaa
