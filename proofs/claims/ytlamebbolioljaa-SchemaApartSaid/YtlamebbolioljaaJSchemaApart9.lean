/- Texts of the proof of SchemaApartSaid, joined: SpF2c SpF2 SoA CpP SoR Stw SpPl RaU. -/
import Derived.Test.YtlamebbolioljaaJSchemaApart8
import Derived.Deep.Cut
import Derived.Deep.RegionHeld3
import Derived.Test.YtlamebbolioljaaJSchemaApart6
import Derived.Test.YtlamebbolioljaaJSchemaApart3
import Derived.Test.YtlamebbolioljaaJSchemaApart2
/- Spans: bootprintkit.SameSpan of two spans that are unlike, part. -/
namespace Go.Proofs.Ytlamebbolioljaa
open Go.RowKit

set_option maxRecDepth 100000 in
set_option maxHeartbeats 8000000 in
theorem kitSameNeC {A1 A2 : Option Addr} {c1 c2 n m B : Nat} (a b : Sp) (w : World) (hf : RbT w B A1 a.tags) (hg : RbT w B A2 b.tags) (hn : a.tags.length = n) (hm : b.tags.length = m) (hB : B ≤ w.heap.size) (hcase : (a.hi = b.hi ∧ a.lo = b.lo ∧ a.id = b.id ∧ a.parent = b.parent ∧ a.service = b.service ∧ a.name = b.name ∧ a.kind = b.kind ∧ a.start = b.start ∧ a.length ≠ b.length) ∨ (a.hi = b.hi ∧ a.lo = b.lo ∧ a.id = b.id ∧ a.parent = b.parent ∧ a.service = b.service ∧ a.name = b.name ∧ a.kind = b.kind ∧ a.start = b.start ∧ a.length = b.length ∧ a.fails ≠ b.fails) ∨ (a.hi = b.hi ∧ a.lo = b.lo ∧ a.id = b.id ∧ a.parent = b.parent ∧ a.service = b.service ∧ a.name = b.name ∧ a.kind = b.kind ∧ a.start = b.start ∧ a.length = b.length ∧ a.fails = b.fails ∧ n ≠ m)) (hnl : n ≤ 9223372036854775807) (hml : m ≤ 9223372036854775807) :
    Calls Try.prog 55 #[spV a A1 n c1, spV b A2 m c2] w fun e w' => e = .returned (.bool false) ∧ Below w.heap.size w w' := by
  have HCASE := Lib.hid hcase
  have hb0 : Below w.heap.size w ((w.alloc (.cells (spC a A1 n c1) 43)).alloc (.cells (spC b A2 m c2) 43)) := ((Below.refl _ w).alloc (Nat.le_refl _) _).alloc (by simp) _
  have bk1 := (Bk.new w 43 (spC a A1 n c1)).alloc (.cells (spC b A2 m c2) 43)
  have bk2 := Bk.new (w.alloc (.cells (spC a A1 n c1) 43)) 43 (spC b A2 m c2)
  rw [World.size_alloc] at bk2
  obtain ⟨w1, hw1⟩ : ∃ w1, ((w.alloc (.cells (spC a A1 n c1) 43)).alloc (.cells (spC b A2 m c2) 43)) = w1 := ⟨_, rfl⟩
  rw [hw1] at hb0 bk1 bk2
  have HW := Lib.hid hw1
  obtain ⟨g, hgq⟩ : ∃ g, w.heap.size = g := ⟨_, rfl⟩
  rw [hgq] at bk1 bk2
  have HG := Lib.hid hgq
  have kp0 : w1.cell? ⟨g, 0, none⟩ = some (.int .u64 a.hi) := bk1.cell 0
  have kp1 : w1.cell? ⟨g, 1, none⟩ = some (.int .u64 a.lo) := bk1.cell 1
  have kp2 : w1.cell? ⟨g, 2, none⟩ = some (.int .u64 a.id) := bk1.cell 2
  have kp3 : w1.cell? ⟨g, 3, none⟩ = some (.int .u64 a.parent) := bk1.cell 3
  have kp4 : w1.cell? ⟨g, 4, none⟩ = some (.string a.service) := bk1.cell 4
  have kp5 : w1.cell? ⟨g, 5, none⟩ = some (.string a.name) := bk1.cell 5
  have kp6 : w1.cell? ⟨g, 6, none⟩ = some (.int .i64 a.kind) := bk1.cell 6
  have kp7 : w1.cell? ⟨g, 7, none⟩ = some (.int .i64 a.start) := bk1.cell 7
  have kp8 : w1.cell? ⟨g, 8, none⟩ = some (.int .i64 a.length) := bk1.cell 8
  have kp9 : w1.cell? ⟨g, 9, none⟩ = some (.bool a.fails) := bk1.cell 9
  have kp10 : w1.cell? ⟨g, 10, none⟩ = some (.slice A1 n c1) := bk1.cell 10
  have kq0 : w1.cell? ⟨g + 1, 0, none⟩ = some (.int .u64 b.hi) := bk2.cell 0
  have kq1 : w1.cell? ⟨g + 1, 1, none⟩ = some (.int .u64 b.lo) := bk2.cell 1
  have kq2 : w1.cell? ⟨g + 1, 2, none⟩ = some (.int .u64 b.id) := bk2.cell 2
  have kq3 : w1.cell? ⟨g + 1, 3, none⟩ = some (.int .u64 b.parent) := bk2.cell 3
  have kq4 : w1.cell? ⟨g + 1, 4, none⟩ = some (.string b.service) := bk2.cell 4
  have kq5 : w1.cell? ⟨g + 1, 5, none⟩ = some (.string b.name) := bk2.cell 5
  have kq6 : w1.cell? ⟨g + 1, 6, none⟩ = some (.int .i64 b.kind) := bk2.cell 6
  have kq7 : w1.cell? ⟨g + 1, 7, none⟩ = some (.int .i64 b.start) := bk2.cell 7
  have kq8 : w1.cell? ⟨g + 1, 8, none⟩ = some (.int .i64 b.length) := bk2.cell 8
  have kq9 : w1.cell? ⟨g + 1, 9, none⟩ = some (.bool b.fails) := bk2.cell 9
  have kq10 : w1.cell? ⟨g + 1, 10, none⟩ = some (.slice A2 m c2) := bk2.cell 10
  clear hw1 bk1 bk2 hgq hf hg hn hm hcase
  go_enter Try.func55, Try.ntmps55
  go_upto_region 1 with fail
  rw [HW.out, HG.out]
  have hcase := HCASE.out
  clear HCASE
  rcases hcase with ⟨x1, x2, x3, x4, x5, x6, x7, x8, x9⟩ | ⟨x1, x2, x3, x4, x5, x6, x7, x8, x9, x10⟩ | ⟨x1, x2, x3, x4, x5, x6, x7, x8, x9, x10, x11⟩
  · have d : ((a.length : Int) != (b.length : Int)) = true := by rw [bne_iff_ne]; omega
    have d' : ((a.length : Int) == (b.length : Int)) = false := by rw [beq_eq_false_iff_ne]; omega
    go_wp2
    go_ret
    exact ⟨rfl, hb0⟩
  · have d : (a.fails != b.fails) = true := by simpa using x10
    have d' : (a.fails == b.fails) = false := by simpa using x10
    go_wp2
    go_ret
    exact ⟨rfl, hb0⟩
  · have d : ((n : Int) != (m : Int)) = true := by rw [bne_iff_ne]; omega
    go_wp2
    go_ret
    exact ⟨rfl, hb0⟩
end Go.Proofs.Ytlamebbolioljaa

/- Spans: bootprintkit.SameSpan of any two spans. -/
namespace Go.Proofs.Ytlamebbolioljaa
open Go.RowKit

theorem spC_head {a b : Sp} (h1 : a.hi = b.hi) (h2 : a.lo = b.lo) (h3 : a.id = b.id) (h4 : a.parent = b.parent) (h5 : a.service = b.service) (h6 : a.name = b.name) (h7 : a.kind = b.kind) (h8 : a.start = b.start) (h9 : a.length = b.length) (h10 : a.fails = b.fails) (A : Option Addr) (n c : Nat) : spV b A n c = spV a A n c := by
  rw [spV, spV, spC, spC, h1, h2, h3, h4, h5, h6, h7, h8, h9, h10]
set_option maxRecDepth 100000 in
set_option maxHeartbeats 8000000 in
theorem kitSame {A1 A2 : Option Addr} {c1 c2 n m B : Nat} (a b : Sp) (w : World) (hf : RbT w B A1 a.tags) (hg : RbT w B A2 b.tags) (hn : a.tags.length = n) (hm : b.tags.length = m) (hB : B ≤ w.heap.size) (hnl : n ≤ 9223372036854775807) (hml : m ≤ 9223372036854775807) :
    Calls Try.prog 55 #[spV a A1 n c1, spV b A2 m c2] w fun e w' => e = .returned (.bool (decide (a = b))) ∧ Below w.heap.size w w' := by
  by_cases hall : a.hi = b.hi ∧ a.lo = b.lo ∧ a.id = b.id ∧ a.parent = b.parent ∧ a.service = b.service ∧ a.name = b.name ∧ a.kind = b.kind ∧ a.start = b.start ∧ a.length = b.length ∧ a.fails = b.fails ∧ n = m
  · obtain ⟨h1, h2, h3, h4, h5, h6, h7, h8, h9, h10, rfl⟩ := hall
    have h := kitSameTags (c1 := c1) (c2 := c2) a a.tags b.tags w hf hg hn hm hB hnl
    rw [spC_head h1 h2 h3 h4 h5 h6 h7 h8 h9 h10]
    have e : decide (a = b) = decide (a.tags = b.tags) := by
      rw [decide_eq_decide]
      refine ⟨fun h => by rw [h], fun h => ?_⟩
      cases a; cases b
      simp only at h1 h2 h3 h4 h5 h6 h7 h8 h9 h10 h
      simp only [h1, h2, h3, h4, h5, h6, h7, h8, h9, h10, h]
    rw [e]
    exact h
  have hqf : decide (a = b) = false := by
    rw [decide_eq_false_iff_not]
    rintro rfl
    exact hall ⟨rfl, rfl, rfl, rfl, rfl, rfl, rfl, rfl, rfl, rfl, by omega⟩
  rw [hqf]
  have hcase : a.hi ≠ b.hi ∨ (a.hi = b.hi ∧ (a.lo ≠ b.lo ∨ (a.lo = b.lo ∧ (a.id ≠ b.id ∨ (a.id = b.id ∧ (a.parent ≠ b.parent ∨ (a.parent = b.parent ∧ (a.service ≠ b.service ∨ (a.service = b.service ∧ (a.name ≠ b.name ∨ (a.name = b.name ∧ (a.kind ≠ b.kind ∨ (a.kind = b.kind ∧ (a.start ≠ b.start ∨ (a.start = b.start ∧ (a.length ≠ b.length ∨ (a.length = b.length ∧ (a.fails ≠ b.fails ∨ (a.fails = b.fails ∧ n ≠ m))))))))))))))))))) := by
    by_cases x1 : a.hi = b.hi
    case neg => exact .inl x1
    refine .inr ⟨x1, ?_⟩
    by_cases x2 : a.lo = b.lo
    case neg => exact .inl x2
    refine .inr ⟨x2, ?_⟩
    by_cases x3 : a.id = b.id
    case neg => exact .inl x3
    refine .inr ⟨x3, ?_⟩
    by_cases x4 : a.parent = b.parent
    case neg => exact .inl x4
    refine .inr ⟨x4, ?_⟩
    by_cases x5 : a.service = b.service
    case neg => exact .inl x5
    refine .inr ⟨x5, ?_⟩
    by_cases x6 : a.name = b.name
    case neg => exact .inl x6
    refine .inr ⟨x6, ?_⟩
    by_cases x7 : a.kind = b.kind
    case neg => exact .inl x7
    refine .inr ⟨x7, ?_⟩
    by_cases x8 : a.start = b.start
    case neg => exact .inl x8
    refine .inr ⟨x8, ?_⟩
    by_cases x9 : a.length = b.length
    case neg => exact .inl x9
    refine .inr ⟨x9, ?_⟩
    by_cases x10 : a.fails = b.fails
    case neg => exact .inl x10
    exact .inr ⟨x10, fun x11 => hall ⟨x1, x2, x3, x4, x5, x6, x7, x8, x9, x10, x11⟩⟩
  rcases hcase with x1 | ⟨x1, x2 | ⟨x2, x3 | ⟨x3, x4 | ⟨x4, x5 | ⟨x5, x6 | ⟨x6, x7 | ⟨x7, x8 | ⟨x8, x9 | ⟨x9, x10 | ⟨x10, x11⟩⟩⟩⟩⟩⟩⟩⟩⟩⟩
  · exact kitSameNeA (c1 := c1) (c2 := c2) a b w hf hg hn hm hB (.inl x1) hnl hml
  · exact kitSameNeA (c1 := c1) (c2 := c2) a b w hf hg hn hm hB (.inr (.inl ⟨x1, x2⟩)) hnl hml
  · exact kitSameNeA (c1 := c1) (c2 := c2) a b w hf hg hn hm hB (.inr (.inr (.inl ⟨x1, x2, x3⟩))) hnl hml
  · exact kitSameNeA (c1 := c1) (c2 := c2) a b w hf hg hn hm hB (.inr (.inr (.inr (⟨x1, x2, x3, x4⟩)))) hnl hml
  · exact kitSameNeB (c1 := c1) (c2 := c2) a b w hf hg hn hm hB (.inl ⟨x1, x2, x3, x4, x5⟩) hnl hml
  · exact kitSameNeB (c1 := c1) (c2 := c2) a b w hf hg hn hm hB (.inr (.inl ⟨x1, x2, x3, x4, x5, x6⟩)) hnl hml
  · exact kitSameNeB (c1 := c1) (c2 := c2) a b w hf hg hn hm hB (.inr (.inr (.inl ⟨x1, x2, x3, x4, x5, x6, x7⟩))) hnl hml
  · exact kitSameNeB (c1 := c1) (c2 := c2) a b w hf hg hn hm hB (.inr (.inr (.inr (⟨x1, x2, x3, x4, x5, x6, x7, x8⟩)))) hnl hml
  · exact kitSameNeC (c1 := c1) (c2 := c2) a b w hf hg hn hm hB (.inl ⟨x1, x2, x3, x4, x5, x6, x7, x8, x9⟩) hnl hml
  · exact kitSameNeC (c1 := c1) (c2 := c2) a b w hf hg hn hm hB (.inr (.inl ⟨x1, x2, x3, x4, x5, x6, x7, x8, x9, x10⟩)) hnl hml
  · exact kitSameNeC (c1 := c1) (c2 := c2) a b w hf hg hn hm hB (.inr (.inr (⟨x1, x2, x3, x4, x5, x6, x7, x8, x9, x10, x11⟩))) hnl hml
end Go.Proofs.Ytlamebbolioljaa

/- Lists of spans: how they lie in memory; bootprintkit.SmallSpans, SameSpans. -/
namespace Go.Proofs.Ytlamebbolioljaa
open Go.RowKit

/-- A span as it lies: itself, and its tags' slice. -/
structure El where
  s : Sp
  A : Option Addr
  n : Nat
  c : Nat
def elC (e : El) : List Value := (spC e.s e.A e.n e.c).toList
theorem elC_length (e : El) : (elC e).length = 11 := rfl
def els (l : List El) : List Value := l.flatMap elC
theorem els_length (l : List El) : (els l).length = l.length * 11 := by
  induction l with
  | nil => rfl
  | cons e l ih =>
    have : els (e :: l) = elC e ++ els l := rfl
    rw [this, List.length_append, ih, elC_length, List.length_cons]
    omega
theorem els_append (a b : List El) : els (a ++ b) = els a ++ els b := by simp [els]
theorem els_get : ∀ {l : List El} {i : Nat} {e : El}, l[i]? = some e → ∀ j, j < 11 → (els l)[i * 11 + j]? = (elC e)[j]? := by
  intro l
  induction l with
  | nil => intro i e h; simp at h
  | cons u l ih =>
    intro i e h j hj
    have q : els (u :: l) = elC u ++ els l := rfl
    rw [q]
    cases i with
    | zero =>
      simp at h
      subst h
      rw [List.getElem?_append_left (by rw [elC_length]; omega), Nat.zero_mul, Nat.zero_add]
    | succ i =>
      have := ih (i := i) (e := e) (by simpa using h) j hj
      rw [List.getElem?_append_right (by rw [elC_length]; omega), elC_length, show (i + 1) * 11 + j - 11 = i * 11 + j from by omega]
      exact this
theorem els_one (l : List El) : ∀ u ∈ els l, u.oneCell' = true := by
  intro u hu
  obtain ⟨e, _, he⟩ := List.mem_flatMap.1 hu
  have := spC_one e.s e.A e.n e.c
  rw [Array.all_eq_true'] at this
  exact this u (by simpa [elC] using he)
theorem els_take (l : List El) (k : Nat) : (els l).take (k * 11) = els (l.take k) := by
  induction l generalizing k with
  | nil => simp [els]
  | cons e l ih =>
    cases k with
    | zero => simp [els]
    | succ k =>
      have q : els (e :: l) = elC e ++ els l := rfl
      have q2 : els ((e :: l).take (k + 1)) = elC e ++ els (l.take k) := rfl
      rw [q, q2, ← ih k, List.take_append, elC_length, List.take_of_length_le (by rw [elC_length]; omega), show (k + 1) * 11 - 11 = k * 11 from by omega]
theorem els_drop (l : List El) (k : Nat) : (els l).drop (k * 11) = els (l.drop k) := by
  induction l generalizing k with
  | nil => simp [els]
  | cons e l ih =>
    cases k with
    | zero => simp [els]
    | succ k =>
      have q : els (e :: l) = elC e ++ els l := rfl
      have q2 : els ((e :: l).drop (k + 1)) = els (l.drop k) := rfl
      rw [q, q2, ← ih k, List.drop_append, elC_length, List.drop_eq_nil_of_le (by rw [elC_length]; omega), show (k + 1) * 11 - 11 = k * 11 from by omega, List.nil_append]
/-- A span's tags lie where it says. -/
structure ElOk (w : World) (B : Nat) (e : El) : Prop where
  rd : RbT w B e.A e.s.tags
  len : e.s.tags.length = e.n
  max : e.n ≤ 9223372036854775807
theorem ElOk.below {w w' : World} {B : Nat} {e : El} (h : ElOk w B e) (hb : Below B w w') : ElOk w' B e := ⟨Rd.below h.rd hb, h.len, h.max⟩
theorem ElOk.more {w : World} {B B' : Nat} {e : El} (h : ElOk w B e) (hb : B ≤ B') : ElOk w B' e := ⟨Rd.more h.rd hb, h.len, h.max⟩
/-- Spans that lie from A on, and their tags. -/
structure RbS (w : World) (B : Nat) (A : Option Addr) (l : List El) : Prop where
  rd : Rd w B A (els l)
  ok : ∀ e ∈ l, ElOk w B e
section
variable {w w' : World} {B B' : Nat} {A : Option Addr} {l : List El}
theorem RbS.nil : RbS w B A [] := ⟨Rd.nil, fun _ h => by cases h⟩
theorem RbS.below (h : RbS w B A l) (hb : Below B w w') : RbS w' B A l := ⟨Rd.below h.rd hb, fun e he => (h.ok e he).below hb⟩
theorem RbS.more (h : RbS w B A l) (hB : B ≤ B') : RbS w B' A l := ⟨Rd.more h.rd hB, fun e he => (h.ok e he).more hB⟩
theorem RbS.bS (h : RbS w w.heap.size A l) (hb : Below w.heap.size w w') : RbS w' w'.heap.size A l := (h.below hb).more hb.size
theorem RbS.drewN (h : RbS w B A l) (k : Nat) : RbS (w.drewN k) B A l := ⟨Rd.drewN h.rd k, fun e he => ⟨Rd.drewN (h.ok e he).rd k, (h.ok e he).len, (h.ok e he).max⟩⟩
theorem RbS.get (h : RbS w B A l) {i : Nat} {e : El} (hi : l[i]? = some e) :
    ∃ b o, A = some ⟨b, o, none⟩ ∧ b < B ∧ (∀ j, j < 11 → w.cell? ⟨b, o + i * 11 + j, none⟩ = (elC e)[j]?) ∧ ElOk w B e := by
  have hl := (List.getElem?_eq_some_iff.1 hi).1
  obtain ⟨b, o, hA, hb, hc⟩ := h.rd (by intro e0; have := els_length l; rw [e0, List.length_nil] at this; omega)
  refine ⟨b, o, hA, hb, fun j hj => ?_, h.ok e (List.mem_of_getElem? hi)⟩
  have h1 := els_get hi j hj
  have h2 : j < (elC e).length := by rw [elC_length]; exact hj
  rw [List.getElem?_eq_getElem h2] at h1 ⊢
  rw [Nat.add_assoc]
  exact hc _ _ h1
end
/-- The load of a whole span out of a row, shut. -/
theorem run_loadVar_cells {P : Program} (w : World) (ty : TypeId) (d : TypeDesc) (a : Addr) (xs : List Value) (hu : P.underlying ty = some d) (hd : (match d with | .struct _ | .array _ _ => true | _ => false) = true) (hi : (P.info? ty).map (·.size) = some xs.length)
    (hc : ∀ j v, xs[j]? = some v → w.cell? (a.add j) = some v) : (loadVar ty a).run P w = .ok (.agg xs.toArray) w := by
  have hl := run_loadCells_list (P := P) w a xs hc
  cases hq : P.info? ty with
  | none => simp [hq] at hi
  | some i =>
    have hs : i.size = xs.length := by simpa [hq] using hi
    have hagg : (isAgg ty).run P w = .ok true w := by
      unfold isAgg
      rw [Sem.run_bind, run_underlying hu w]
      cases d <;> simp_all
    simp [loadVar, Sem.run_bind, hagg, sizeOf, typeInfo, hq, hs, hl]
set_option maxRecDepth 100000 in
theorem loadK_el {w : World} {b o : Nat} {e : El} (h : ∀ j, j < 11 → w.cell? ⟨b, o + j, none⟩ = (elC e)[j]?) : (loadK 43 ⟨b, o, none⟩).run Try.prog w = .ok (spV e.s e.A e.n e.c) w :=
  run_loadVar_cells w _ _ ⟨b, o, none⟩ (elC e) Try.underlying43 rfl (by rfl) (fun j v hv => by
    have hj : j < 11 := by have := (List.getElem?_eq_some_iff.1 hv).1; rwa [elC_length] at this
    rw [Addr.add_lit, h j hj, hv])
set_option maxRecDepth 100000 in
theorem loadK_sp {w : World} {g n c : Nat} {s : Sp} {A : Option Addr} (h : Bk w g 43 (spC s A n c)) : (loadK 43 ⟨g, 0, none⟩).run Try.prog w = .ok (spV s A n c) w :=
  run_loadVar_row w g _ _ (spC s A n c) (0, 0) _ h Try.underlying43 rfl (by rfl)
end Go.Proofs.Ytlamebbolioljaa

/- What a copy of a span is. -/
namespace Go.Proofs.Ytlamebbolioljaa
open Go.RowKit

/-- Copy hands back the same span, its tags in memory of its own. -/
def CopyPost (w : World) (s : Sp) (n : Nat) (A : Option Addr) (e : Ending) (w' : World) : Prop :=
  ∃ A' c', e = .returned (.agg (spC s A' n c')) ∧ RbT w' w'.heap.size A' s.tags ∧ Below w.heap.size w w' ∧ n ≤ c' ∧ (∀ a, A' = some a → w.heap.size ≤ a.block) ∧ (A' = none → A = none ∧ n = 0 ∧ c' = 0)

@[go_sem] theorem nil_eq_tags (W : World) (a : Option Addr) (n c n' c' : Nat) : (binOp .eql 41 (.slice a n c) (.slice none n' c')).run Try.prog W = .ok (.bool a.isNone) W :=
  Lib.run_eql_slice_nil W _ _ a n c n' c' Try.underlying41
theorem wpList_appTg (w : World) {ops : Array Oper} {rest : List Oper} {o : Oper} {a : Act} {Q : Exit → Act → World → Prop} (hgd : o.guard = none) (s x : Operand)
    (ho : o.op = .call { callee := .builtin .append, args := #[s, x], argTypes := #[41, 41] })
    (base : Nat) (v : Value) (n : Nat) (l : List Tg) (hs : a.eval s = v) (hown : w.ownsRow base 97 2 v n (tgs l))
    (B : Nat) (A : Option Addr) (m c : Nat) (news : List Tg) (hx : a.eval x = .slice A m c) (hl : news.length = m) (hr : RbT w B A news)
    (hbytes : n + m ≤ 4398046511104) (hbase : base ≤ w.heap.size)
    (h : ∀ A' c' w', App base 97 2 w v w' (.slice A' (n + m) c') (n + m) (tgs (l ++ news)) → (A' = none → v = .slice none 0 0 ∧ m = 0) → wpList Try.prog ops Q rest (a.put o.dst (.slice A' (n + m) c')) w') :
    wpList Try.prog ops Q (o :: rest) a w :=
  wpList_plain hgd fun _ hK => wp_appT w s x ho base v n l hs hown B A m c news hx hl hr hbytes hbase fun A' c' w' h1 h2 => hK _ _ (h A' c' w' h1 h2)

theorem tags_nil {w : World} {B : Nat} {l : List Tg} (h : RbT w B none l) : l = [] := by
  cases l with
  | nil => rfl
  | cons x l =>
    obtain ⟨b, o, e, _⟩ := h (by intro e; have := tgs_length (x :: l); rw [e] at this; simp at this)
    cases e
theorem grown_setCell (W : World) (b o : Nat) (v : Value) : W.grownBy (W.setCell ⟨b, o, none⟩ v) (some b) :=
  ⟨rfl, rfl, rfl, by simp, fun i _ hne => Below.heap_setCell W ⟨b, o, none⟩ v i (fun e => hne (by rw [e]))⟩

end Go.Proofs.Ytlamebbolioljaa

/- Rows of spans of the call's own; a span laid into one. -/
namespace Go.Proofs.Ytlamebbolioljaa
open Go.RowKit
attribute [local go_sem ↓] loadK_shut
attribute [local go_sem ↓] appK_shut

def sps (l : List El) : List Sp := l.map (·.s)
theorem sps_length (l : List El) : (sps l).length = l.length := by simp [sps]
theorem sps_get {l : List El} {i : Nat} {e : El} (h : l[i]? = some e) : (sps l)[i]? = some e.s := by simp [sps, h]
/-- A row of spans that is the walk's own; their tags lie elsewhere. -/
structure RowS (w : World) (base : Nat) (v : Value) (n : Nat) (l : List El) : Prop where
  own : w.ownsRow base 43 11 v n (els l)
  len : l.length = n
  ok : ∀ e ∈ l, ElOk w w.heap.size e
  far : ∀ e ∈ l, e.s.tags ≠ [] → ∀ a, e.A = some a → v.ownBlock ≠ some a.block

theorem spinfo : (Try.prog.info? 43).map (fun i => (i.zero, i.size, i.bytes)) = some (some (.agg zspC), 11, 120) := by kernel_rfl
/-- append of spans. -/
theorem wpList_appS (w : World) {ops : Array Oper} {rest : List Oper} {o : Oper} {a : Act} {Q : Exit → Act → World → Prop} (hgd : o.guard = none) (s x : Operand)
    (ho : o.op = .call { callee := .builtin .append, args := #[s, x], argTypes := #[52, 52] })
    (base : Nat) (v : Value) (n : Nat) (l : List El) (hs : a.eval s = v) (hown : w.ownsRow base 43 11 v n (els l))
    (B : Nat) (A : Option Addr) (m c : Nat) (news : List El) (hx : a.eval x = .slice A m c) (hl : news.length = m) (hr : Rd w B A (els news))
    (hbytes : n + m ≤ 1048576) (hbase : base ≤ w.heap.size)
    (h : ∀ A' c' w', App base 43 11 w v w' (.slice A' (n + m) c') (n + m) (els (l ++ news)) → (A' = none → v = .slice none 0 0 ∧ m = 0) → wpList Try.prog ops Q rest (a.put o.dst (.slice A' (n + m) c')) w') :
    wpList Try.prog ops Q (o :: rest) a w := by
  obtain ⟨i0, hi0, hz0, hz1, hz2⟩ := info_parts spinfo
  refine wpList_app w hgd s x _ ho base 43 i0 _ 11 120 Try.underlying52 hi0 hz0 hz1 hz2 rfl (by omega) v n (els l) hs hown B A m c (els news) hx (by rw [els_length]; omega) hr (els_one news) (by simp only [maxLen]; omega) (by omega) hbase ?_
  intro A' c' w' h1 h2 h3 h4
  rw [← els_append] at h1
  exact h A' c' w' ((App.refl hown).step h1 h2 h3) h4

theorem RowS.app {w w' : World} {base j : Nat} {v v' : Value} {l es : List El} (h : RowS w base v j l) (hap : App base 43 11 w v w' v' (j + es.length) (els (l ++ es)))
    (hes : ∀ e ∈ es, ElOk w w.heap.size e) (hfe : ∀ e ∈ es, e.s.tags ≠ [] → ∀ a, e.A = some a → v.ownBlock ≠ some a.block) : RowS w' base v' (j + es.length) (l ++ es) := by
  have hall : ∀ e ∈ l ++ es, ElOk w w.heap.size e ∧ (e.s.tags ≠ [] → ∀ a, e.A = some a → v.ownBlock ≠ some a.block) := fun e he => by
    rcases List.mem_append.1 he with he | he
    · exact ⟨h.ok e he, h.far e he⟩
    · exact ⟨hes e he, hfe e he⟩
  refine ⟨hap.own, by simp [h.len], fun e he => ?_, fun e he ht a ha => ?_⟩
  · obtain ⟨h1, h2⟩ := hall e he
    refine ⟨?_, h1.len, h1.max⟩
    by_cases ht : e.s.tags = []
    · rw [ht]
      exact Rd.nil
    · exact h1.rd.grownS hap.grown fun a ha => h2 ht a ha
  · obtain ⟨h1, h2⟩ := hall e he
    rcases hap.block with hb | ⟨k, hb, hk⟩
    · rw [hb]
      exact h2 ht a ha
    · rw [hb]
      intro e1
      have e2 := Option.some.inj e1
      obtain ⟨b, o, hA, hlt, _⟩ := h1.rd (by intro e0; have := tgs_length e.s.tags; rw [e0] at this; exact ht (List.eq_nil_of_length_eq_zero (by simp at this; omega)))
      rw [ha] at hA
      have e3 := Option.some.inj hA
      subst e3
      simp only at e2
      omega
theorem RowS.bS {w w' : World} {base n : Nat} {v : Value} {l : List El} (h : RowS w base v n l) (hb : Below w.heap.size w w') : RowS w' base v n l :=
  ⟨((App.refl h.own).later hb).own, h.len, fun e he => ((h.ok e he).below hb).more hb.size, h.far⟩
theorem RowS.own_lt {w : World} {base n : Nat} {v : Value} {l : List El} (h : RowS w base v n l) : ∀ k, v.ownBlock = some k → k < w.heap.size ∧ base ≤ k := fun k hk => by
  rcases h.own.2 with ⟨h1, _⟩ | ⟨g, cap, cur, h1, hbase, hb, _⟩
  · rw [h1] at hk
    cases hk
  · rw [h1] at hk
    have e := Option.some.inj hk
    simp only at e
    subst e
    exact ⟨(Array.getElem?_eq_some_iff.1 hb).1, hbase⟩
theorem RowS.nil (w : World) (base : Nat) : RowS w base (.slice none 0 0) 0 [] := ⟨World.ownsRow_nil _ _ _ _, rfl, fun _ h => absurd h (by simp), fun _ h => absurd h (by simp)⟩
theorem RowS.rbs {w : World} {base n c : Nat} {A : Option Addr} {l : List El} (h : RowS w base (.slice A n c) n l) : RbS w w.heap.size A l := ⟨Rd.of_own h.own, h.ok⟩
theorem sps_append (a b : List El) : sps (a ++ b) = sps a ++ sps b := by simp [sps]
theorem els_single (e : El) : els [e] = elC e := by simp [els]
theorem rd_span {w : World} {g : Nat} (hg : w.heap.size = g) (e : El) : Rd (w.alloc (.cells (spC e.s e.A e.n e.c) 43)) (g + 1) (some ⟨g, 0, none⟩) (els [e]) := by
  rw [els_single]
  exact Rd.lit' hg

/-- A slice of spans of the call's own, in the order l tells. -/
def OutPost (w : World) (n : Nat) (ss : List Sp) (e : Ending) (w' : World) : Prop :=
  ∃ A' c' l', e = .returned (.slice A' n c') ∧ sps l' = ss ∧ RowS w' w.heap.size (.slice A' n c') n l' ∧ Below w.heap.size w w'
/-- Where a part of a row of spans begins. -/
def cutA (a : Option Addr) (m k s : Nat) : Option Addr := if m = k then a else a.map (·.add (k * s))
theorem sliced_s (a : Option Addr) (k h m s : Nat) : sliced a k h m s = .slice (cutA a m k s) (h - k) (m - k) := rfl
theorem sliced_s0 (a : Option Addr) (h m s : Nat) : sliced a 0 h m s = .slice a h m := by
  simp only [sliced, Nat.zero_mul, Nat.sub_zero]
  split
  · rfl
  · cases a <;> rfl
theorem own_take {w : World} {base n c k size : Nat} {e : TypeId} {A : Option Addr} {xs : List Value} (h : w.ownsRow base e size (.slice A n c) n xs) (hk : k ≤ n) : w.ownsRow base e size (.slice A k c) k (xs.take (k * size)) := by
  refine ⟨by rw [List.length_take, h.1]; exact Nat.min_eq_left (Nat.mul_le_mul_right size hk), ?_⟩
  rcases h.2 with ⟨h1, h2⟩ | ⟨g, cap, cur, h1, hb, hg, hn, hc, hs, ht⟩
  · injection h1 with e1 _ e3
    subst e1 e3 h2
    obtain rfl : k = 0 := by omega
    exact .inl ⟨rfl, rfl⟩
  · injection h1 with e1 _ e3
    subst e1 e3
    refine .inr ⟨g, c, cur, rfl, hb, hg, by omega, hc, hs, ?_⟩
    rw [← ht, List.take_take, Nat.min_eq_left (Nat.mul_le_mul_right size hk)]
theorem RowS.take {w : World} {base n c k : Nat} {A : Option Addr} {l : List El} (h : RowS w base (.slice A n c) n l) (hk : k ≤ n) : RowS w base (.slice A k c) k (l.take k) := by
  have h1 := own_take h.own hk
  rw [els_take] at h1
  exact ⟨h1, by rw [List.length_take, h.len]; omega, fun e he => h.ok e (List.mem_of_mem_take he), fun e he ht a ha => by
    have := h.far e (List.mem_of_mem_take he) ht a ha
    cases A with
    | none => intro e1; cases e1
    | some q => exact this⟩
theorem Rd.dropS {w : World} {B k cap : Nat} {A : Option Addr} {l : List El} (h : Rd w B A (els l)) (hc : l.length ≤ cap) : Rd w B (cutA A cap k 11) (els (l.drop k)) := by
  unfold cutA
  rw [← els_drop]
  have h1 := Rd.drop (k := k * 11) (cap := cap * 11) h (by rw [els_length]; omega)
  by_cases hk : cap = k
  · rw [if_pos hk]
    rwa [if_pos (by omega)] at h1
  · rw [if_neg hk]
    rwa [if_neg (by omega)] at h1
theorem RowS.drewN {w : World} {base n : Nat} {v : Value} {l : List El} (h : RowS w base v n l) (k : Nat) : RowS (w.drewN k) base v n l := h.bS (below_drewN (Below.refl _ _) k)
theorem RowS.cap {w : World} {base n c : Nat} {A : Option Addr} {l : List El} (h : RowS w base (.slice A n c) n l) : n ≤ c := by
  rcases h.own.2 with ⟨h1, h2⟩ | ⟨g, cap, cur, h1, _, _, hn, _⟩
  · omega
  · injection h1 with _ _ e3
    omega
theorem run_appS (w : World) (base : Nat) (v : Value) (n : Nat) (l : List El) (hown : w.ownsRow base 43 11 v n (els l))
    (B : Nat) (A : Option Addr) (m c : Nat) (news : List El) (hl : news.length = m) (hr : Rd w B A (els news)) (hbytes : n + m ≤ 1048576) (hbase : base ≤ w.heap.size) :
    ∃ A' c' w', (appK #[52, 52] 52 #[v, .slice A m c]).run Try.prog w = .ok (.slice A' (n + m) c') w' ∧ App base 43 11 w v w' (.slice A' (n + m) c') (n + m) (els (l ++ news)) := by
  obtain ⟨i0, hi0, hz0, hz1, hz2⟩ := info_parts spinfo
  obtain ⟨v', w', hrun, h2, h3, h4, ⟨A', c', rfl⟩, h6⟩ := run_app (P := Try.prog) w base 52 52 43 i0 _ 11 120 Try.underlying52 hi0 hz0 hz1 hz2 rfl (by omega) v n (els l) hown B A m c (els news) (by rw [els_length, hl]) hr (els_one news) (by simp only [maxLen]; omega) (by omega) hbase
  rw [← els_append] at h2
  exact ⟨A', c', w', hrun, (App.refl hown).step h2 h3 h4⟩
/-- A span beside a row. -/
def OkF (w : World) (v : Value) (e : El) : Prop := ElOk w w.heap.size e ∧ (e.s.tags ≠ [] → ∀ a, e.A = some a → v.ownBlock ≠ some a.block)
theorem OkF.app {w w' : World} {base n : Nat} {v v' : Value} {xs : List Value} {e : El} (h : OkF w v e) (hap : App base 43 11 w v w' v' n xs) : OkF w' v' e := by
  obtain ⟨h1, h2⟩ := h
  refine ⟨⟨?_, h1.len, h1.max⟩, fun ht a ha => ?_⟩
  · by_cases ht : e.s.tags = []
    · rw [ht]
      exact Rd.nil
    · exact h1.rd.grownS hap.grown fun a ha => h2 ht a ha
  · rcases hap.block with hb | ⟨k, hb, hk⟩
    · rw [hb]
      exact h2 ht a ha
    · rw [hb]
      intro e1
      have e2 := Option.some.inj e1
      obtain ⟨b, o, hA, hlt, _⟩ := h1.rd (by intro e0; have := tgs_length e.s.tags; rw [e0] at this; exact ht (List.eq_nil_of_length_eq_zero (by simp at this; omega)))
      rw [ha] at hA
      have e3 := Option.some.inj hA
      subst e3
      simp only at e2
      omega
/-- One span laid into a row at k, what lay behind it being put back. -/
theorem insRow {base lo j k c c3 : Nat} {A A3 : Option Addr} {l : List El} {e : El} (W3 W4 : World) (hrow : RowS W3 base (.slice A j c) j l) (hk : k ≤ j) (hj : j ≤ 100000)
    (hA3 : W3.ownsRow lo 43 11 (.slice A3 (j - k) c3) (j - k) (els (l.drop k))) (hne : ∀ a, A3 = some a → (Value.slice A j c).ownBlock ≠ some a.block) (hbase : base ≤ W3.heap.size)
    (hb4 : Below W3.heap.size W3 W4) (hek : ElOk W4 W4.heap.size e) (hef : ∀ a, e.A = some a → W3.heap.size ≤ a.block) :
    ∃ A5 c5 w5 A6 c6 w6, (appK #[52, 52] 52 #[.slice A k c, .slice (some ⟨W4.heap.size, 0, none⟩) 1 1]).run Try.prog (W4.alloc (.cells (spC e.s e.A e.n e.c) 43)) = .ok (.slice A5 (k + 1) c5) w5 ∧
      (appK #[52, 52] 52 #[.slice A5 (k + 1) c5, .slice A3 (j - k) c3]).run Try.prog w5 = .ok (.slice A6 (j + 1) c6) w6 ∧ RowS w6 base (.slice A6 (j + 1) c6) (j + 1) (l.take k ++ e :: l.drop k) ∧ Below base W3 w6 := by
  have hb5 : Below W3.heap.size W3 (W4.alloc (.cells (spC e.s e.A e.n e.c) 43)) := hb4.alloc hb4.size _
  have hrd : Rd (W4.alloc (.cells (spC e.s e.A e.n e.c) 43)) (W4.heap.size + 1) (some ⟨W4.heap.size, 0, none⟩) (els [e]) := rd_span rfl e
  have hek5 : ElOk (W4.alloc (.cells (spC e.s e.A e.n e.c) 43)) (W4.alloc (.cells (spC e.s e.A e.n e.c) 43)).heap.size e :=
    (hek.below ((Below.refl _ W4).alloc (Nat.le_refl _) _)).more (by simp)
  obtain ⟨W5, hW5⟩ : ∃ W5, W4.alloc (.cells (spC e.s e.A e.n e.c) 43) = W5 := ⟨_, rfl⟩
  rw [hW5] at hb5 hrd hek5 ⊢
  have hrow5 := hrow.bS hb5
  have hob : (Value.slice A k c).ownBlock = (Value.slice A j c).ownBlock := by cases A <;> rfl
  have hlt := hrow.own_lt
  have hF : ∀ x ∈ e :: l, OkF W5 (.slice A k c) x := fun x hx => by
    rcases List.mem_cons.1 hx with rfl | hx
    · refine ⟨hek5, fun _ a ha e1 => ?_⟩
      rw [hob] at e1
      have h1 := (hlt _ e1).1
      have h2 := hef a ha
      omega
    · refine ⟨hrow5.ok x hx, fun ht a ha => ?_⟩
      rw [hob]
      exact hrow5.far x hx ht a ha
  have hbW : base ≤ W5.heap.size := Nat.le_trans hbase hb5.size
  obtain ⟨A5, c5, w5, hrun5, hap5⟩ := run_appS W5 base (.slice A k c) k (l.take k) (hrow5.take hk).own _ _ 1 1 [e] rfl hrd (by omega) hbW
  have hgr5 := hap5.grown
  rw [hob] at hgr5
  have hA5 := Rd.grownS (Rd.of_own ((App.refl hA3).later hb5).own) hgr5 hne
  have hl2 : (l.drop k).length = j - k := by rw [List.length_drop, hrow.len]
  obtain ⟨A6, c6, w6, hrun6, hap6⟩ := run_appS w5 base (.slice A5 (k + 1) c5) (k + 1) (l.take k ++ [e]) hap5.own _ A3 (j - k) c3 (l.drop k) hl2 hA5 (by omega) (Nat.le_trans hbW hap5.heap)
  rw [show k + 1 + (j - k) = j + 1 from by omega, List.append_assoc, List.singleton_append] at hap6
  rw [show k + 1 + (j - k) = j + 1 from by omega] at hrun6
  have hF6 : ∀ x ∈ l.take k ++ e :: l.drop k, OkF w6 (.slice A6 (j + 1) c6) x := fun x hx => by
    refine OkF.app (OkF.app (hF x ?_) hap5) hap6
    rcases List.mem_append.1 hx with hx | hx
    · exact List.mem_cons_of_mem _ (List.mem_of_mem_take hx)
    · rcases List.mem_cons.1 hx with rfl | hx
      · exact List.mem_cons_self
      · exact List.mem_cons_of_mem _ (List.mem_of_mem_drop hx)
  refine ⟨A5, c5, w5, A6, c6, w6, hrun5, hrun6, ⟨hap6.own, ?_, fun x hx => (hF6 x hx).1, fun x hx => (hF6 x hx).2⟩, ?_⟩
  · rw [List.length_append, List.length_take, List.length_cons, hl2, hrow.len]
    omega
  · have h5 : Below base W5 w5 := hap5.below hbW (fun q hq => (hlt q (by rw [← hob]; exact hq)).2)
    have h6 : Below base w5 w6 := hap6.below (Nat.le_trans hbW hap5.heap) (fun q hq => by
      rcases hap5.block with hb | ⟨r, hb, hr⟩
      · rw [hb, hob] at hq
        exact (hlt q hq).2
      · rw [hb] at hq
        have := Option.some.inj hq
        omega)
    exact ((hb5.mono hbase).trans h5).trans h6
end Go.Proofs.Ytlamebbolioljaa

/- Numbers and strings stand in one of three ways. -/
namespace Go.Proofs.Ytlamebbolioljaa
open Go.RowKit

def cmpI (x y : Int) : Int := if x < y then -1 else if y < x then 1 else 0
theorem strEq_of' {s t : ByteArray} : (s.toList == t.toList) = decide (s = t) := by
  rw [ByteArray.toList_eq, ByteArray.toList_eq, Bool.eq_iff_iff, beq_iff_eq, decide_eq_true_iff]
  exact ⟨fun h => ByteArray.ext (Array.ext' h), fun h => by rw [h]⟩
def cmpS (s t : ByteArray) : Int := if strLt s t = true then -1 else if s = t then 0 else 1
theorem stw_ltb (s t : ByteArray) : strLt s t = ltb (nums s) (nums t) := by
  have := ltb_str (nums_byt s) (nums_byt t)
  rw [strOf_nums, strOf_nums] at this
  exact this
theorem stw_irr : ∀ (a : List Int), ltb a a = false
  | [] => rfl
  | x :: a => by rw [ltb, stw_irr a]; simp
theorem stw_tr : ∀ (a b c : List Int), ltb a b = true → ltb b c = true → ltb a c = true
  | a, [], _, h, _ => by simp [ltb] at h
  | _, y :: b, [], _, h => by simp [ltb] at h
  | [], _ :: _, _ :: _, _, _ => rfl
  | x :: a, y :: b, z :: c, h1, h2 => by
    simp only [ltb, Bool.or_eq_true, Bool.and_eq_true, decide_eq_true_eq] at h1 h2 ⊢
    rcases h1 with h1 | ⟨h1, h1'⟩
    · rcases h2 with h2 | ⟨h2, _⟩ <;> exact .inl (by omega)
    · rcases h2 with h2 | ⟨h2, h2'⟩
      · exact .inl (by omega)
      · exact .inr ⟨by omega, stw_tr a b c h1' h2'⟩
theorem stw_tri : ∀ (a b : List Int), ltb a b = false → ltb b a = false → a = b
  | [], [], _, _ => rfl
  | [], _ :: _, h, _ => by cases h
  | _ :: _, [], _, h => by cases h
  | x :: a, y :: b, h1, h2 => by
    simp only [ltb, Bool.or_eq_false_iff, Bool.and_eq_false_iff, decide_eq_false_iff_not] at h1 h2
    have hxy : x = y := by omega
    subst hxy
    rw [stw_tri a b (by rcases h1.2 with h | h; · exact absurd rfl h
                        · exact h) (by rcases h2.2 with h | h; · exact absurd rfl h
                                       · exact h)]
theorem strLt_ways (s t : ByteArray) : (strLt s t = true ∧ cmpS s t = -1) ∨ (strLt s t = false ∧ strLt t s = true ∧ cmpS s t = 1) ∨ (strLt s t = false ∧ strLt t s = false ∧ cmpS s t = 0) := by
  cases h1 : strLt s t with
  | true => exact .inl ⟨rfl, by rw [cmpS, if_pos h1]⟩
  | false =>
    cases h2 : strLt t s with
    | true =>
      refine .inr (.inl ⟨rfl, rfl, ?_⟩)
      have hne : s ≠ t := fun e => by subst e; rw [h1] at h2; cases h2
      rw [cmpS, h1, if_neg hne]
      simp
    | false =>
      refine .inr (.inr ⟨rfl, rfl, ?_⟩)
      rw [stw_ltb] at h1 h2
      have := nums_inj (stw_tri _ _ h1 h2)
      subst this
      rw [cmpS, stw_ltb, h1]
      simp
end Go.Proofs.Ytlamebbolioljaa

/- The order of spans, plain. -/
namespace Go.Proofs.Ytlamebbolioljaa
open Go.RowKit

/-- The first that is not nought. -/
def orL : List Int → Int
  | [] => 0
  | x :: l => if x ≠ 0 then x else orL l
theorem orL_drop {l : List Int} {j : Nat} {x : Int} (h : l[j]? = some x) : orL (l.drop j) = if x ≠ 0 then x else orL (l.drop (j + 1)) := by
  have hl := (List.getElem?_eq_some_iff.1 h).1
  rw [List.drop_eq_getElem_cons hl, (List.getElem?_eq_some_iff.1 h).2, orL]
def cmpTr (h1 l1 h2 l2 : Int) : Int := orL [cmpI h1 h2, cmpI l1 l2]
def cmpTg (a b : Tg) : Int := orL [cmpS a.key b.key, cmpS a.val b.val]
/-- Two lists of tags. -/
def cmpTL : List Tg → List Tg → Int
  | [], [] => 0
  | [], _ :: _ => -1
  | _ :: _, [] => 1
  | a :: la, b :: lb => if cmpTg a b ≠ 0 then cmpTg a b else cmpTL la lb
theorem cmpTL_step {la lb : List Tg} {j : Nat} {a b : Tg} (ha : la[j]? = some a) (hb : lb[j]? = some b) : cmpTL (la.drop j) (lb.drop j) = if cmpTg a b ≠ 0 then cmpTg a b else cmpTL (la.drop (j + 1)) (lb.drop (j + 1)) := by
  have h1 := (List.getElem?_eq_some_iff.1 ha).1
  have h2 := (List.getElem?_eq_some_iff.1 hb).1
  rw [List.drop_eq_getElem_cons h1, List.drop_eq_getElem_cons h2, (List.getElem?_eq_some_iff.1 ha).2, (List.getElem?_eq_some_iff.1 hb).2, cmpTL]
/-- What Compare tells. -/
def spCmp (a b : Sp) : Int := orL [cmpTr a.hi a.lo b.hi b.lo, cmpI a.id b.id, cmpI a.parent b.parent, cmpI a.start b.start, cmpI a.length b.length, cmpS a.service b.service, cmpS a.name b.name, cmpI a.kind b.kind, cmpI (if a.fails = true then 1 else 0) (if b.fails = true then 1 else 0), cmpTL a.tags b.tags]
end Go.Proofs.Ytlamebbolioljaa

/- The document's layer 21, plain: what Unique, place, cycle answer. -/
namespace Go.Proofs.Ytlamebbolioljaa
open Go.RowKit

/-- Is y ahead of x, the i-th, and of its ID? -/
def ahd (x y : Sp) (k i : Nat) : Bool := decide (y.id = x.id) && (decide (spCmp y x < 0) || (decide (spCmp y x = 0) && decide (k < i)))
/-- Is none of the first n ahead of x, the i-th? -/
def fstTo (l : List Sp) (x : Sp) (i n : Nat) : Bool := (List.range n).all fun k => match l[k]? with | some y => !ahd x y k i | none => true
/-- Where an ID is put: looked for from k on down. -/
def insK (id : Nat) (out : List Sp) : Nat → Nat
  | 0 => 0
  | k + 1 => match out[k]? with
    | some y => if id < y.id then insK id out k else k + 1
    | none => k + 1
def insAt (x : Sp) (out : List Sp) : List Sp := out.take (insK x.id out out.length) ++ x :: out.drop (insK x.id out out.length)
/-- What Unique has of the first i. -/
def uniqTo (l : List Sp) : Nat → List Sp
  | 0 => []
  | i + 1 => match l[i]? with
    | some x => if fstTo l x i l.length = true then insAt x (uniqTo l i) else uniqTo l i
    | none => uniqTo l i
def uniq (l : List Sp) : List Sp := uniqTo l l.length
/-- The place of an ID. -/
def plcG (id : Nat) : List Sp → Nat → Int
  | [], _ => -1
  | x :: l, i => if x.id = id then (i : Int) else plcG id l (i + 1)
def plc (l : List Sp) (id : Nat) : Int := plcG id l 0
def cycGo (l : List Sp) (i : Nat) (x : Sp) : Nat → Int → Bool
  | 0, _ => false
  | n + 1, p => if p < 0 then false else match l[p.toNat]? with
    | none => false
    | some y => if x.parent = 0 ∨ y.id < x.id then false else if p = (i : Int) then true else if y.parent = 0 then false else cycGo l i x n (plc l y.parent)
/-- Is the i-th on a cycle, and has the least ID of it? -/
def cyc (l : List Sp) (i : Nat) (x : Sp) : Bool := cycGo l i x (l.length + 1) (plc l x.parent)
end Go.Proofs.Ytlamebbolioljaa
