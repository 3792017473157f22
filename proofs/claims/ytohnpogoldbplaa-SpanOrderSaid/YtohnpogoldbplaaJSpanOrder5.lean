/- Texts of the proof of SpanOrderSaid, joined: SpF2c SpF2 SoA SpG SpH SpJ SpU SoC. -/
import Derived.Test.YtohnpogoldbplaaJSpanOrder4
import Derived.Deep.Cut
import Derived.Deep.RegionHeld3
import Derived.Deep.QuietTactic
import Derived.Test.YtohnpogoldbplaaJSpanOrder2
import Derived.Sort.Grow
/- Spans: bootprintkit.SameSpan of two spans that are unlike, part. -/
namespace Go.Proofs.Ytohnpogoldbplaa
open Go.RowKit

set_option maxRecDepth 100000 in
set_option maxHeartbeats 8000000 in
theorem kitSameNeC {A1 A2 : Option Addr} {c1 c2 n m B : Nat} (a b : Sp) (w : World) (hf : RbT w B A1 a.tags) (hg : RbT w B A2 b.tags) (hn : a.tags.length = n) (hm : b.tags.length = m) (hB : B ≤ w.heap.size) (hcase : (a.hi = b.hi ∧ a.lo = b.lo ∧ a.id = b.id ∧ a.parent = b.parent ∧ a.service = b.service ∧ a.name = b.name ∧ a.kind = b.kind ∧ a.start = b.start ∧ a.length ≠ b.length) ∨ (a.hi = b.hi ∧ a.lo = b.lo ∧ a.id = b.id ∧ a.parent = b.parent ∧ a.service = b.service ∧ a.name = b.name ∧ a.kind = b.kind ∧ a.start = b.start ∧ a.length = b.length ∧ a.fails ≠ b.fails) ∨ (a.hi = b.hi ∧ a.lo = b.lo ∧ a.id = b.id ∧ a.parent = b.parent ∧ a.service = b.service ∧ a.name = b.name ∧ a.kind = b.kind ∧ a.start = b.start ∧ a.length = b.length ∧ a.fails = b.fails ∧ n ≠ m)) (hnl : n ≤ 9223372036854775807) (hml : m ≤ 9223372036854775807) :
    Calls Try.prog 11 #[spV a A1 n c1, spV b A2 m c2] w fun e w' => e = .returned (.bool false) ∧ Below w.heap.size w w' := by
  have HCASE := Lib.hid hcase
  have hb0 : Below w.heap.size w ((w.alloc (.cells (spC a A1 n c1) 27)).alloc (.cells (spC b A2 m c2) 27)) := ((Below.refl _ w).alloc (Nat.le_refl _) _).alloc (by simp) _
  have bk1 := (Bk.new w 27 (spC a A1 n c1)).alloc (.cells (spC b A2 m c2) 27)
  have bk2 := Bk.new (w.alloc (.cells (spC a A1 n c1) 27)) 27 (spC b A2 m c2)
  rw [World.size_alloc] at bk2
  obtain ⟨w1, hw1⟩ : ∃ w1, ((w.alloc (.cells (spC a A1 n c1) 27)).alloc (.cells (spC b A2 m c2) 27)) = w1 := ⟨_, rfl⟩
  rw [hw1] at hb0 bk1 bk2
  have HW := Lib.hid hw1
  obtain ⟨g, hgq⟩ : ∃ g, w.heap.size = g := ⟨_, rfl⟩
  rw [hgq] at bk1 bk2
  have HG := Lib.hid hgq
  have kp0 : w1.cell? ⟨g, 0, none⟩ = some (.int .u64 a.hi) := bk1.cell 0
  have kp1 : w1.cell? ⟨g, 1, none⟩ = some (.int .u64 a.lo) := bk1.cell 1
  have kp2 : w1.cell? ⟨g, 2, none⟩ = some (.int .u64 a.id) := bk1.cell 2
  have kp3 : w1.cell? ⟨g, 3, none⟩ = some (.int .u64 a.parent) := bk1.cell 3
  have kp4 : w1.cell? ⟨g, 4, none⟩ = some (.string a.service) := bk1.cell 4
  have kp5 : w1.cell? ⟨g, 5, none⟩ = some (.string a.name) := bk1.cell 5
  have kp6 : w1.cell? ⟨g, 6, none⟩ = some (.int .i64 a.kind) := bk1.cell 6
  have kp7 : w1.cell? ⟨g, 7, none⟩ = some (.int .i64 a.start) := bk1.cell 7
  have kp8 : w1.cell? ⟨g, 8, none⟩ = some (.int .i64 a.length) := bk1.cell 8
  have kp9 : w1.cell? ⟨g, 9, none⟩ = some (.bool a.fails) := bk1.cell 9
  have kp10 : w1.cell? ⟨g, 10, none⟩ = some (.slice A1 n c1) := bk1.cell 10
  have kq0 : w1.cell? ⟨g + 1, 0, none⟩ = some (.int .u64 b.hi) := bk2.cell 0
  have kq1 : w1.cell? ⟨g + 1, 1, none⟩ = some (.int .u64 b.lo) := bk2.cell 1
  have kq2 : w1.cell? ⟨g + 1, 2, none⟩ = some (.int .u64 b.id) := bk2.cell 2
  have kq3 : w1.cell? ⟨g + 1, 3, none⟩ = some (.int .u64 b.parent) := bk2.cell 3
  have kq4 : w1.cell? ⟨g + 1, 4, none⟩ = some (.string b.service) := bk2.cell 4
  have kq5 : w1.cell? ⟨g + 1, 5, none⟩ = some (.string b.name) := bk2.cell 5
  have kq6 : w1.cell? ⟨g + 1, 6, none⟩ = some (.int .i64 b.kind) := bk2.cell 6
  have kq7 : w1.cell? ⟨g + 1, 7, none⟩ = some (.int .i64 b.start) := bk2.cell 7
  have kq8 : w1.cell? ⟨g + 1, 8, none⟩ = some (.int .i64 b.length) := bk2.cell 8
  have kq9 : w1.cell? ⟨g + 1, 9, none⟩ = some (.bool b.fails) := bk2.cell 9
  have kq10 : w1.cell? ⟨g + 1, 10, none⟩ = some (.slice A2 m c2) := bk2.cell 10
  clear hw1 bk1 bk2 hgq hf hg hn hm hcase
  go_enter Try.func11, Try.ntmps11
  go_upto_region 1 with fail
  rw [HW.out, HG.out]
  have hcase := HCASE.out
  clear HCASE
  rcases hcase with ⟨x1, x2, x3, x4, x5, x6, x7, x8, x9⟩ | ⟨x1, x2, x3, x4, x5, x6, x7, x8, x9, x10⟩ | ⟨x1, x2, x3, x4, x5, x6, x7, x8, x9, x10, x11⟩
  · have d : ((a.length : Int) != (b.length : Int)) = true := by rw [bne_iff_ne]; omega
    have d' : ((a.length : Int) == (b.length : Int)) = false := by rw [beq_eq_false_iff_ne]; omega
    go_wp2
    go_ret
    exact ⟨rfl, hb0⟩
  · have d : (a.fails != b.fails) = true := by simpa using x10
    have d' : (a.fails == b.fails) = false := by simpa using x10
    go_wp2
    go_ret
    exact ⟨rfl, hb0⟩
  · have d : ((n : Int) != (m : Int)) = true := by rw [bne_iff_ne]; omega
    go_wp2
    go_ret
    exact ⟨rfl, hb0⟩
end Go.Proofs.Ytohnpogoldbplaa

/- Spans: bootprintkit.SameSpan of any two spans. -/
namespace Go.Proofs.Ytohnpogoldbplaa
open Go.RowKit

theorem spC_head {a b : Sp} (h1 : a.hi = b.hi) (h2 : a.lo = b.lo) (h3 : a.id = b.id) (h4 : a.parent = b.parent) (h5 : a.service = b.service) (h6 : a.name = b.name) (h7 : a.kind = b.kind) (h8 : a.start = b.start) (h9 : a.length = b.length) (h10 : a.fails = b.fails) (A : Option Addr) (n c : Nat) : spV b A n c = spV a A n c := by
  rw [spV, spV, spC, spC, h1, h2, h3, h4, h5, h6, h7, h8, h9, h10]
set_option maxRecDepth 100000 in
set_option maxHeartbeats 8000000 in
theorem kitSame {A1 A2 : Option Addr} {c1 c2 n m B : Nat} (a b : Sp) (w : World) (hf : RbT w B A1 a.tags) (hg : RbT w B A2 b.tags) (hn : a.tags.length = n) (hm : b.tags.length = m) (hB : B ≤ w.heap.size) (hnl : n ≤ 9223372036854775807) (hml : m ≤ 9223372036854775807) :
    Calls Try.prog 11 #[spV a A1 n c1, spV b A2 m c2] w fun e w' => e = .returned (.bool (decide (a = b))) ∧ Below w.heap.size w w' := by
  by_cases hall : a.hi = b.hi ∧ a.lo = b.lo ∧ a.id = b.id ∧ a.parent = b.parent ∧ a.service = b.service ∧ a.name = b.name ∧ a.kind = b.kind ∧ a.start = b.start ∧ a.length = b.length ∧ a.fails = b.fails ∧ n = m
  · obtain ⟨h1, h2, h3, h4, h5, h6, h7, h8, h9, h10, rfl⟩ := hall
    have h := kitSameTags (c1 := c1) (c2 := c2) a a.tags b.tags w hf hg hn hm hB hnl
    rw [spC_head h1 h2 h3 h4 h5 h6 h7 h8 h9 h10]
    have e : decide (a = b) = decide (a.tags = b.tags) := by
      rw [decide_eq_decide]
      refine ⟨fun h => by rw [h], fun h => ?_⟩
      cases a; cases b
      simp only at h1 h2 h3 h4 h5 h6 h7 h8 h9 h10 h
      simp only [h1, h2, h3, h4, h5, h6, h7, h8, h9, h10, h]
    rw [e]
    exact h
  have hqf : decide (a = b) = false := by
    rw [decide_eq_false_iff_not]
    rintro rfl
    exact hall ⟨rfl, rfl, rfl, rfl, rfl, rfl, rfl, rfl, rfl, rfl, by omega⟩
  rw [hqf]
  have hcase : a.hi ≠ b.hi ∨ (a.hi = b.hi ∧ (a.lo ≠ b.lo ∨ (a.lo = b.lo ∧ (a.id ≠ b.id ∨ (a.id = b.id ∧ (a.parent ≠ b.parent ∨ (a.parent = b.parent ∧ (a.service ≠ b.service ∨ (a.service = b.service ∧ (a.name ≠ b.name ∨ (a.name = b.name ∧ (a.kind ≠ b.kind ∨ (a.kind = b.kind ∧ (a.start ≠ b.start ∨ (a.start = b.start ∧ (a.length ≠ b.length ∨ (a.length = b.length ∧ (a.fails ≠ b.fails ∨ (a.fails = b.fails ∧ n ≠ m))))))))))))))))))) := by
    by_cases x1 : a.hi = b.hi
    case neg => exact .inl x1
    refine .inr ⟨x1, ?_⟩
    by_cases x2 : a.lo = b.lo
    case neg => exact .inl x2
    refine .inr ⟨x2, ?_⟩
    by_cases x3 : a.id = b.id
    case neg => exact .inl x3
    refine .inr ⟨x3, ?_⟩
    by_cases x4 : a.parent = b.parent
    case neg => exact .inl x4
    refine .inr ⟨x4, ?_⟩
    by_cases x5 : a.service = b.service
    case neg => exact .inl x5
    refine .inr ⟨x5, ?_⟩
    by_cases x6 : a.name = b.name
    case neg => exact .inl x6
    refine .inr ⟨x6, ?_⟩
    by_cases x7 : a.kind = b.kind
    case neg => exact .inl x7
    refine .inr ⟨x7, ?_⟩
    by_cases x8 : a.start = b.start
    case neg => exact .inl x8
    refine .inr ⟨x8, ?_⟩
    by_cases x9 : a.length = b.length
    case neg => exact .inl x9
    refine .inr ⟨x9, ?_⟩
    by_cases x10 : a.fails = b.fails
    case neg => exact .inl x10
    exact .inr ⟨x10, fun x11 => hall ⟨x1, x2, x3, x4, x5, x6, x7, x8, x9, x10, x11⟩⟩
  rcases hcase with x1 | ⟨x1, x2 | ⟨x2, x3 | ⟨x3, x4 | ⟨x4, x5 | ⟨x5, x6 | ⟨x6, x7 | ⟨x7, x8 | ⟨x8, x9 | ⟨x9, x10 | ⟨x10, x11⟩⟩⟩⟩⟩⟩⟩⟩⟩⟩
  · exact kitSameNeA (c1 := c1) (c2 := c2) a b w hf hg hn hm hB (.inl x1) hnl hml
  · exact kitSameNeA (c1 := c1) (c2 := c2) a b w hf hg hn hm hB (.inr (.inl ⟨x1, x2⟩)) hnl hml
  · exact kitSameNeA (c1 := c1) (c2 := c2) a b w hf hg hn hm hB (.inr (.inr (.inl ⟨x1, x2, x3⟩))) hnl hml
  · exact kitSameNeA (c1 := c1) (c2 := c2) a b w hf hg hn hm hB (.inr (.inr (.inr (⟨x1, x2, x3, x4⟩)))) hnl hml
  · exact kitSameNeB (c1 := c1) (c2 := c2) a b w hf hg hn hm hB (.inl ⟨x1, x2, x3, x4, x5⟩) hnl hml
  · exact kitSameNeB (c1 := c1) (c2 := c2) a b w hf hg hn hm hB (.inr (.inl ⟨x1, x2, x3, x4, x5, x6⟩)) hnl hml
  · exact kitSameNeB (c1 := c1) (c2 := c2) a b w hf hg hn hm hB (.inr (.inr (.inl ⟨x1, x2, x3, x4, x5, x6, x7⟩))) hnl hml
  · exact kitSameNeB (c1 := c1) (c2 := c2) a b w hf hg hn hm hB (.inr (.inr (.inr (⟨x1, x2, x3, x4, x5, x6, x7, x8⟩)))) hnl hml
  · exact kitSameNeC (c1 := c1) (c2 := c2) a b w hf hg hn hm hB (.inl ⟨x1, x2, x3, x4, x5, x6, x7, x8, x9⟩) hnl hml
  · exact kitSameNeC (c1 := c1) (c2 := c2) a b w hf hg hn hm hB (.inr (.inl ⟨x1, x2, x3, x4, x5, x6, x7, x8, x9, x10⟩)) hnl hml
  · exact kitSameNeC (c1 := c1) (c2 := c2) a b w hf hg hn hm hB (.inr (.inr (⟨x1, x2, x3, x4, x5, x6, x7, x8, x9, x10, x11⟩))) hnl hml
end Go.Proofs.Ytohnpogoldbplaa

/- Lists of spans: how they lie in memory; bootprintkit.SmallSpans, SameSpans. -/
namespace Go.Proofs.Ytohnpogoldbplaa
open Go.RowKit

/-- A span as it lies: itself, and its tags' slice. -/
structure El where
  s : Sp
  A : Option Addr
  n : Nat
  c : Nat
def elC (e : El) : List Value := (spC e.s e.A e.n e.c).toList
theorem elC_length (e : El) : (elC e).length = 11 := rfl
def els (l : List El) : List Value := l.flatMap elC
theorem els_length (l : List El) : (els l).length = l.length * 11 := by
  induction l with
  | nil => rfl
  | cons e l ih =>
    have : els (e :: l) = elC e ++ els l := rfl
    rw [this, List.length_append, ih, elC_length, List.length_cons]
    omega
theorem els_append (a b : List El) : els (a ++ b) = els a ++ els b := by simp [els]
theorem els_get : ∀ {l : List El} {i : Nat} {e : El}, l[i]? = some e → ∀ j, j < 11 → (els l)[i * 11 + j]? = (elC e)[j]? := by
  intro l
  induction l with
  | nil => intro i e h; simp at h
  | cons u l ih =>
    intro i e h j hj
    have q : els (u :: l) = elC u ++ els l := rfl
    rw [q]
    cases i with
    | zero =>
      simp at h
      subst h
      rw [List.getElem?_append_left (by rw [elC_length]; omega), Nat.zero_mul, Nat.zero_add]
    | succ i =>
      have := ih (i := i) (e := e) (by simpa using h) j hj
      rw [List.getElem?_append_right (by rw [elC_length]; omega), elC_length, show (i + 1) * 11 + j - 11 = i * 11 + j from by omega]
      exact this
theorem els_one (l : List El) : ∀ u ∈ els l, u.oneCell' = true := by
  intro u hu
  obtain ⟨e, _, he⟩ := List.mem_flatMap.1 hu
  have := spC_one e.s e.A e.n e.c
  rw [Array.all_eq_true'] at this
  exact this u (by simpa [elC] using he)
theorem els_take (l : List El) (k : Nat) : (els l).take (k * 11) = els (l.take k) := by
  induction l generalizing k with
  | nil => simp [els]
  | cons e l ih =>
    cases k with
    | zero => simp [els]
    | succ k =>
      have q : els (e :: l) = elC e ++ els l := rfl
      have q2 : els ((e :: l).take (k + 1)) = elC e ++ els (l.take k) := rfl
      rw [q, q2, ← ih k, List.take_append, elC_length, List.take_of_length_le (by rw [elC_length]; omega), show (k + 1) * 11 - 11 = k * 11 from by omega]
theorem els_drop (l : List El) (k : Nat) : (els l).drop (k * 11) = els (l.drop k) := by
  induction l generalizing k with
  | nil => simp [els]
  | cons e l ih =>
    cases k with
    | zero => simp [els]
    | succ k =>
      have q : els (e :: l) = elC e ++ els l := rfl
      have q2 : els ((e :: l).drop (k + 1)) = els (l.drop k) := rfl
      rw [q, q2, ← ih k, List.drop_append, elC_length, List.drop_eq_nil_of_le (by rw [elC_length]; omega), show (k + 1) * 11 - 11 = k * 11 from by omega, List.nil_append]
/-- A span's tags lie where it says. -/
structure ElOk (w : World) (B : Nat) (e : El) : Prop where
  rd : RbT w B e.A e.s.tags
  len : e.s.tags.length = e.n
  max : e.n ≤ 9223372036854775807
theorem ElOk.below {w w' : World} {B : Nat} {e : El} (h : ElOk w B e) (hb : Below B w w') : ElOk w' B e := ⟨Rd.below h.rd hb, h.len, h.max⟩
theorem ElOk.more {w : World} {B B' : Nat} {e : El} (h : ElOk w B e) (hb : B ≤ B') : ElOk w B' e := ⟨Rd.more h.rd hb, h.len, h.max⟩
/-- Spans that lie from A on, and their tags. -/
structure RbS (w : World) (B : Nat) (A : Option Addr) (l : List El) : Prop where
  rd : Rd w B A (els l)
  ok : ∀ e ∈ l, ElOk w B e
section
variable {w w' : World} {B B' : Nat} {A : Option Addr} {l : List El}
theorem RbS.nil : RbS w B A [] := ⟨Rd.nil, fun _ h => by cases h⟩
theorem RbS.below (h : RbS w B A l) (hb : Below B w w') : RbS w' B A l := ⟨Rd.below h.rd hb, fun e he => (h.ok e he).below hb⟩
theorem RbS.more (h : RbS w B A l) (hB : B ≤ B') : RbS w B' A l := ⟨Rd.more h.rd hB, fun e he => (h.ok e he).more hB⟩
theorem RbS.bS (h : RbS w w.heap.size A l) (hb : Below w.heap.size w w') : RbS w' w'.heap.size A l := (h.below hb).more hb.size
theorem RbS.drewN (h : RbS w B A l) (k : Nat) : RbS (w.drewN k) B A l := ⟨Rd.drewN h.rd k, fun e he => ⟨Rd.drewN (h.ok e he).rd k, (h.ok e he).len, (h.ok e he).max⟩⟩
theorem RbS.get (h : RbS w B A l) {i : Nat} {e : El} (hi : l[i]? = some e) :
    ∃ b o, A = some ⟨b, o, none⟩ ∧ b < B ∧ (∀ j, j < 11 → w.cell? ⟨b, o + i * 11 + j, none⟩ = (elC e)[j]?) ∧ ElOk w B e := by
  have hl := (List.getElem?_eq_some_iff.1 hi).1
  obtain ⟨b, o, hA, hb, hc⟩ := h.rd (by intro e0; have := els_length l; rw [e0, List.length_nil] at this; omega)
  refine ⟨b, o, hA, hb, fun j hj => ?_, h.ok e (List.mem_of_getElem? hi)⟩
  have h1 := els_get hi j hj
  have h2 : j < (elC e).length := by rw [elC_length]; exact hj
  rw [List.getElem?_eq_getElem h2] at h1 ⊢
  rw [Nat.add_assoc]
  exact hc _ _ h1
end
/-- The load of a whole span out of a row, shut. -/
theorem run_loadVar_cells {P : Program} (w : World) (ty : TypeId) (d : TypeDesc) (a : Addr) (xs : List Value) (hu : P.underlying ty = some d) (hd : (match d with | .struct _ | .array _ _ => true | _ => false) = true) (hi : (P.info? ty).map (·.size) = some xs.length)
    (hc : ∀ j v, xs[j]? = some v → w.cell? (a.add j) = some v) : (loadVar ty a).run P w = .ok (.agg xs.toArray) w := by
  have hl := run_loadCells_list (P := P) w a xs hc
  cases hq : P.info? ty with
  | none => simp [hq] at hi
  | some i =>
    have hs : i.size = xs.length := by simpa [hq] using hi
    have hagg : (isAgg ty).run P w = .ok true w := by
      unfold isAgg
      rw [Sem.run_bind, run_underlying hu w]
      cases d <;> simp_all
    simp [loadVar, Sem.run_bind, hagg, sizeOf, typeInfo, hq, hs, hl]
def loadK (t : TypeId) (a : Addr) : Sem Value := loadVar t a
theorem loadK_shut (t : TypeId) (a : Addr) : loadVar t a = loadK t a := rfl
set_option maxRecDepth 100000 in
theorem loadK_el {w : World} {b o : Nat} {e : El} (h : ∀ j, j < 11 → w.cell? ⟨b, o + j, none⟩ = (elC e)[j]?) : (loadK 27 ⟨b, o, none⟩).run Try.prog w = .ok (spV e.s e.A e.n e.c) w :=
  run_loadVar_cells w _ _ ⟨b, o, none⟩ (elC e) Try.underlying27 rfl (by rfl) (fun j v hv => by
    have hj : j < 11 := by have := (List.getElem?_eq_some_iff.1 hv).1; rwa [elC_length] at this
    rw [Addr.add_lit, h j hj, hv])
set_option maxRecDepth 100000 in
theorem loadK_sp {w : World} {g n c : Nat} {s : Sp} {A : Option Addr} (h : Bk w g 27 (spC s A n c)) : (loadK 27 ⟨g, 0, none⟩).run Try.prog w = .ok (spV s A n c) w :=
  run_loadVar_row w g _ _ (spC s A n c) (0, 0) _ h Try.underlying27 rfl (by rfl)
end Go.Proofs.Ytohnpogoldbplaa

/- Spans: cmp.Compare, cmp.Or, slices.CompareFunc. -/
namespace Go.Proofs.Ytohnpogoldbplaa
open Go.RowKit

def cmpI (x y : Int) : Int := if x < y then -1 else if y < x then 1 else 0
theorem strEq_of' {s t : ByteArray} : (s.toList == t.toList) = decide (s = t) := by
  rw [ByteArray.toList_eq, ByteArray.toList_eq, Bool.eq_iff_iff, beq_iff_eq, decide_eq_true_iff]
  exact ⟨fun h => ByteArray.ext (Array.ext' h), fun h => by rw [h]⟩
def cmpS (s t : ByteArray) : Int := if strLt s t = true then -1 else if s = t then 0 else 1
theorem cmpU (x y : Int) (w : World) : Calls Try.prog 60 #[.int .u64 x, .int .u64 y] w fun e w' => e = .returned (.int .i64 (cmpI x y)) ∧ w' = w := by
  by_cases h1 : x < y
  · rw [show cmpI x y = -1 from by rw [cmpI, if_pos h1]]
    go_enter Try.func60, Try.ntmps60
    go_wp2
    go_ret
    exact ⟨rfl, rfl⟩
  · by_cases h2 : y < x
    · rw [show cmpI x y = 1 from by rw [cmpI, if_neg h1, if_pos h2]]
      go_enter Try.func60, Try.ntmps60
      go_wp2
      go_ret
      exact ⟨rfl, rfl⟩
    · rw [show cmpI x y = 0 from by rw [cmpI, if_neg h1, if_neg h2]]
      go_enter Try.func60, Try.ntmps60
      go_wp2
      go_ret
      exact ⟨rfl, rfl⟩
theorem cmpJ (x y : Int) (w : World) : Calls Try.prog 61 #[.int .i64 x, .int .i64 y] w fun e w' => e = .returned (.int .i64 (cmpI x y)) ∧ w' = w := by
  by_cases h1 : x < y
  · rw [show cmpI x y = -1 from by rw [cmpI, if_pos h1]]
    go_enter Try.func61, Try.ntmps61
    go_wp2
    go_ret
    exact ⟨rfl, rfl⟩
  · by_cases h2 : y < x
    · rw [show cmpI x y = 1 from by rw [cmpI, if_neg h1, if_pos h2]]
      go_enter Try.func61, Try.ntmps61
      go_wp2
      go_ret
      exact ⟨rfl, rfl⟩
    · rw [show cmpI x y = 0 from by rw [cmpI, if_neg h1, if_neg h2]]
      go_enter Try.func61, Try.ntmps61
      go_wp2
      go_ret
      exact ⟨rfl, rfl⟩
theorem cmpN' (x y : Int) (w : World) : Calls Try.prog 63 #[.int .i64 x, .int .i64 y] w fun e w' => e = .returned (.int .i64 (cmpI x y)) ∧ w' = w := by
  by_cases h1 : x < y
  · rw [show cmpI x y = -1 from by rw [cmpI, if_pos h1]]
    go_enter Try.func63, Try.ntmps63
    go_wp2
    go_ret
    exact ⟨rfl, rfl⟩
  · by_cases h2 : y < x
    · rw [show cmpI x y = 1 from by rw [cmpI, if_neg h1, if_pos h2]]
      go_enter Try.func63, Try.ntmps63
      go_wp2
      go_ret
      exact ⟨rfl, rfl⟩
    · rw [show cmpI x y = 0 from by rw [cmpI, if_neg h1, if_neg h2]]
      go_enter Try.func63, Try.ntmps63
      go_wp2
      go_ret
      exact ⟨rfl, rfl⟩
theorem cmpStr (s t : ByteArray) (w : World) : Calls Try.prog 62 #[.string s, .string t] w fun e w' => e = .returned (.int .i64 (cmpS s t)) ∧ w' = w := by
  have n1 : (s.toList == s.toList) = true := by simp
  have n2 : (t.toList == t.toList) = true := by simp
  cases h1 : strLt s t with
  | true =>
    rw [show cmpS s t = -1 from by rw [cmpS, if_pos h1]]
    unfold strLt at h1
    go_enter Try.func62, Try.ntmps62
    go_wp2
    go_ret
    exact ⟨rfl, rfl⟩
  | false =>
    by_cases h2 : s = t
    · subst h2
      rw [show cmpS s s = 0 from by rw [cmpS, h1]; simp]
      unfold strLt at h1
      go_enter Try.func62, Try.ntmps62
      go_wp2
      go_ret
      exact ⟨rfl, rfl⟩
    · rw [show cmpS s t = 1 from by rw [cmpS, h1, if_neg h2]; simp]
      have h3 : (s.toList == t.toList) = false := by rw [strEq_of']; simpa using h2
      unfold strLt at h1
      go_enter Try.func62, Try.ntmps62
      go_wp2
      go_ret
      exact ⟨rfl, rfl⟩
/-- The first that is not nought. -/
def orL : List Int → Int
  | [] => 0
  | x :: l => if x ≠ 0 then x else orL l
theorem orL_drop {l : List Int} {j : Nat} {x : Int} (h : l[j]? = some x) : orL (l.drop j) = if x ≠ 0 then x else orL (l.drop (j + 1)) := by
  have hl := (List.getElem?_eq_some_iff.1 h).1
  rw [List.drop_eq_getElem_cons hl, (List.getElem?_eq_some_iff.1 h).2, orL]
set_option maxHeartbeats 400000 in
theorem cmpOr {l : List Int} {n g : Nat} (w : World) (hn : l.length = n) (hnl : n ≤ 1000) (hb : Bk w g 3 (l.map (Value.int .i64)).toArray) :
    Calls Try.prog 58 #[.slice (some ⟨g, 0, none⟩) n n] w fun e w' => e = .returned (.int .i64 (orL l)) ∧ w' = w := by
  have HN := Lib.hid hn
  have hget : ∀ j x, l[j]? = some x → w.cell? ⟨g, j, none⟩ = some (.int .i64 x) := fun j x h => by
    rw [hb.cell j, List.getElem?_toArray, List.getElem?_map, h]
    rfl
  have HG := Lib.hid hget
  obtain ⟨q, hq⟩ : ∃ q, orL l = q := ⟨_, rfl⟩
  rw [hq]
  have HQ := Lib.hid hq
  clear hn hget hq
  go_enter Try.func58, Try.ntmps58
  go_wp2
  go_loop [8] (fun i => ∃ j : Nat, j ≤ n ∧ i = .int .i64 j ∧ orL (l.drop j) = q) (fun i => n - (intOf i).toNat)
  case atStart => exact ⟨0, by omega, rfl, HQ.out⟩
  case round =>
    obtain ⟨j, hj, rfl, hd⟩ := hrel
    have HD := Lib.hid hd
    clear hd
    by_cases hlt : j < n
    · have hlt' : (j : Int) < (n : Int) := by omega
      obtain ⟨x, hx⟩ : ∃ x, l[j]? = some x := ⟨_, List.getElem?_eq_getElem (by rw [HN.out]; exact hlt)⟩
      have hc := HG.out j x hx
      have hd := orL_drop hx
      rw [HD.out] at hd
      have HX := Lib.hid hd
      clear hx hd
      by_cases h0 : x = 0
      · subst h0
        have hd := HX.out
        rw [if_neg (by simp)] at hd
        have HX2 := Lib.hid hd
        clear hd
        go_wp2
        go_round
        case rel => exact ⟨j + 1, by omega, by go_num, HX2.out.symm⟩
        case measure => simp [intOf]; omega
      · have hxb : (x != 0) = true := by simp [h0]
        have hd := HX.out
        rw [if_pos h0] at hd
        have HX2 := Lib.hid hd
        clear hd
        go_wp2
        go_ret
        exact ⟨by rw [HX2.out]; rfl, rfl⟩
    · have hlt' : decide ((j : Int) < (n : Int)) = false := by simp; omega
      go_wp2
      go_ret
      have : q = 0 := by
        rw [← HD.out, List.drop_eq_nil_of_le (by rw [HN.out]; omega)]
        rfl
      exact ⟨by rw [this]; rfl, rfl⟩
end Go.Proofs.Ytohnpogoldbplaa

/- Spans: compareTraces, compareTags, slices.CompareFunc of tags. -/
namespace Go.Proofs.Ytohnpogoldbplaa
open Go.RowKit

def cmpTr (h1 l1 h2 l2 : Int) : Int := orL [cmpI h1 h2, cmpI l1 l2]
def cmpTg (a b : Tg) : Int := orL [cmpS a.key b.key, cmpS a.val b.val]
/-- Two lists of tags. -/
def cmpTL : List Tg → List Tg → Int
  | [], [] => 0
  | [], _ :: _ => -1
  | _ :: _, [] => 1
  | a :: la, b :: lb => if cmpTg a b ≠ 0 then cmpTg a b else cmpTL la lb
theorem cmpTL_step {la lb : List Tg} {j : Nat} {a b : Tg} (ha : la[j]? = some a) (hb : lb[j]? = some b) : cmpTL (la.drop j) (lb.drop j) = if cmpTg a b ≠ 0 then cmpTg a b else cmpTL (la.drop (j + 1)) (lb.drop (j + 1)) := by
  have h1 := (List.getElem?_eq_some_iff.1 ha).1
  have h2 := (List.getElem?_eq_some_iff.1 hb).1
  rw [List.drop_eq_getElem_cons h1, List.drop_eq_getElem_cons h2, (List.getElem?_eq_some_iff.1 ha).2, (List.getElem?_eq_some_iff.1 hb).2, cmpTL]
set_option maxRecDepth 100000 in
set_option maxHeartbeats 2000000 in
theorem spCmpTraces (h1 l1 h2 l2 : Int) (w : World) :
    Calls Try.prog 59 #[.agg #[.int .u64 h1, .int .u64 l1], .agg #[.int .u64 h2, .int .u64 l2]] w fun e w' => e = .returned (.int .i64 (cmpTr h1 l1 h2 l2)) ∧ Below w.heap.size w w' := by
  have b1 := (Bk.new w 24 #[.int .u64 h1, .int .u64 l1]).alloc (.cells #[.int .u64 h2, .int .u64 l2] 24)
  have b2 := Bk.new (w.alloc (.cells #[.int .u64 h1, .int .u64 l1] 24)) 24 #[.int .u64 h2, .int .u64 l2]
  rw [World.size_alloc] at b2
  have hb0 : Below w.heap.size w ((w.alloc (.cells #[.int .u64 h1, .int .u64 l1] 24)).alloc (.cells #[.int .u64 h2, .int .u64 l2] 24)) := ((Below.refl _ w).alloc (Nat.le_refl _) _).alloc (by simp) _
  obtain ⟨W, hW⟩ : ∃ W, (w.alloc (.cells #[.int .u64 h1, .int .u64 l1] 24)).alloc (.cells #[.int .u64 h2, .int .u64 l2] 24) = W := ⟨_, rfl⟩
  rw [hW] at b1 b2 hb0
  have HW := Lib.hid hW
  obtain ⟨g, hg⟩ : ∃ g, w.heap.size = g := ⟨_, rfl⟩
  rw [hg] at b1 b2
  have HG := Lib.hid hg
  have k10 : W.cell? ⟨g, 0, none⟩ = some (.int .u64 h1) := b1.cell 0
  have k11 : W.cell? ⟨g, 1, none⟩ = some (.int .u64 l1) := b1.cell 1
  have k20 : W.cell? ⟨g + 1, 0, none⟩ = some (.int .u64 h2) := b2.cell 0
  have k21 : W.cell? ⟨g + 1, 1, none⟩ = some (.int .u64 l2) := b2.cell 1
  have hsz := hb0.size
  obtain ⟨c1, hc1⟩ : ∃ c, cmpI h1 h2 = c := ⟨_, rfl⟩
  obtain ⟨c2, hc2⟩ : ∃ c, cmpI l1 l2 = c := ⟨_, rfl⟩
  have u1 := fun w => cmpU h1 h2 w
  rw [hc1] at u1
  have u2 := fun w => cmpU l1 l2 w
  rw [hc2] at u2
  have hres : cmpTr h1 l1 h2 l2 = orL [c1, c2] := by rw [cmpTr, hc1, hc2]
  obtain ⟨q, hq⟩ : ∃ q, orL [c1, c2] = q := ⟨_, rfl⟩
  rw [hres, hq]
  have HQ := Lib.hid hq
  have HB := Lib.hid hb0
  have bo := (Bk.new W 3 #[.int .i64 c1, .int .i64 c2]).drew
  have hor := cmpOr (l := [c1, c2]) (n := 2) _ rfl (by decide) bo
  rw [hq] at hor
  have HOR := Lib.hid hor
  clear hor hW hg b1 b2 hc1 hc2 hres hq hb0
  go_enter Try.func59, Try.ntmps59
  go_upto_region 1 with fail
  rw [HW.out, HG.out]
  go_region_held3 (fun w' => w'.cell? ⟨g, 0, none⟩ = some (.int .u64 h1) ∧ w'.cell? ⟨g, 1, none⟩ = some (.int .u64 l1) ∧ w'.cell? ⟨g + 1, 0, none⟩ = some (.int .u64 h2) ∧ w'.cell? ⟨g + 1, 1, none⟩ = some (.int .u64 l2))
    (go_keep)
    (first
      | (go_at_call_of 60 (Value.int .u64 h1)
         refine (u1 _).mono ?_
         rintro e w' ⟨rfl, hw⟩
         rw [hw]
         clear hw w')
      | (go_at_call_of 60 (Value.int .u64 l1)
         refine (u2 _).mono ?_
         rintro e w' ⟨rfl, hw⟩
         rw [hw]
         clear hw w')
      | (go_at_call 58
         refine HOR.out.mono ?_
         rintro e w' ⟨rfl, hw⟩
         rw [hw]
         clear hw w')
      | fail)
  all_goals
    go_wp2
    go_ret
    exact ⟨rfl, (below_drewN (HB.out.alloc hsz (.cells #[.int .i64 c1, .int .i64 c2] 3)) 1)⟩
set_option maxRecDepth 100000 in
set_option maxHeartbeats 2000000 in
theorem spCmpTags (a b : Tg) (w : World) :
    Calls Try.prog 65 #[.agg #[.string a.key, .string a.val], .agg #[.string b.key, .string b.val]] w fun e w' => e = .returned (.int .i64 (cmpTg a b)) ∧ Below w.heap.size w w' := by
  obtain ⟨h1, l1⟩ := a
  obtain ⟨h2, l2⟩ := b
  simp only
  have b1 := (Bk.new w 42 #[.string h1, .string l1]).alloc (.cells #[.string h2, .string l2] 42)
  have b2 := Bk.new (w.alloc (.cells #[.string h1, .string l1] 42)) 42 #[.string h2, .string l2]
  rw [World.size_alloc] at b2
  have hb0 : Below w.heap.size w ((w.alloc (.cells #[.string h1, .string l1] 42)).alloc (.cells #[.string h2, .string l2] 42)) := ((Below.refl _ w).alloc (Nat.le_refl _) _).alloc (by simp) _
  obtain ⟨W, hW⟩ : ∃ W, (w.alloc (.cells #[.string h1, .string l1] 42)).alloc (.cells #[.string h2, .string l2] 42) = W := ⟨_, rfl⟩
  rw [hW] at b1 b2 hb0
  have HW := Lib.hid hW
  obtain ⟨g, hg⟩ : ∃ g, w.heap.size = g := ⟨_, rfl⟩
  rw [hg] at b1 b2
  have HG := Lib.hid hg
  have k10 : W.cell? ⟨g, 0, none⟩ = some (.string h1) := b1.cell 0
  have k11 : W.cell? ⟨g, 1, none⟩ = some (.string l1) := b1.cell 1
  have k20 : W.cell? ⟨g + 1, 0, none⟩ = some (.string h2) := b2.cell 0
  have k21 : W.cell? ⟨g + 1, 1, none⟩ = some (.string l2) := b2.cell 1
  have hsz := hb0.size
  obtain ⟨c1, hc1⟩ : ∃ c, cmpS h1 h2 = c := ⟨_, rfl⟩
  obtain ⟨c2, hc2⟩ : ∃ c, cmpS l1 l2 = c := ⟨_, rfl⟩
  have u1 := fun w => cmpStr h1 h2 w
  rw [hc1] at u1
  have u2 := fun w => cmpStr l1 l2 w
  rw [hc2] at u2
  have hres : cmpTg ⟨h1, l1⟩ ⟨h2, l2⟩ = orL [c1, c2] := by rw [cmpTg, hc1, hc2]
  obtain ⟨q, hq⟩ : ∃ q, orL [c1, c2] = q := ⟨_, rfl⟩
  rw [hres, hq]
  have HQ := Lib.hid hq
  have HB := Lib.hid hb0
  have bo := (Bk.new W 3 #[.int .i64 c1, .int .i64 c2]).drew
  have hor := cmpOr (l := [c1, c2]) (n := 2) _ rfl (by decide) bo
  rw [hq] at hor
  have HOR := Lib.hid hor
  clear hor hW hg b1 b2 hc1 hc2 hres hq hb0
  go_enter Try.func65, Try.ntmps65
  go_upto_region 1 with fail
  rw [HW.out, HG.out]
  go_region_held3 (fun w' => w'.cell? ⟨g, 0, none⟩ = some (.string h1) ∧ w'.cell? ⟨g, 1, none⟩ = some (.string l1) ∧ w'.cell? ⟨g + 1, 0, none⟩ = some (.string h2) ∧ w'.cell? ⟨g + 1, 1, none⟩ = some (.string l2))
    (go_keep)
    (first
      | (go_at_call_of 62 (Value.string h1)
         refine (u1 _).mono ?_
         rintro e w' ⟨rfl, hw⟩
         rw [hw]
         clear hw w')
      | (go_at_call_of 62 (Value.string l1)
         refine (u2 _).mono ?_
         rintro e w' ⟨rfl, hw⟩
         rw [hw]
         clear hw w')
      | (go_at_call 58
         refine HOR.out.mono ?_
         rintro e w' ⟨rfl, hw⟩
         rw [hw]
         clear hw w')
      | fail)
  all_goals
    go_wp2
    go_ret
    exact ⟨rfl, (below_drewN (HB.out.alloc hsz (.cells #[.int .i64 c1, .int .i64 c2] 3)) 1)⟩
end Go.Proofs.Ytohnpogoldbplaa

/- Spans: slices.CompareFunc of tags. -/
namespace Go.Proofs.Ytohnpogoldbplaa
open Go.RowKit

set_option maxRecDepth 100000 in
set_option maxHeartbeats 2000000 in
theorem spCmpTL {A1 A2 : Option Addr} {c1 c2 n m B : Nat} {la lb : List Tg} (w : World) (hf : RbT w B A1 la) (hg : RbT w B A2 lb) (hn : la.length = n) (hm : lb.length = m) (hB : B ≤ w.heap.size) (hnl : n ≤ 9223372036854775807) (hml : m ≤ 9223372036854775807) :
    Calls Try.prog 64 #[.slice A1 n c1, .slice A2 m c2, .func (.func 65) #[] #[]] w fun e w' => e = .returned (.int .i64 (cmpTL la lb)) ∧ Below w.heap.size w w' := by
  have HN := Lib.hid hn
  have HM := Lib.hid hm
  obtain ⟨q, hq⟩ : ∃ q, cmpTL la lb = q := ⟨_, rfl⟩
  rw [hq]
  have HQ := Lib.hid hq
  clear hn hm hq
  go_enter Try.func64, Try.ntmps64
  go_wp2
  go_loopw [13] (fun iv_ wr => ∃ j : Nat, j ≤ n ∧ j ≤ m ∧ iv_ = .int .i64 j ∧ cmpTL (la.drop j) (lb.drop j) = q ∧ Below w.heap.size w wr) (fun i _ => n - (intOf i).toNat)
  case atStart => exact ⟨0, by omega, by omega, rfl, HQ.out, Below.refl _ _⟩
  case round =>
    obtain ⟨j, hj, hjm, rfl, hd, hb⟩ := hrel
    have HD := Lib.hid hd
    have hsr := hb.size
    clear hd
    by_cases hlt : j < n
    · have hlt' : (j : Int) < (n : Int) := by omega
      obtain ⟨x, hx⟩ : ∃ x, la[j]? = some x := ⟨_, List.getElem?_eq_getElem (by rw [HN.out]; exact hlt)⟩
      obtain ⟨b1, o1, rfl, hbb1, c11, c12⟩ := RbT.get (Rd.below hf (hb.mono hB)) hx
      by_cases hlm : j < m
      · have hlm' : decide ((m : Int) ≤ (j : Int)) = false := by simp; omega
        have hlm2 : (j : Int) < (m : Int) := by omega
        obtain ⟨y, hy⟩ : ∃ y, lb[j]? = some y := ⟨_, List.getElem?_eq_getElem (by rw [HM.out]; exact hlm)⟩
        obtain ⟨b2, o2, rfl, hbb2, c21, c22⟩ := RbT.get (Rd.below hg (hb.mono hB)) hy
        have hst := cmpTL_step hx hy
        rw [HD.out] at hst
        obtain ⟨cv, hcv⟩ : ∃ cv, cmpTg x y = cv := ⟨_, rfl⟩
        have hct := fun W => spCmpTags x y W
        rw [hcv] at hst hct
        have HST := Lib.hid hst
        have HCT := Lib.hid hct
        have d21 : (wr.alloc (.cells #[.string x.key, .string x.val] 42)).cell? ⟨b2, o2 + j * 2, none⟩ = some (.string y.key) := (World.cell?_alloc_lt wr _ ⟨b2, o2 + j * 2, none⟩ (by show b2 < _; omega)).trans c21
        have d22 : (wr.alloc (.cells #[.string x.key, .string x.val] 42)).cell? ⟨b2, o2 + j * 2 + 1, none⟩ = some (.string y.val) := (World.cell?_alloc_lt wr _ ⟨b2, o2 + j * 2 + 1, none⟩ (by show b2 < _; omega)).trans c22
        have hb2 := (hb.alloc hsr (.cells #[.string x.key, .string x.val] 42)).alloc (by simp; omega) (.cells #[.string y.key, .string y.val] 42)
        have HB2 := Lib.hid hb2
        clear hst hct hcv hb2 hx hy hbb1 hbb2
        by_cases h0 : cv = 0
        · subst h0
          have hd := HST.out
          rw [if_neg (by simp)] at hd
          have HD2 := Lib.hid hd
          clear hd
          go_wp2_with (go_at_call 65; refine (HCT.out _).mono ?_; rintro en w' ⟨rfl, hb3⟩)
          go_roundw
          case rel => exact ⟨j + 1, by omega, by omega, by go_num, HD2.out.symm, HB2.out.trans (hb3.mono HB2.out.size)⟩
          case measure => simp [intOf]; omega
        · have hxb : (cv != 0) = true := by simp [h0]
          have hd := HST.out
          rw [if_pos h0] at hd
          have HD2 := Lib.hid hd
          clear hd
          go_wp2_with (go_at_call 65; refine (HCT.out _).mono ?_; rintro en w' ⟨rfl, hb3⟩)
          go_ret
          exact ⟨by rw [HD2.out]; rfl, HB2.out.trans (hb3.mono HB2.out.size)⟩
      · have hlm' : (m : Int) ≤ (j : Int) := by omega
        have hq1 : q = 1 := by
          have h1 := (List.getElem?_eq_some_iff.1 hx).1
          rw [← HD.out, show lb.drop j = [] from List.drop_eq_nil_of_le (by rw [HM.out]; omega), List.drop_eq_getElem_cons h1, cmpTL]
        have HQ1 := Lib.hid hq1
        clear hq1 hx
        go_wp2
        go_ret
        exact ⟨by rw [HQ1.out]; rfl, hb.alloc hsr _⟩
    · have hlt' : decide ((j : Int) < (n : Int)) = false := by simp; omega
      obtain rfl : j = n := by omega
      have e1 : la.drop j = [] := List.drop_eq_nil_of_le (by rw [HN.out]; omega)
      have hd := HD.out
      rw [e1] at hd
      by_cases hlm : j < m
      · have hlm2 : (j : Int) < (m : Int) := by omega
        have hq1 : q = -1 := by
          have h1 : j < lb.length := by rw [HM.out]; exact hlm
          rw [← hd, List.drop_eq_getElem_cons h1, cmpTL]
        have HQ1 := Lib.hid hq1
        clear hq1 hd e1
        go_wp2
        go_ret
        exact ⟨by rw [HQ1.out]; rfl, hb⟩
      · have hlm2 : decide ((j : Int) < (m : Int)) = false := by simp; omega
        have hq1 : q = 0 := by
          rw [← hd, List.drop_eq_nil_of_le (by rw [HM.out]; omega), cmpTL]
        have HQ1 := Lib.hid hq1
        clear hq1 hd e1
        go_wp2
        go_ret
        exact ⟨by rw [HQ1.out]; rfl, hb⟩
end Go.Proofs.Ytohnpogoldbplaa

/- Spans: Compare. -/
namespace Go.Proofs.Ytohnpogoldbplaa
open Go.RowKit

/-- What Compare tells. -/
def spCmp (a b : Sp) : Int := orL [cmpTr a.hi a.lo b.hi b.lo, cmpI a.id b.id, cmpI a.parent b.parent, cmpI a.start b.start, cmpI a.length b.length, cmpS a.service b.service, cmpS a.name b.name, cmpI a.kind b.kind, cmpI (if a.fails = true then 1 else 0) (if b.fails = true then 1 else 0), cmpTL a.tags b.tags]
set_option maxRecDepth 100000 in
set_option maxHeartbeats 8000000 in
theorem spCompare {A1 A2 : Option Addr} {c1 c2 n m B : Nat} (a b : Sp) (w : World) (hf : RbT w B A1 a.tags) (hg : RbT w B A2 b.tags) (hn : a.tags.length = n) (hm : b.tags.length = m) (hB : B ≤ w.heap.size) (hnl : n ≤ 9223372036854775807) (hml : m ≤ 9223372036854775807) :
    Calls Try.prog 22 #[spV a A1 n c1, spV b A2 m c2] w fun e w' => e = .returned (.int .i64 (spCmp a b)) ∧ Below w.heap.size w w' := by
  have hb0 : Below w.heap.size w ((w.alloc (.cells (spC a A1 n c1) 27)).alloc (.cells (spC b A2 m c2) 27)) := ((Below.refl _ w).alloc (Nat.le_refl _) _).alloc (by simp) _
  have hff := Rd.below hf (hb0.mono hB)
  have hgg := Rd.below hg (hb0.mono hB)
  have bk1 := (Bk.new w 27 (spC a A1 n c1)).alloc (.cells (spC b A2 m c2) 27)
  have bk2 := Bk.new (w.alloc (.cells (spC a A1 n c1) 27)) 27 (spC b A2 m c2)
  rw [World.size_alloc] at bk2
  have hs1 : ((w.alloc (.cells (spC a A1 n c1) 27)).alloc (.cells (spC b A2 m c2) 27)).heap.size = w.heap.size + 2 := by simp
  obtain ⟨W, hW⟩ : ∃ W, (w.alloc (.cells (spC a A1 n c1) 27)).alloc (.cells (spC b A2 m c2) 27) = W := ⟨_, rfl⟩
  rw [hW] at hb0 hff hgg bk1 bk2 hs1
  have HW := Lib.hid hW
  obtain ⟨g, hgq⟩ : ∃ g, w.heap.size = g := ⟨_, rfl⟩
  rw [hgq] at bk1 bk2
  have HG := Lib.hid hgq
  have bd1 := bk1.drew
  have bd2 := bk2.drew
  have fd := Rd.drew hff
  have gd := Rd.drew hgg
  have hbd : Below w.heap.size w W.drew := below_drewN hb0 1
  have hBW : B ≤ W.drew.heap.size := by show B ≤ W.heap.size; omega
  obtain ⟨fa, hfa⟩ : ∃ fa : Int, (if a.fails = true then 1 else 0) = fa := ⟨_, rfl⟩
  obtain ⟨fb, hfb⟩ : ∃ fb : Int, (if b.fails = true then 1 else 0) = fb := ⟨_, rfl⟩
  have hT1 := fun W => spTruth W a.fails
  rw [hfa] at hT1
  have hT2 := fun W => spTruth W b.fails
  rw [hfb] at hT2
  have hres : spCmp a b = orL [cmpTr a.hi a.lo b.hi b.lo, cmpI a.id b.id, cmpI a.parent b.parent, cmpI a.start b.start, cmpI a.length b.length, cmpS a.service b.service, cmpS a.name b.name, cmpI a.kind b.kind, cmpI fa fb, cmpTL a.tags b.tags] := by rw [spCmp, hfa, hfb]
  rw [hres]
  clear hres hfa hfb
  have HN := Lib.hid hn
  have HM := Lib.hid hm
  clear hW hgq hf hg hn hm hb0 hff hgg bk1 bk2 hs1
  go_enter Try.func22, Try.ntmps22
  go_upto_region 1 with fail
  rw [HW.out, HG.out]
  go_region_held3 (fun w' => (w'.cell? ⟨g, 0, none⟩ = some (.int .u64 a.hi) ∧ w'.cell? ⟨g, 1, none⟩ = some (.int .u64 a.lo) ∧ w'.cell? ⟨g, 2, none⟩ = some (.int .u64 a.id) ∧ w'.cell? ⟨g, 3, none⟩ = some (.int .u64 a.parent) ∧ w'.cell? ⟨g, 4, none⟩ = some (.string a.service) ∧ w'.cell? ⟨g, 5, none⟩ = some (.string a.name) ∧ w'.cell? ⟨g, 6, none⟩ = some (.int .i64 a.kind) ∧ w'.cell? ⟨g, 7, none⟩ = some (.int .i64 a.start) ∧ w'.cell? ⟨g, 8, none⟩ = some (.int .i64 a.length) ∧ w'.cell? ⟨g, 9, none⟩ = some (.bool a.fails) ∧ w'.cell? ⟨g, 10, none⟩ = some (.slice A1 n c1)) ∧ (w'.cell? ⟨g + 1, 0, none⟩ = some (.int .u64 b.hi) ∧ w'.cell? ⟨g + 1, 1, none⟩ = some (.int .u64 b.lo) ∧ w'.cell? ⟨g + 1, 2, none⟩ = some (.int .u64 b.id) ∧ w'.cell? ⟨g + 1, 3, none⟩ = some (.int .u64 b.parent) ∧ w'.cell? ⟨g + 1, 4, none⟩ = some (.string b.service) ∧ w'.cell? ⟨g + 1, 5, none⟩ = some (.string b.name) ∧ w'.cell? ⟨g + 1, 6, none⟩ = some (.int .i64 b.kind) ∧ w'.cell? ⟨g + 1, 7, none⟩ = some (.int .i64 b.start) ∧ w'.cell? ⟨g + 1, 8, none⟩ = some (.int .i64 b.length) ∧ w'.cell? ⟨g + 1, 9, none⟩ = some (.bool b.fails) ∧ w'.cell? ⟨g + 1, 10, none⟩ = some (.slice A2 m c2)))
    (exact ⟨cells11 (by assumption), cells11 (by assumption)⟩)
    (first
      | (go_at_call 59
         refine (spCmpTraces a.hi a.lo b.hi b.lo W.drew).mono ?_
         rintro e w5 ⟨rfl, hb5⟩
         have be1 := bd1.below hb5 bd1.lt
         have be2 := bd2.below hb5 bd2.lt
         have fe := Rd.below fd (hb5.mono hBW)
         have ge := Rd.below gd (hb5.mono hBW)
         have hbe := hbd.trans (hb5.mono hbd.size)
         have hBe := Nat.le_trans hBW hb5.size)
      | (go_at_call 60
         refine (cmpU _ _ _).mono ?_
         rintro e w' ⟨rfl, hw⟩
         rw [hw]
         clear hw w')
      | (go_at_call 61
         refine (cmpJ _ _ _).mono ?_
         rintro e w' ⟨rfl, hw⟩
         rw [hw]
         clear hw w')
      | (go_at_call 62
         refine (cmpStr _ _ _).mono ?_
         rintro e w' ⟨rfl, hw⟩
         rw [hw]
         clear hw w')
      | (go_at_call 63
         refine (cmpN' _ _ _).mono ?_
         rintro e w' ⟨rfl, hw⟩
         rw [hw]
         clear hw w')
      | (go_at_call_of 40 (Value.bool a.fails)
         refine (hT1 _).mono ?_
         rintro e w' ⟨rfl, hw⟩
         rw [hw]
         clear hw w')
      | (go_at_call_of 40 (Value.bool b.fails)
         refine (hT2 _).mono ?_
         rintro e w' ⟨rfl, hw⟩
         rw [hw]
         clear hw w')
      | (go_at_call 64
         refine (spCmpTL w5 fe ge HN.out HM.out hBe hnl hml).mono ?_
         rintro e w6 ⟨rfl, hb6⟩
         have bf1 := be1.below hb6 be1.lt
         have bf2 := be2.below hb6 be2.lt
         have hbf := hbe.trans (hb6.mono hbe.size)
         have hor := cmpOr (l := [cmpTr a.hi a.lo b.hi b.lo, cmpI a.id b.id, cmpI a.parent b.parent, cmpI a.start b.start, cmpI a.length b.length, cmpS a.service b.service, cmpS a.name b.name, cmpI a.kind b.kind, cmpI fa fb, cmpTL a.tags b.tags]) (n := 10) _ rfl (by decide) (Bk.new w6 3 _)
         have hbz := hbf.alloc hbf.size (.cells #[.int .i64 (cmpTr a.hi a.lo b.hi b.lo), .int .i64 (cmpI a.id b.id), .int .i64 (cmpI a.parent b.parent), .int .i64 (cmpI a.start b.start), .int .i64 (cmpI a.length b.length), .int .i64 (cmpS a.service b.service), .int .i64 (cmpS a.name b.name), .int .i64 (cmpI a.kind b.kind), .int .i64 (cmpI fa fb), .int .i64 (cmpTL a.tags b.tags)] 3)
         have bg1 := bf1.alloc (.cells #[.int .i64 (cmpTr a.hi a.lo b.hi b.lo), .int .i64 (cmpI a.id b.id), .int .i64 (cmpI a.parent b.parent), .int .i64 (cmpI a.start b.start), .int .i64 (cmpI a.length b.length), .int .i64 (cmpS a.service b.service), .int .i64 (cmpS a.name b.name), .int .i64 (cmpI a.kind b.kind), .int .i64 (cmpI fa fb), .int .i64 (cmpTL a.tags b.tags)] 3)
         have bg2 := bf2.alloc (.cells #[.int .i64 (cmpTr a.hi a.lo b.hi b.lo), .int .i64 (cmpI a.id b.id), .int .i64 (cmpI a.parent b.parent), .int .i64 (cmpI a.start b.start), .int .i64 (cmpI a.length b.length), .int .i64 (cmpS a.service b.service), .int .i64 (cmpS a.name b.name), .int .i64 (cmpI a.kind b.kind), .int .i64 (cmpI fa fb), .int .i64 (cmpTL a.tags b.tags)] 3))
      | (go_at_call 58
         refine hor.mono ?_
         rintro e w' ⟨rfl, hw⟩
         rw [hw]
         clear hw w')
      | fail)
  all_goals
    go_wp2
    go_ret
    exact ⟨rfl, hbz⟩
end Go.Proofs.Ytohnpogoldbplaa

/- Spans: Compare once more, its world told to the block: what a sort asks of it. -/
namespace Go.Proofs.Ytohnpogoldbplaa
open Go.RowKit

/-- Draws and new blocks, nothing else. -/
structure Gr (w w' : World) : Prop where
  b : Below w.heap.size w w'
  d : w.drawn ≤ w'.drawn
theorem Gr.refl (w : World) : Gr w w := ⟨Below.refl _ _, Nat.le_refl _⟩
theorem Gr.trans {a b c : World} (h : Gr a b) (k : Gr b c) : Gr a c := ⟨h.b.trans (k.b.mono h.b.size), Nat.le_trans h.d k.d⟩
theorem Gr.alloc {a b : World} (h : Gr a b) (o : Obj) : Gr a (b.alloc o) := ⟨h.b.alloc h.b.size o, h.d⟩
theorem Gr.grow {w w' : World} (h : Gr w w') : ∃ q os, w' = Go.Sort.grow (w.drewN q) os := by
  obtain ⟨h1, h2⟩ := h
  obtain ⟨hp, tp, dr, os, out⟩ := w
  obtain ⟨hp', tp', dr', os', out'⟩ := w'
  obtain ⟨e1, e2, e3, e4, e5⟩ := h1
  simp only at e1 e2 e3 e4 e5 h2
  subst e1 e2 e3
  refine ⟨dr' - dr, hp'.extract hp.size hp'.size, ?_⟩
  have hd : dr + (dr' - dr) = dr' := by omega
  have hh : hp ++ hp'.extract hp.size hp'.size = hp' := by
    apply Array.ext_getElem?
    intro i
    by_cases hi : i < hp.size
    · rw [Array.getElem?_append_left hi, e5 i hi]
    · rw [Array.getElem?_append_right (by omega), Array.getElem?_extract]
      by_cases hi2 : i < hp'.size
      · rw [if_pos (by omega), show hp.size + (i - hp.size) = i from by omega]
      · rw [if_neg (by omega), Array.getElem?_eq_none (by omega)]
  simp only [Go.Sort.grow, World.drewN, hd, hh]
set_option maxRecDepth 100000 in
set_option maxHeartbeats 2000000 in
theorem spCmpTracesG (h1 l1 h2 l2 : Int) (w : World) :
    Calls Try.prog 59 #[.agg #[.int .u64 h1, .int .u64 l1], .agg #[.int .u64 h2, .int .u64 l2]] w fun e w' => e = .returned (.int .i64 (cmpTr h1 l1 h2 l2)) ∧ Gr w w' := by
  have b1 := (Bk.new w 24 #[.int .u64 h1, .int .u64 l1]).alloc (.cells #[.int .u64 h2, .int .u64 l2] 24)
  have b2 := Bk.new (w.alloc (.cells #[.int .u64 h1, .int .u64 l1] 24)) 24 #[.int .u64 h2, .int .u64 l2]
  rw [World.size_alloc] at b2
  have hb0 : Below w.heap.size w ((w.alloc (.cells #[.int .u64 h1, .int .u64 l1] 24)).alloc (.cells #[.int .u64 h2, .int .u64 l2] 24)) := ((Below.refl _ w).alloc (Nat.le_refl _) _).alloc (by simp) _
  obtain ⟨W, hW⟩ : ∃ W, (w.alloc (.cells #[.int .u64 h1, .int .u64 l1] 24)).alloc (.cells #[.int .u64 h2, .int .u64 l2] 24) = W := ⟨_, rfl⟩
  rw [hW] at b1 b2 hb0
  have HW := Lib.hid hW
  obtain ⟨g, hg⟩ : ∃ g, w.heap.size = g := ⟨_, rfl⟩
  rw [hg] at b1 b2
  have HG := Lib.hid hg
  have k10 : W.cell? ⟨g, 0, none⟩ = some (.int .u64 h1) := b1.cell 0
  have k11 : W.cell? ⟨g, 1, none⟩ = some (.int .u64 l1) := b1.cell 1
  have k20 : W.cell? ⟨g + 1, 0, none⟩ = some (.int .u64 h2) := b2.cell 0
  have k21 : W.cell? ⟨g + 1, 1, none⟩ = some (.int .u64 l2) := b2.cell 1
  have hsz := hb0.size
  obtain ⟨c1, hc1⟩ : ∃ c, cmpI h1 h2 = c := ⟨_, rfl⟩
  obtain ⟨c2, hc2⟩ : ∃ c, cmpI l1 l2 = c := ⟨_, rfl⟩
  have u1 := fun w => cmpU h1 h2 w
  rw [hc1] at u1
  have u2 := fun w => cmpU l1 l2 w
  rw [hc2] at u2
  have hres : cmpTr h1 l1 h2 l2 = orL [c1, c2] := by rw [cmpTr, hc1, hc2]
  obtain ⟨q, hq⟩ : ∃ q, orL [c1, c2] = q := ⟨_, rfl⟩
  rw [hres, hq]
  have HQ := Lib.hid hq
  have HB := Lib.hid hb0
  have bo := (Bk.new W 3 #[.int .i64 c1, .int .i64 c2]).drew
  have hor := cmpOr (l := [c1, c2]) (n := 2) _ rfl (by decide) bo
  rw [hq] at hor
  have HOR := Lib.hid hor
  clear hor hW hg b1 b2 hc1 hc2 hres hq hb0
  go_enter Try.func59, Try.ntmps59
  go_upto_region 1 with fail
  rw [HW.out, HG.out]
  go_region_held3 (fun w' => w'.cell? ⟨g, 0, none⟩ = some (.int .u64 h1) ∧ w'.cell? ⟨g, 1, none⟩ = some (.int .u64 l1) ∧ w'.cell? ⟨g + 1, 0, none⟩ = some (.int .u64 h2) ∧ w'.cell? ⟨g + 1, 1, none⟩ = some (.int .u64 l2))
    (go_keep)
    (first
      | (go_at_call_of 60 (Value.int .u64 h1)
         refine (u1 _).mono ?_
         rintro e w' ⟨rfl, hw⟩
         rw [hw]
         clear hw w')
      | (go_at_call_of 60 (Value.int .u64 l1)
         refine (u2 _).mono ?_
         rintro e w' ⟨rfl, hw⟩
         rw [hw]
         clear hw w')
      | (go_at_call 58
         refine HOR.out.mono ?_
         rintro e w' ⟨rfl, hw⟩
         rw [hw]
         clear hw w')
      | fail)
  all_goals
    go_wp2
    go_ret
    exact ⟨rfl, ⟨below_drewN (HB.out.alloc hsz (.cells #[.int .i64 c1, .int .i64 c2] 3)) 1, by rw [← HW.out]; exact Nat.le_add_right w.drawn 1⟩⟩
set_option maxRecDepth 100000 in
set_option maxHeartbeats 2000000 in
theorem spCmpTagsG (a b : Tg) (w : World) :
    Calls Try.prog 65 #[.agg #[.string a.key, .string a.val], .agg #[.string b.key, .string b.val]] w fun e w' => e = .returned (.int .i64 (cmpTg a b)) ∧ Gr w w' := by
  obtain ⟨h1, l1⟩ := a
  obtain ⟨h2, l2⟩ := b
  simp only
  have b1 := (Bk.new w 42 #[.string h1, .string l1]).alloc (.cells #[.string h2, .string l2] 42)
  have b2 := Bk.new (w.alloc (.cells #[.string h1, .string l1] 42)) 42 #[.string h2, .string l2]
  rw [World.size_alloc] at b2
  have hb0 : Below w.heap.size w ((w.alloc (.cells #[.string h1, .string l1] 42)).alloc (.cells #[.string h2, .string l2] 42)) := ((Below.refl _ w).alloc (Nat.le_refl _) _).alloc (by simp) _
  obtain ⟨W, hW⟩ : ∃ W, (w.alloc (.cells #[.string h1, .string l1] 42)).alloc (.cells #[.string h2, .string l2] 42) = W := ⟨_, rfl⟩
  rw [hW] at b1 b2 hb0
  have HW := Lib.hid hW
  obtain ⟨g, hg⟩ : ∃ g, w.heap.size = g := ⟨_, rfl⟩
  rw [hg] at b1 b2
  have HG := Lib.hid hg
  have k10 : W.cell? ⟨g, 0, none⟩ = some (.string h1) := b1.cell 0
  have k11 : W.cell? ⟨g, 1, none⟩ = some (.string l1) := b1.cell 1
  have k20 : W.cell? ⟨g + 1, 0, none⟩ = some (.string h2) := b2.cell 0
  have k21 : W.cell? ⟨g + 1, 1, none⟩ = some (.string l2) := b2.cell 1
  have hsz := hb0.size
  obtain ⟨c1, hc1⟩ : ∃ c, cmpS h1 h2 = c := ⟨_, rfl⟩
  obtain ⟨c2, hc2⟩ : ∃ c, cmpS l1 l2 = c := ⟨_, rfl⟩
  have u1 := fun w => cmpStr h1 h2 w
  rw [hc1] at u1
  have u2 := fun w => cmpStr l1 l2 w
  rw [hc2] at u2
  have hres : cmpTg ⟨h1, l1⟩ ⟨h2, l2⟩ = orL [c1, c2] := by rw [cmpTg, hc1, hc2]
  obtain ⟨q, hq⟩ : ∃ q, orL [c1, c2] = q := ⟨_, rfl⟩
  rw [hres, hq]
  have HQ := Lib.hid hq
  have HB := Lib.hid hb0
  have bo := (Bk.new W 3 #[.int .i64 c1, .int .i64 c2]).drew
  have hor := cmpOr (l := [c1, c2]) (n := 2) _ rfl (by decide) bo
  rw [hq] at hor
  have HOR := Lib.hid hor
  clear hor hW hg b1 b2 hc1 hc2 hres hq hb0
  go_enter Try.func65, Try.ntmps65
  go_upto_region 1 with fail
  rw [HW.out, HG.out]
  go_region_held3 (fun w' => w'.cell? ⟨g, 0, none⟩ = some (.string h1) ∧ w'.cell? ⟨g, 1, none⟩ = some (.string l1) ∧ w'.cell? ⟨g + 1, 0, none⟩ = some (.string h2) ∧ w'.cell? ⟨g + 1, 1, none⟩ = some (.string l2))
    (go_keep)
    (first
      | (go_at_call_of 62 (Value.string h1)
         refine (u1 _).mono ?_
         rintro e w' ⟨rfl, hw⟩
         rw [hw]
         clear hw w')
      | (go_at_call_of 62 (Value.string l1)
         refine (u2 _).mono ?_
         rintro e w' ⟨rfl, hw⟩
         rw [hw]
         clear hw w')
      | (go_at_call 58
         refine HOR.out.mono ?_
         rintro e w' ⟨rfl, hw⟩
         rw [hw]
         clear hw w')
      | fail)
  all_goals
    go_wp2
    go_ret
    exact ⟨rfl, ⟨below_drewN (HB.out.alloc hsz (.cells #[.int .i64 c1, .int .i64 c2] 3)) 1, by rw [← HW.out]; exact Nat.le_add_right w.drawn 1⟩⟩
set_option maxRecDepth 100000 in
set_option maxHeartbeats 2000000 in
theorem spCmpTLG {A1 A2 : Option Addr} {c1 c2 n m B : Nat} {la lb : List Tg} (w : World) (hf : RbT w B A1 la) (hg : RbT w B A2 lb) (hn : la.length = n) (hm : lb.length = m) (hB : B ≤ w.heap.size) (hnl : n ≤ 9223372036854775807) (hml : m ≤ 9223372036854775807) :
    Calls Try.prog 64 #[.slice A1 n c1, .slice A2 m c2, .func (.func 65) #[] #[]] w fun e w' => e = .returned (.int .i64 (cmpTL la lb)) ∧ Gr w w' := by
  have HN := Lib.hid hn
  have HM := Lib.hid hm
  obtain ⟨q, hq⟩ : ∃ q, cmpTL la lb = q := ⟨_, rfl⟩
  rw [hq]
  have HQ := Lib.hid hq
  clear hn hm hq
  go_enter Try.func64, Try.ntmps64
  go_wp2
  go_loopw [13] (fun iv_ wr => ∃ j : Nat, j ≤ n ∧ j ≤ m ∧ iv_ = .int .i64 j ∧ cmpTL (la.drop j) (lb.drop j) = q ∧ Gr w wr) (fun i _ => n - (intOf i).toNat)
  case atStart => exact ⟨0, by omega, by omega, rfl, HQ.out, Gr.refl _⟩
  case round =>
    obtain ⟨j, hj, hjm, rfl, hd, hG⟩ := hrel
    have hb := hG.b
    have HD := Lib.hid hd
    have hsr := hb.size
    clear hd
    by_cases hlt : j < n
    · have hlt' : (j : Int) < (n : Int) := by omega
      obtain ⟨x, hx⟩ : ∃ x, la[j]? = some x := ⟨_, List.getElem?_eq_getElem (by rw [HN.out]; exact hlt)⟩
      obtain ⟨b1, o1, rfl, hbb1, c11, c12⟩ := RbT.get (Rd.below hf (hb.mono hB)) hx
      by_cases hlm : j < m
      · have hlm' : decide ((m : Int) ≤ (j : Int)) = false := by simp; omega
        have hlm2 : (j : Int) < (m : Int) := by omega
        obtain ⟨y, hy⟩ : ∃ y, lb[j]? = some y := ⟨_, List.getElem?_eq_getElem (by rw [HM.out]; exact hlm)⟩
        obtain ⟨b2, o2, rfl, hbb2, c21, c22⟩ := RbT.get (Rd.below hg (hb.mono hB)) hy
        have hst := cmpTL_step hx hy
        rw [HD.out] at hst
        obtain ⟨cv, hcv⟩ : ∃ cv, cmpTg x y = cv := ⟨_, rfl⟩
        have hct := fun W => spCmpTagsG x y W
        rw [hcv] at hst hct
        have HST := Lib.hid hst
        have HCT := Lib.hid hct
        have d21 : (wr.alloc (.cells #[.string x.key, .string x.val] 42)).cell? ⟨b2, o2 + j * 2, none⟩ = some (.string y.key) := (World.cell?_alloc_lt wr _ ⟨b2, o2 + j * 2, none⟩ (by show b2 < _; omega)).trans c21
        have d22 : (wr.alloc (.cells #[.string x.key, .string x.val] 42)).cell? ⟨b2, o2 + j * 2 + 1, none⟩ = some (.string y.val) := (World.cell?_alloc_lt wr _ ⟨b2, o2 + j * 2 + 1, none⟩ (by show b2 < _; omega)).trans c22
        have hb2 := (hG.alloc (.cells #[.string x.key, .string x.val] 42)).alloc (.cells #[.string y.key, .string y.val] 42)
        have HB2 := Lib.hid hb2
        clear hst hct hcv hb2 hx hy hbb1 hbb2
        by_cases h0 : cv = 0
        · subst h0
          have hd := HST.out
          rw [if_neg (by simp)] at hd
          have HD2 := Lib.hid hd
          clear hd
          go_wp2_with (go_at_call 65; refine (HCT.out _).mono ?_; rintro en w' ⟨rfl, hb3⟩)
          go_roundw
          case rel => exact ⟨j + 1, by omega, by omega, by go_num, HD2.out.symm, HB2.out.trans hb3⟩
          case measure => simp [intOf]; omega
        · have hxb : (cv != 0) = true := by simp [h0]
          have hd := HST.out
          rw [if_pos h0] at hd
          have HD2 := Lib.hid hd
          clear hd
          go_wp2_with (go_at_call 65; refine (HCT.out _).mono ?_; rintro en w' ⟨rfl, hb3⟩)
          go_ret
          exact ⟨by rw [HD2.out]; rfl, HB2.out.trans hb3⟩
      · have hlm' : (m : Int) ≤ (j : Int) := by omega
        have hq1 : q = 1 := by
          have h1 := (List.getElem?_eq_some_iff.1 hx).1
          rw [← HD.out, show lb.drop j = [] from List.drop_eq_nil_of_le (by rw [HM.out]; omega), List.drop_eq_getElem_cons h1, cmpTL]
        have HQ1 := Lib.hid hq1
        clear hq1 hx
        go_wp2
        go_ret
        exact ⟨by rw [HQ1.out]; rfl, hG.alloc _⟩
    · have hlt' : decide ((j : Int) < (n : Int)) = false := by simp; omega
      obtain rfl : j = n := by omega
      have e1 : la.drop j = [] := List.drop_eq_nil_of_le (by rw [HN.out]; omega)
      have hd := HD.out
      rw [e1] at hd
      by_cases hlm : j < m
      · have hlm2 : (j : Int) < (m : Int) := by omega
        have hq1 : q = -1 := by
          have h1 : j < lb.length := by rw [HM.out]; exact hlm
          rw [← hd, List.drop_eq_getElem_cons h1, cmpTL]
        have HQ1 := Lib.hid hq1
        clear hq1 hd e1
        go_wp2
        go_ret
        exact ⟨by rw [HQ1.out]; rfl, hG⟩
      · have hlm2 : decide ((j : Int) < (m : Int)) = false := by simp; omega
        have hq1 : q = 0 := by
          rw [← hd, List.drop_eq_nil_of_le (by rw [HM.out]; omega), cmpTL]
        have HQ1 := Lib.hid hq1
        clear hq1 hd e1
        go_wp2
        go_ret
        exact ⟨by rw [HQ1.out]; rfl, hG⟩
set_option maxRecDepth 100000 in
set_option maxHeartbeats 8000000 in
theorem spCompareG {A1 A2 : Option Addr} {c1 c2 n m B : Nat} (a b : Sp) (w : World) (hf : RbT w B A1 a.tags) (hg : RbT w B A2 b.tags) (hn : a.tags.length = n) (hm : b.tags.length = m) (hB : B ≤ w.heap.size) (hnl : n ≤ 9223372036854775807) (hml : m ≤ 9223372036854775807) :
    Calls Try.prog 22 #[spV a A1 n c1, spV b A2 m c2] w fun e w' => e = .returned (.int .i64 (spCmp a b)) ∧ Gr w w' := by
  have hb0 : Below w.heap.size w ((w.alloc (.cells (spC a A1 n c1) 27)).alloc (.cells (spC b A2 m c2) 27)) := ((Below.refl _ w).alloc (Nat.le_refl _) _).alloc (by simp) _
  have hff := Rd.below hf (hb0.mono hB)
  have hgg := Rd.below hg (hb0.mono hB)
  have bk1 := (Bk.new w 27 (spC a A1 n c1)).alloc (.cells (spC b A2 m c2) 27)
  have bk2 := Bk.new (w.alloc (.cells (spC a A1 n c1) 27)) 27 (spC b A2 m c2)
  rw [World.size_alloc] at bk2
  have hs1 : ((w.alloc (.cells (spC a A1 n c1) 27)).alloc (.cells (spC b A2 m c2) 27)).heap.size = w.heap.size + 2 := by simp
  obtain ⟨W, hW⟩ : ∃ W, (w.alloc (.cells (spC a A1 n c1) 27)).alloc (.cells (spC b A2 m c2) 27) = W := ⟨_, rfl⟩
  rw [hW] at hb0 hff hgg bk1 bk2 hs1
  have HW := Lib.hid hW
  obtain ⟨g, hgq⟩ : ∃ g, w.heap.size = g := ⟨_, rfl⟩
  rw [hgq] at bk1 bk2
  have HG := Lib.hid hgq
  have bd1 := bk1.drew
  have bd2 := bk2.drew
  have fd := Rd.drew hff
  have gd := Rd.drew hgg
  have hbd : Below w.heap.size w W.drew := below_drewN hb0 1
  have hBW : B ≤ W.drew.heap.size := by show B ≤ W.heap.size; omega
  obtain ⟨fa, hfa⟩ : ∃ fa : Int, (if a.fails = true then 1 else 0) = fa := ⟨_, rfl⟩
  obtain ⟨fb, hfb⟩ : ∃ fb : Int, (if b.fails = true then 1 else 0) = fb := ⟨_, rfl⟩
  have hT1 := fun W => spTruth W a.fails
  rw [hfa] at hT1
  have hT2 := fun W => spTruth W b.fails
  rw [hfb] at hT2
  have hres : spCmp a b = orL [cmpTr a.hi a.lo b.hi b.lo, cmpI a.id b.id, cmpI a.parent b.parent, cmpI a.start b.start, cmpI a.length b.length, cmpS a.service b.service, cmpS a.name b.name, cmpI a.kind b.kind, cmpI fa fb, cmpTL a.tags b.tags] := by rw [spCmp, hfa, hfb]
  rw [hres]
  clear hres hfa hfb
  have HDR : Hid (∀ {w' : World}, W.drew.drawn ≤ w'.drawn → w.drawn ≤ w'.drawn) := fun h => by
    rw [← hW] at h
    exact Nat.le_trans (Nat.le_add_right w.drawn 1) h
  have HN := Lib.hid hn
  have HM := Lib.hid hm
  clear hW hgq hf hg hn hm hb0 hff hgg bk1 bk2 hs1
  go_enter Try.func22, Try.ntmps22
  go_upto_region 1 with fail
  rw [HW.out, HG.out]
  go_region_held3 (fun w' => (w'.cell? ⟨g, 0, none⟩ = some (.int .u64 a.hi) ∧ w'.cell? ⟨g, 1, none⟩ = some (.int .u64 a.lo) ∧ w'.cell? ⟨g, 2, none⟩ = some (.int .u64 a.id) ∧ w'.cell? ⟨g, 3, none⟩ = some (.int .u64 a.parent) ∧ w'.cell? ⟨g, 4, none⟩ = some (.string a.service) ∧ w'.cell? ⟨g, 5, none⟩ = some (.string a.name) ∧ w'.cell? ⟨g, 6, none⟩ = some (.int .i64 a.kind) ∧ w'.cell? ⟨g, 7, none⟩ = some (.int .i64 a.start) ∧ w'.cell? ⟨g, 8, none⟩ = some (.int .i64 a.length) ∧ w'.cell? ⟨g, 9, none⟩ = some (.bool a.fails) ∧ w'.cell? ⟨g, 10, none⟩ = some (.slice A1 n c1)) ∧ (w'.cell? ⟨g + 1, 0, none⟩ = some (.int .u64 b.hi) ∧ w'.cell? ⟨g + 1, 1, none⟩ = some (.int .u64 b.lo) ∧ w'.cell? ⟨g + 1, 2, none⟩ = some (.int .u64 b.id) ∧ w'.cell? ⟨g + 1, 3, none⟩ = some (.int .u64 b.parent) ∧ w'.cell? ⟨g + 1, 4, none⟩ = some (.string b.service) ∧ w'.cell? ⟨g + 1, 5, none⟩ = some (.string b.name) ∧ w'.cell? ⟨g + 1, 6, none⟩ = some (.int .i64 b.kind) ∧ w'.cell? ⟨g + 1, 7, none⟩ = some (.int .i64 b.start) ∧ w'.cell? ⟨g + 1, 8, none⟩ = some (.int .i64 b.length) ∧ w'.cell? ⟨g + 1, 9, none⟩ = some (.bool b.fails) ∧ w'.cell? ⟨g + 1, 10, none⟩ = some (.slice A2 m c2)))
    (exact ⟨cells11 (by assumption), cells11 (by assumption)⟩)
    (first
      | (go_at_call 59
         refine (spCmpTracesG a.hi a.lo b.hi b.lo W.drew).mono ?_
         rintro e w5 ⟨rfl, hG5⟩
         have hb5 := hG5.b
         have be1 := bd1.below hb5 bd1.lt
         have be2 := bd2.below hb5 bd2.lt
         have fe := Rd.below fd (hb5.mono hBW)
         have ge := Rd.below gd (hb5.mono hBW)
         have hbe := hbd.trans (hb5.mono hbd.size)
         have hBe := Nat.le_trans hBW hb5.size)
      | (go_at_call 60
         refine (cmpU _ _ _).mono ?_
         rintro e w' ⟨rfl, hw⟩
         rw [hw]
         clear hw w')
      | (go_at_call 61
         refine (cmpJ _ _ _).mono ?_
         rintro e w' ⟨rfl, hw⟩
         rw [hw]
         clear hw w')
      | (go_at_call 62
         refine (cmpStr _ _ _).mono ?_
         rintro e w' ⟨rfl, hw⟩
         rw [hw]
         clear hw w')
      | (go_at_call 63
         refine (cmpN' _ _ _).mono ?_
         rintro e w' ⟨rfl, hw⟩
         rw [hw]
         clear hw w')
      | (go_at_call_of 40 (Value.bool a.fails)
         refine (hT1 _).mono ?_
         rintro e w' ⟨rfl, hw⟩
         rw [hw]
         clear hw w')
      | (go_at_call_of 40 (Value.bool b.fails)
         refine (hT2 _).mono ?_
         rintro e w' ⟨rfl, hw⟩
         rw [hw]
         clear hw w')
      | (go_at_call 64
         refine (spCmpTLG w5 fe ge HN.out HM.out hBe hnl hml).mono ?_
         rintro e w6 ⟨rfl, hG6⟩
         have hb6 := hG6.b
         have bf1 := be1.below hb6 be1.lt
         have bf2 := be2.below hb6 be2.lt
         have hbf := hbe.trans (hb6.mono hbe.size)
         have hor := cmpOr (l := [cmpTr a.hi a.lo b.hi b.lo, cmpI a.id b.id, cmpI a.parent b.parent, cmpI a.start b.start, cmpI a.length b.length, cmpS a.service b.service, cmpS a.name b.name, cmpI a.kind b.kind, cmpI fa fb, cmpTL a.tags b.tags]) (n := 10) _ rfl (by decide) (Bk.new w6 3 _)
         have hbz := hbf.alloc hbf.size (.cells #[.int .i64 (cmpTr a.hi a.lo b.hi b.lo), .int .i64 (cmpI a.id b.id), .int .i64 (cmpI a.parent b.parent), .int .i64 (cmpI a.start b.start), .int .i64 (cmpI a.length b.length), .int .i64 (cmpS a.service b.service), .int .i64 (cmpS a.name b.name), .int .i64 (cmpI a.kind b.kind), .int .i64 (cmpI fa fb), .int .i64 (cmpTL a.tags b.tags)] 3)
         have bg1 := bf1.alloc (.cells #[.int .i64 (cmpTr a.hi a.lo b.hi b.lo), .int .i64 (cmpI a.id b.id), .int .i64 (cmpI a.parent b.parent), .int .i64 (cmpI a.start b.start), .int .i64 (cmpI a.length b.length), .int .i64 (cmpS a.service b.service), .int .i64 (cmpS a.name b.name), .int .i64 (cmpI a.kind b.kind), .int .i64 (cmpI fa fb), .int .i64 (cmpTL a.tags b.tags)] 3)
         have bg2 := bf2.alloc (.cells #[.int .i64 (cmpTr a.hi a.lo b.hi b.lo), .int .i64 (cmpI a.id b.id), .int .i64 (cmpI a.parent b.parent), .int .i64 (cmpI a.start b.start), .int .i64 (cmpI a.length b.length), .int .i64 (cmpS a.service b.service), .int .i64 (cmpS a.name b.name), .int .i64 (cmpI a.kind b.kind), .int .i64 (cmpI fa fb), .int .i64 (cmpTL a.tags b.tags)] 3))
      | (go_at_call 58
         refine hor.mono ?_
         rintro e w' ⟨rfl, hw⟩
         rw [hw]
         clear hw w')
      | fail)
  all_goals
    go_wp2
    go_ret
    exact ⟨rfl, ⟨hbz, HDR.out (by have := hG5.d; have := hG6.d; exact Nat.le_trans hG5.d hG6.d)⟩⟩
end Go.Proofs.Ytohnpogoldbplaa
