/- Texts of the proof of DepsNamesSaid, joined: AdP RaU RaA AeP SpC SpK SrA SrB. -/
import Derived.Laws.Rows
import Derived.Laws.Tables
import Derived.Test.YthaiplhjekkooaaJDepsNames1
import Derived.Test.YthaiplhjekkooaaJDepsNames2
import Derived.Test.YthaiplhjekkooaaJDepsNames3
import Derived.Deep.Cut
/- Adjusted spans: what they are, as they lie. -/
namespace Go.Proofs.Ythaiplhjekkooaa
open Go.RowKit

structure Ad where
  s : Sp
  up : Nat
  shift : Int
  flag : Int
abbrev adC (a : Ad) (A : Option Addr) (n c : Nat) : Array Value := #[.int .u64 a.s.hi, .int .u64 a.s.lo, .int .u64 a.s.id, .int .u64 a.s.parent, .string a.s.service, .string a.s.name, .int .i64 a.s.kind, .int .i64 a.s.start, .int .i64 a.s.length, .bool a.s.fails, .slice A n c, .int .u64 a.up, .int .i64 a.shift, .int .i64 a.flag]
abbrev adV (a : Ad) (A : Option Addr) (n c : Nat) : Value := .agg (adC a A n c)
def adChk (a : Ad) : Nat := if spChk a.s ≠ 0 then spChk a.s else if a.flag < 0 ∨ 2 < a.flag then 2 else 0
def Ad.Ok (a : Ad) : Prop := a.s.U64 ∧ a.up < 18446744073709551616 ∧ -9223372036854775808 ≤ a.shift ∧ a.shift ≤ 9223372036854775807
theorem run_loadVar_cellsK {P : Program} (w : World) (ty : TypeId) (d : TypeDesc) (a : Addr) (xs : List Value) (hu : P.underlying ty = some d) (hd : (match d with | .struct _ | .array _ _ => true | _ => false) = true) (hi : (P.info? ty).map (·.size) = some xs.length)
    (hc : ∀ j v, xs[j]? = some v → w.cell? (a.add j) = some v) : (loadVar ty a).run P w = .ok (.agg xs.toArray) w := by
  have hl := run_loadCells_list (P := P) w a xs hc
  cases hq : P.info? ty with
  | none => simp [hq] at hi
  | some i =>
    have hs : i.size = xs.length := by simpa [hq] using hi
    have hagg : (isAgg ty).run P w = .ok true w := by
      unfold isAgg
      rw [Sem.run_bind, run_underlying hu w]
      cases d <;> simp_all
    simp [loadVar, Sem.run_bind, hagg, sizeOf, typeInfo, hq, hs, hl]
set_option maxRecDepth 100000 in
theorem loadK_adSp {w : World} {g n c : Nat} {a : Ad} {A : Option Addr} (h : Bk w g 45 (adC a A n c)) : (loadK 43 ⟨g, 0, none⟩).run Try.prog w = .ok (spV a.s A n c) w :=
  run_loadVar_cellsK w _ _ ⟨g, 0, none⟩ (spC a.s A n c).toList Try.underlying43 rfl (by rfl) (fun j v hv => by
    have hj : j < 11 := (List.getElem?_eq_some_iff.1 hv).1
    rw [Addr.add_lit, Nat.zero_add, h.cell j, ← hv]
    have h14 : ∀ j, j < 11 → (adC a A n c)[j]? = (spC a.s A n c).toList[j]? := by
      intro j hj
      have : j = 0 ∨ j = 1 ∨ j = 2 ∨ j = 3 ∨ j = 4 ∨ j = 5 ∨ j = 6 ∨ j = 7 ∨ j = 8 ∨ j = 9 ∨ j = 10 := by omega
      rcases this with rfl | rfl | rfl | rfl | rfl | rfl | rfl | rfl | rfl | rfl | rfl <;> rfl
    exact h14 j hj)
abbrev zadC : Array Value := #[.int .u64 0, .int .u64 0, .int .u64 0, .int .u64 0, .string ⟨#[]⟩, .string ⟨#[]⟩, .int .i64 0, .int .i64 0, .int .i64 0, .bool false, .slice none 0 0, .int .u64 0, .int .i64 0, .int .i64 0]
theorem adC_one (a : Ad) (A : Option Addr) (n c : Nat) : (adC a A n c).all (·.oneCell') = true := by simp [Value.oneCell']
set_option maxRecDepth 100000 in
theorem loadK_ad {w : World} {g n c : Nat} {a : Ad} {A : Option Addr} (h : Bk w g 45 (adC a A n c)) : (loadK 45 ⟨g, 0, none⟩).run Try.prog w = .ok (adV a A n c) w :=
  run_loadVar_row w g _ _ (adC a A n c) (0, 0) _ h Try.underlying45 rfl (by rfl)
set_option maxRecDepth 100000 in
theorem loadK_spK {w : World} {g n c : Nat} {s : Sp} {A : Option Addr} (h : Bk w g 43 (spC s A n c)) : (loadK 43 ⟨g, 0, none⟩).run Try.prog w = .ok (spV s A n c) w :=
  run_loadVar_row w g _ _ (spC s A n c) (0, 0) _ h Try.underlying43 rfl (by rfl)
end Go.Proofs.Ythaiplhjekkooaa

/- The document's layer 21, plain: what Unique, place, cycle answer. -/
namespace Go.Proofs.Ythaiplhjekkooaa
open Go.RowKit

/-- Is y ahead of x, the i-th, and of its ID? -/
def ahd (x y : Sp) (k i : Nat) : Bool := decide (y.id = x.id) && (decide (spCmp y x < 0) || (decide (spCmp y x = 0) && decide (k < i)))
/-- Is none of the first n ahead of x, the i-th? -/
def fstTo (l : List Sp) (x : Sp) (i n : Nat) : Bool := (List.range n).all fun k => match l[k]? with | some y => !ahd x y k i | none => true
/-- Where an ID is put: looked for from k on down. -/
def insK (id : Nat) (out : List Sp) : Nat → Nat
  | 0 => 0
  | k + 1 => match out[k]? with
    | some y => if id < y.id then insK id out k else k + 1
    | none => k + 1
def insAt (x : Sp) (out : List Sp) : List Sp := out.take (insK x.id out out.length) ++ x :: out.drop (insK x.id out out.length)
/-- What Unique has of the first i. -/
def uniqTo (l : List Sp) : Nat → List Sp
  | 0 => []
  | i + 1 => match l[i]? with
    | some x => if fstTo l x i l.length = true then insAt x (uniqTo l i) else uniqTo l i
    | none => uniqTo l i
def uniq (l : List Sp) : List Sp := uniqTo l l.length
/-- The place of an ID. -/
def plcG (id : Nat) : List Sp → Nat → Int
  | [], _ => -1
  | x :: l, i => if x.id = id then (i : Int) else plcG id l (i + 1)
def plc (l : List Sp) (id : Nat) : Int := plcG id l 0
def cycGo (l : List Sp) (i : Nat) (x : Sp) : Nat → Int → Bool
  | 0, _ => false
  | n + 1, p => if p < 0 then false else match l[p.toNat]? with
    | none => false
    | some y => if x.parent = 0 ∨ y.id < x.id then false else if p = (i : Int) then true else if y.parent = 0 then false else cycGo l i x n (plc l y.parent)
/-- Is the i-th on a cycle, and has the least ID of it? -/
def cyc (l : List Sp) (i : Nat) (x : Sp) : Bool := cycGo l i x (l.length + 1) (plc l x.parent)
end Go.Proofs.Ythaiplhjekkooaa

/- The document's layer 21, plain: what Unique, Up, Adjust answer. -/
namespace Go.Proofs.Ythaiplhjekkooaa
open Go.RowKit

def upOf (u : List Sp) (i : Nat) (x : Sp) : Ad :=
  if x.parent = 0 then ⟨x, 0, 0, 0⟩ else if plc u x.parent < 0 then ⟨x, 0, 0, 1⟩ else if cyc u i x = true then ⟨x, 0, 0, 2⟩ else ⟨x, x.parent, 0, 0⟩
/-- What Up has of the first i. -/
def upsTo (u : List Sp) : Nat → List Ad
  | 0 => []
  | i + 1 => match u[i]? with
    | some x => upsTo u i ++ [upOf u i x]
    | none => upsTo u i
def ups (l : List Sp) : List Ad := upsTo (uniq l) (uniq l).length
/-- How far a span is moved below another one. -/
def shiftS (c : Sp) (p : Ad) : Int :=
  if c.service = p.s.service then p.shift
  else if p.s.length < c.length then (if c.start < p.s.start then p.s.start - c.start else 0)
  else if p.s.start ≤ c.start ∧ c.start + c.length ≤ p.s.start + p.s.length then 0
  else p.s.start + (p.s.length - c.length) / 2 - c.start
/-- x moved below y. -/
def mvAd (x y : Ad) : Ad :=
  ⟨{ x.s with start := min (max 0 (x.s.start + shiftS x.s y)) (4611686018427387903 - x.s.length) }, x.up, shiftS x.s y, x.flag⟩
/-- Adjust's state: the spans, and which are done. -/
structure AjS where
  o : List Ad
  d : List Bool
def ajK (i : Nat) (st : AjS) (k : Nat) : AjS :=
  match st.o[k]?, st.o[i]?, st.d[k]? with
  | some y, some x, some true => if y.s.id = x.up then ⟨st.o.set i (mvAd x y), st.d.set i true⟩ else st
  | _, _, _ => st
def ajI (n : Nat) (st : AjS) (i : Nat) : AjS :=
  match st.o[i]?, st.d[i]? with
  | some x, some false => if x.up = 0 then ⟨st.o, st.d.set i true⟩ else (List.range n).foldl (ajK i) st
  | _, _ => st
def ajN (n : Nat) (st : AjS) (_ : Nat) : AjS := (List.range n).foldl (ajI n) st
def ajAll (o : List Ad) : AjS := (List.range o.length).foldl (ajN o.length) ⟨o, List.replicate o.length false⟩
/-- The first error of some spans. -/
def spErr : List Sp → Nat
  | [] => 0
  | x :: l => if spChk x ≠ 0 then spChk x else spErr l
/-- Are all of the first one's trace? -/
def oneTr : List Sp → Bool
  | [] => true
  | x :: l => (x :: l).all fun y => decide (y.hi = x.hi) && decide (y.lo = x.lo)
/-- What Adjust answers. -/
def adjS (l : List Sp) : List Ad × Nat :=
  if l.length = 0 then ([], 2) else if 64 < l.length then ([], 3) else if spErr l ≠ 0 then ([], spErr l) else if oneTr l = false then ([], 2) else ((ajAll (ups l)).o, 0)
end Go.Proofs.Ythaiplhjekkooaa

/- Lists of adjusted spans, as they lie. -/
namespace Go.Proofs.Ythaiplhjekkooaa
open Go.RowKit

/-- An adjusted span as it lies: itself, and its tags' slice. -/
structure AE where
  a : Ad
  A : Option Addr
  n : Nat
  c : Nat
def aeC (e : AE) : List Value := (adC e.a e.A e.n e.c).toList
theorem aeC_length (e : AE) : (aeC e).length = 14 := rfl
theorem aeC_one (e : AE) : ∀ u ∈ aeC e, u.oneCell' = true := by
  intro u hu
  have := adC_one e.a e.A e.n e.c
  rw [Array.all_eq_true'] at this
  exact this u (by simpa [aeC] using hu)
abbrev aes (l : List AE) : List Value := flatR aeC l
/-- Its tags lie where it says. -/
structure AeOk (w : World) (B : Nat) (e : AE) : Prop where
  rd : RbT w B e.A e.a.s.tags
  len : e.a.s.tags.length = e.n
  max : e.n ≤ 9223372036854775807
  ok : e.a.Ok
theorem AeOk.below {w w' : World} {B : Nat} {e : AE} (h : AeOk w B e) (hb : Below B w w') : AeOk w' B e := ⟨Rd.below h.rd hb, h.len, h.max, h.ok⟩
theorem AeOk.more {w : World} {B B' : Nat} {e : AE} (h : AeOk w B e) (hb : B ≤ B') : AeOk w B' e := ⟨Rd.more h.rd hb, h.len, h.max, h.ok⟩
/-- Adjusted spans that lie from A on, and their tags. -/
structure RbA (w : World) (B : Nat) (A : Option Addr) (l : List AE) : Prop where
  rd : Rd w B A (aes l)
  ok : ∀ e ∈ l, AeOk w B e
section
variable {w w' : World} {B B' : Nat} {A : Option Addr} {l : List AE}
theorem RbA.nil : RbA w B A [] := ⟨Rd.nil, fun _ h => by cases h⟩
theorem RbA.below (h : RbA w B A l) (hb : Below B w w') : RbA w' B A l := ⟨Rd.below h.rd hb, fun e he => (h.ok e he).below hb⟩
theorem RbA.more (h : RbA w B A l) (hB : B ≤ B') : RbA w B' A l := ⟨Rd.more h.rd hB, fun e he => (h.ok e he).more hB⟩
theorem RbA.bS (h : RbA w w.heap.size A l) (hb : Below w.heap.size w w') : RbA w' w'.heap.size A l := (h.below hb).more hb.size
theorem RbA.get (h : RbA w B A l) {i : Nat} {e : AE} (hi : l[i]? = some e) :
    ∃ b o, A = some ⟨b, o, none⟩ ∧ b < B ∧ (∀ j, j < 14 → w.cell? ⟨b, o + (i * 14 + j), none⟩ = (aeC e)[j]?) ∧ AeOk w B e := by
  obtain ⟨b, o, hA, hb, hc⟩ := flatR_at aeC_length (by omega) h.rd hi
  exact ⟨b, o, hA, hb, hc, h.ok e (List.mem_of_getElem? hi)⟩
end
set_option maxRecDepth 100000 in
theorem loadK_ae {w : World} {b o i : Nat} {e : AE} (h : ∀ j, j < 14 → w.cell? ⟨b, o + (i * 14 + j), none⟩ = (aeC e)[j]?) : (loadK 45 ⟨b, o + i * 14, none⟩).run Try.prog w = .ok (adV e.a e.A e.n e.c) w :=
  run_loadVar_cellsK w _ _ ⟨b, o + i * 14, none⟩ (aeC e) Try.underlying45 rfl (by rfl) (fun j v hv => by
    have hj : j < 14 := by have := (List.getElem?_eq_some_iff.1 hv).1; rwa [aeC_length] at this
    rw [Addr.add_lit, Nat.add_assoc, h j hj, hv])

/-- From when to when adjusted spans are. -/
def bndStep (b : Int × Int) (e : AE) : Int × Int := (min b.1 e.a.s.start, max b.2 (e.a.s.start + e.a.s.length))
def bnds : List AE → Int × Int
  | [] => (0, 0)
  | e :: l => (e :: l).foldl bndStep (e.a.s.start, e.a.s.start + e.a.s.length)
end Go.Proofs.Ythaiplhjekkooaa

/- Spans: long, Check. -/
namespace Go.Proofs.Ythaiplhjekkooaa
open Go.RowKit

/-- The first that p tells, or -1. -/
def idxT (p : Tg → Bool) (l : List Tg) : Int := match l.findIdx? p with | some i => (i : Int) | none => -1
theorem idxT_hit {p : Tg → Bool} {l : List Tg} {j : Nat} {x : Tg} (h : (l.take j).any p = false) (hx : l[j]? = some x) (hp : p x = true) : idxT p l = j := by
  have hj := (List.getElem?_eq_some_iff.1 hx).1
  have : l.findIdx? p = some j := by
    rw [List.findIdx?_eq_some_iff_getElem]
    refine ⟨hj, by rw [(List.getElem?_eq_some_iff.1 hx).2]; exact hp, fun i hi => ?_⟩
    have h1 := List.any_eq_false.1 h (l[i]'(by omega)) (List.mem_of_getElem? (i := i) (by rw [List.getElem?_take, if_pos hi]; exact List.getElem?_eq_getElem _))
    simpa using h1
  rw [idxT, this]
theorem idxT_none {p : Tg → Bool} {l : List Tg} (h : l.any p = false) : idxT p l = -1 := by
  have : l.findIdx? p = none := by
    rw [List.findIdx?_eq_none_iff]
    intro x hx
    have := List.any_eq_false.1 h x hx
    simpa using this
  rw [idxT, this]
theorem idxT_any (p : Tg → Bool) (l : List Tg) : decide (0 ≤ idxT p l) = l.any p := by
  by_cases h : l.any p = true
  · rw [h, decide_eq_true_iff, idxT]
    cases hf : l.findIdx? p with
    | none =>
      rw [List.findIdx?_eq_none_iff] at hf
      obtain ⟨x, hx, hp⟩ := List.any_eq_true.1 h
      rw [hf x hx] at hp
      cases hp
    | some i => simp only; omega
  · have h : l.any p = false := by simpa using h
    rw [h, idxT_none h]
    rfl

set_option maxHeartbeats 400000 in
theorem spIndexLong {A : Option Addr} {c n B : Nat} {l : List Tg} (w : World) (hf : RbT w B A l) (hn : l.length = n) (hB : B ≤ w.heap.size) (hnl : n ≤ 9223372036854775807) :
    Calls Try.prog 73 #[.slice A n c, .func (.func 64) #[] #[]] w fun e w' => e = .returned (.int .i64 (idxT tgLong l)) ∧ Below w.heap.size w w' := by
  have HN := Lib.hid hn
  obtain ⟨q, hq⟩ : ∃ q, idxT tgLong l = q := ⟨_, rfl⟩
  rw [hq]
  have HQ := Lib.hid hq
  clear hn hq
  go_enter Try.func73, Try.ntmps73
  go_wp2
  go_loopw [8] (fun iv_ wr => ∃ j : Nat, j ≤ n ∧ iv_ = .int .i64 j ∧ (l.take j).any tgLong = false ∧ Below w.heap.size w wr) (fun i _ => n - (intOf i).toNat)
  case atStart => exact ⟨0, by omega, rfl, rfl, Below.refl _ _⟩
  case round =>
    obtain ⟨j, hj, rfl, hall, hb⟩ := hrel
    have HA := Lib.hid hall
    clear hall
    by_cases hlt : j < n
    · have hlt' : (j : Int) < (n : Int) := by omega
      obtain ⟨x, hx⟩ : ∃ x, l[j]? = some x := ⟨_, List.getElem?_eq_getElem (by rw [HN.out]; exact hlt)⟩
      obtain ⟨b, o, rfl, hbb, h1, h2⟩ := RbT.get (Rd.below hf (hb.mono hB)) hx
      have HX := Lib.hid hx
      clear hx
      go_wp2_with (go_at_call 64; refine (spLong1 _ x).mono ?_; rintro e w' ⟨rfl, hb'⟩)
      · have hb2 := hb.trans (hb'.mono hb.size)
        rename_i hpx
        go_ret
        have hqt : q = (j : Int) := by
          rw [← HQ.out]
          exact idxT_hit HA.out HX.out (by first | exact hpx | simpa using hpx)
        exact ⟨by rw [hqt]; rfl, hb2⟩
      · have hb2 := hb.trans (hb'.mono hb.size)
        rename_i hpx
        go_roundw
        case rel => exact ⟨j + 1, by omega, by go_num, by rw [take_snoc HX.out, List.any_append, HA.out]; simpa using hpx, hb2⟩
        case measure => simp [intOf]; omega
    · have hlt' : decide ((j : Int) < (n : Int)) = false := by simp; omega
      go_wp2
      go_ret
      have : q = -1 := by
        rw [← HQ.out]
        have h1 := HA.out
        rw [List.take_of_length_le (by rw [HN.out]; omega)] at h1
        exact idxT_none h1
      exact ⟨by rw [this]; rfl, hb⟩

theorem spHasLong {A : Option Addr} {c n B : Nat} {l : List Tg} (w : World) (hf : RbT w B A l) (hn : l.length = n) (hB : B ≤ w.heap.size) (hnl : n ≤ 9223372036854775807) :
    Calls Try.prog 63 #[.slice A n c, .func (.func 64) #[] #[]] w fun e w' => e = .returned (.bool (l.any tgLong)) ∧ Below w.heap.size w w' := by
  have hc := spIndexLong (c := c) w hf hn hB hnl
  have ha := idxT_any tgLong l
  obtain ⟨q, hq⟩ : ∃ q, idxT tgLong l = q := ⟨_, rfl⟩
  rw [hq] at hc ha
  rw [← ha]
  have HC := Lib.hid hc
  clear hc hq ha
  go_enter Try.func63, Try.ntmps63
  go_wp2_with (go_at_call 73; refine HC.out.mono ?_; rintro e w' ⟨rfl, hb'⟩)
  go_ret
  exact ⟨rfl, hb'⟩

set_option maxHeartbeats 400000 in
theorem spLong {A : Option Addr} {c n B : Nat} (s : Sp) (w : World) (hf : RbT w B A s.tags) (hn : s.tags.length = n) (hB : B ≤ w.heap.size) (hnl : n ≤ 9223372036854775807) :
    Calls Try.prog 50 #[spV s A n c] w fun e w' => e = .returned (.bool (longB s)) ∧ Below w.heap.size w w' := by
  obtain ⟨q, hq⟩ : ∃ q, longB s = q := ⟨_, rfl⟩
  rw [hq]
  unfold longB at hq
  rw [hn] at hq
  have HQ := Lib.hid hq
  have hb0 : Below w.heap.size w (w.alloc (.cells (spC s A n c) 43)) := (Below.refl _ w).alloc (Nat.le_refl _) _
  have hf1 := Rd.alloc hf hB (.cells (spC s A n c) 43)
  clear hq
  by_cases h1 : 128 < s.service.size
  · have d1 : (128 : Int) < (s.service.size : Int) := by omega
    go_enter Try.func50, Try.ntmps50
    go_wp2
    go_ret
    have : q = true := by rw [← HQ.out]; simp [h1]
    exact ⟨by rw [this]; rfl, hb0⟩
  have d1 : decide ((128 : Int) < (s.service.size : Int)) = false := by simp; omega
  by_cases h2 : 128 < s.name.size
  · have d2 : (128 : Int) < (s.name.size : Int) := by omega
    go_enter Try.func50, Try.ntmps50
    go_wp2
    go_ret
    have : q = true := by rw [← HQ.out]; simp [h2]
    exact ⟨by rw [this]; rfl, hb0⟩
  have d2 : decide ((128 : Int) < (s.name.size : Int)) = false := by simp; omega
  by_cases h3 : 16 < n
  · have d3 : (16 : Int) < (n : Int) := by omega
    go_enter Try.func50, Try.ntmps50
    go_wp2
    go_ret
    have : q = true := by rw [← HQ.out]; simp [h3]
    exact ⟨by rw [this]; rfl, hb0⟩
  have d3 : decide ((16 : Int) < (n : Int)) = false := by simp; omega
  have hc := spHasLong (c := c) _ hf1 hn (by simp; omega) hnl
  obtain ⟨a, ha⟩ : ∃ a, s.tags.any tgLong = a := ⟨_, rfl⟩
  rw [ha] at hc
  have hqa : q = a := by rw [← HQ.out, ha]; simp [h1, h2, h3]
  have HC := Lib.hid hc
  clear hc ha
  go_enter Try.func50, Try.ntmps50
  go_wp2_with (go_at_call 63; refine HC.out.mono ?_; rintro e w' ⟨rfl, hb'⟩)
  go_ret
  exact ⟨by rw [hqa]; rfl, hb0.trans (hb'.mono (by simp))⟩
end Go.Proofs.Ythaiplhjekkooaa

/- Spans: Check. -/
namespace Go.Proofs.Ythaiplhjekkooaa
open Go.RowKit

theorem tagOk_at {l : List Tg} {i : Nat} {t : Tg} (h : l[i]? = some t) : tagOk l i = (nameB t.key && txtB t.val && (decide (i = 0) || match l[i - 1]? with | none => true | some u => strLt u.key t.key)) := by
  simp only [tagOk, h]
  rfl
set_option maxRecDepth 100000 in
set_option maxHeartbeats 2000000 in
/-- Check of a span that is not too long and whose head is right. -/
theorem spCheck1 {A : Option Addr} {c n B : Nat} (s : Sp) (w : World) (hf : RbT w B A s.tags) (hn : s.tags.length = n) (hB : B ≤ w.heap.size) (hnl : n ≤ 9223372036854775807) (hlong : longB s = false) (hhead : headB s = true) :
    Calls Try.prog 34 #[spV s A n c] w fun e w' => e = .returned (.int .i64 (if tagsOk s.tags n = true then 0 else 2 : Nat)) ∧ Below w.heap.size w w' := by
  have hb0 : Below w.heap.size w (w.alloc (.cells (spC s A n c) 43)) := (Below.refl _ w).alloc (Nat.le_refl _) _
  have hf1 := Rd.alloc hf hB (.cells (spC s A n c) 43)
  have bk := Bk.new w 43 (spC s A n c)
  have hs1 : (w.alloc (.cells (spC s A n c) 43)).heap.size = w.heap.size + 1 := by simp
  obtain ⟨w1, hw1⟩ : ∃ w1, w.alloc (.cells (spC s A n c) 43) = w1 := ⟨_, rfl⟩
  rw [hw1] at hb0 hf1 bk hs1
  have HW := Lib.hid hw1
  have hc := spLong (c := c) s w1 hf1 hn (by omega) hnl
  rw [hlong] at hc
  have HC := Lib.hid hc
  obtain ⟨q, hq⟩ : ∃ q, tagsOk s.tags n = q := ⟨_, rfl⟩
  rw [hq]
  have HQ := Lib.hid hq
  have HN := Lib.hid hn
  clear hw1 hc hq hn hlong
  simp only [headB, Bool.and_eq_true, Bool.or_eq_true, decide_eq_true_eq, ne_eq] at hhead
  obtain ⟨⟨⟨⟨⟨⟨⟨⟨⟨h0, h1⟩, h2⟩, h3⟩, h4⟩, h5⟩, h6⟩, h7⟩, h8⟩, h9⟩ := hhead
  have N2 := Lib.hid h2
  have N3 := Lib.hid h3
  have d1 : ((s.id : Int) != 0) = true := by rw [bne_iff_ne]; omega
  go_enter Try.func34, Try.ntmps34
  go_wp2_with fail
  rw [HW.out]
  refine HC.out.mono ?_
  rintro e w2 ⟨rfl, hb2⟩
  have hs2 := hb2.size
  have hb02 := hb0.trans (hb2.mono (by omega))
  have hf2 := (Rd.below hf1 (hb2.mono (by omega))).more (show B ≤ w2.heap.size by omega)
  have bk2 := bk.below hb2 (by omega)
  obtain ⟨g, hg⟩ : ∃ g, w.heap.size = g := ⟨_, rfl⟩
  rw [hg] at bk2 ⊢
  have k0 : w2.cell? ⟨g, 0, none⟩ = some (.int .u64 s.hi) := bk2.cell 0
  have k1 : w2.cell? ⟨g, 1, none⟩ = some (.int .u64 s.lo) := bk2.cell 1
  have k2 : w2.cell? ⟨g, 2, none⟩ = some (.int .u64 s.id) := bk2.cell 2
  have k4 : w2.cell? ⟨g, 4, none⟩ = some (.string s.service) := bk2.cell 4
  have k5 : w2.cell? ⟨g, 5, none⟩ = some (.string s.name) := bk2.cell 5
  have k6 : w2.cell? ⟨g, 6, none⟩ = some (.int .i64 s.kind) := bk2.cell 6
  have k7 : w2.cell? ⟨g, 7, none⟩ = some (.int .i64 s.start) := bk2.cell 7
  have k8 : w2.cell? ⟨g, 8, none⟩ = some (.int .i64 s.length) := bk2.cell 8
  have k10 : w2.cell? ⟨g, 10, none⟩ = some (.slice A n c) := bk2.cell 10
  clear bk hf1 hb0 HW
  have HHS := Lib.hid hs2
  have HH1 := Lib.hid hs1
  have HHB := Lib.hid hB
  have HHG := Lib.hid hg
  have HB02 := Lib.hid hb02
  have HF2 := Lib.hid hf2
  have HBK := Lib.hid bk2
  clear hs2 hs1 hB hg hb02 hf2 bk2 hf hb2 h2 h3
  have h6' : decide (s.kind ≤ 5) = true := by simpa using h5
  go_wp2_with (first
    | (go_at_call 51; refine (spName _ _).mono ?_; rintro e w' ⟨rfl, hw⟩; rw [hw]; clear hw w'; first | rw [N2.out] | rw [N3.out]))
  all_goals
    go_loopw [3, 63] (fun fv iv_ wr => ∃ j : Nat, j ≤ n ∧ iv_ = .int .i64 j ∧ fv = .bool (tagsOk s.tags j) ∧ Below w2.heap.size w2 wr) (fun _ i _ => n - (intOf i).toNat)
    case atStart => exact ⟨0, by omega, rfl, rfl, Below.refl _ _⟩
    case round =>
      obtain ⟨j, hj, rfl, rfl, hb⟩ := hrel
      obtain ⟨f, hf⟩ : ∃ f, tagsOk s.tags j = f := ⟨_, rfl⟩
      rw [hf]
      have HF := Lib.hid hf
      clear hf
      have hgl : g < w2.heap.size := by have := HHG.out; have := HHS.out; have := HH1.out; omega
      by_cases hlt : j < n
      · have hlt' : (j : Int) < (n : Int) := by omega
        obtain ⟨x, hx⟩ : ∃ x, s.tags[j]? = some x := ⟨_, List.getElem?_eq_getElem (by rw [HN.out]; exact hlt)⟩
        have hRb : Rd wr w2.heap.size A (tgs s.tags) := (Rd.more HF2.out (Nat.le_refl _)).below hb
        obtain ⟨b, o, rfl, hbb, c1, c2⟩ := RbT.get hRb hx
        have k10' : wr.cell? ⟨g, 10, none⟩ = some (.slice (some ⟨b, o, none⟩) n c) := (hb.cell (p := ⟨g, 10, none⟩) hgl).trans k10
        have HX := Lib.hid hx
        clear hx
        go_wp2_with fail
        have hsr := hb.size
        have m0 : (wr.alloc (.cells #[.string x.key, .string x.val] 90)).cell? ⟨wr.heap.size, 0, none⟩ = some (.string x.key) := (Bk.new wr 90 #[.string x.key, .string x.val]).cell 0
        have m1 : (wr.alloc (.cells #[.string x.key, .string x.val] 90)).cell? ⟨wr.heap.size, 1, none⟩ = some (.string x.val) := (Bk.new wr 90 #[.string x.key, .string x.val]).cell 1
        have k10W := (World.cell?_alloc_lt wr (.cells #[.string x.key, .string x.val] 90) ⟨g, 10, none⟩ (by simp only; omega)).trans k10'
        have hRW := Rd.alloc hRb hsr (.cells #[.string x.key, .string x.val] 90)
        have hbW := hb.alloc hsr (.cells #[.string x.key, .string x.val] 90)
        obtain ⟨W, hW⟩ : ∃ W, wr.alloc (.cells #[.string x.key, .string x.val] 90) = W := ⟨_, rfl⟩
        rw [hW] at m0 m1 k10W hRW hbW ⊢
        obtain ⟨r, hr⟩ : ∃ r, wr.heap.size = r := ⟨_, rfl⟩
        rw [hr] at m0 m1 ⊢
        have HHRW := Lib.hid hRW
        have HBW := Lib.hid hbW
        clear hW hr hsr hRW hbW hRb hb hgl
        have hstep : tagsOk s.tags (j + 1) = (f && (nameB x.key && txtB x.val && (decide (j = 0) || match s.tags[j - 1]? with | none => true | some u => strLt u.key x.key))) := by
          rw [tagsOk_succ, HF.out, tagOk_at HX.out]
        by_cases hft : f = false
        · subst hft
          have HST : Hid (tagsOk s.tags (j + 1) = false) := by rw [hstep]; rfl
          clear hstep
          go_quiet (fail)
          go_wp2
          go_roundw
          case rel => exact ⟨j + 1, by omega, by go_num, by rw [HST.out], below_drewN HBW.out _⟩
          case measure => simp [intOf]; omega
        obtain rfl : f = true := by simpa using hft
        obtain ⟨n1, hn1⟩ : ∃ n1, nameB x.key = n1 := ⟨_, rfl⟩
        have cN : ∀ W', Calls Try.prog 51 #[.string x.key] W' fun e w' => e = .returned (.bool n1) ∧ w' = W' := by intro W'; have := spName W' x.key; rwa [hn1] at this
        rw [hn1] at hstep
        clear hn1 hft
        cases n1 with
        | false =>
          have HST : Hid (tagsOk s.tags (j + 1) = false) := by rw [hstep]; rfl
          clear hstep
          go_quiet ((go_at_call 51; go_loud (exact Calls.quiet_of_same (cN _))))
          go_wp2
          go_roundw
          case rel => exact ⟨j + 1, by omega, by go_num, by rw [HST.out], below_drewN HBW.out _⟩
          case measure => simp [intOf]; omega
        | true =>
        obtain ⟨t1, ht1⟩ : ∃ t1, txtB x.val = t1 := ⟨_, rfl⟩
        have cT : ∀ W', Calls Try.prog 41 #[.string x.val] W' fun e w' => e = .returned (.bool t1) ∧ w' = W' := by intro W'; have := spText W' x.val; rwa [ht1] at this
        rw [ht1] at hstep
        clear ht1
        cases t1 with
        | false =>
          have HST : Hid (tagsOk s.tags (j + 1) = false) := by rw [hstep]; rfl
          clear hstep
          go_quiet (first
            | (go_at_call 51; go_loud (exact Calls.quiet_of_same (cN _)))
            | (go_at_call 41; go_loud (exact Calls.quiet_of_same (cT _))))
          go_wp2
          go_roundw
          case rel => exact ⟨j + 1, by omega, by go_num, by rw [HST.out], below_drewN HBW.out _⟩
          case measure => simp [intOf]; omega
        | true =>
        cases j with
        | zero =>
          have HST : Hid (tagsOk s.tags (0 + 1) = true) := by rw [hstep]; rfl
          clear hstep
          go_quiet (first
            | (go_at_call 51; go_loud (exact Calls.quiet_of_same (cN _)))
            | (go_at_call 41; go_loud (exact Calls.quiet_of_same (cT _))))
          go_wp2
          go_roundw
          case rel => exact ⟨0 + 1, by omega, by go_num, by rw [HST.out], below_drewN HBW.out _⟩
          case measure => simp [intOf]; omega
        | succ k =>
          obtain ⟨u, hu⟩ : ∃ u, s.tags[k]? = some u := ⟨_, List.getElem?_eq_getElem (by rw [HN.out]; omega)⟩
          obtain ⟨b', o', e', _, p1, _⟩ := RbT.get HHRW.out hu
          cases e'
          have e1 : (k : Int) + 1 - 1 = (k : Int) := by omega
          have e2 : ((k : Int) + 1 == 0) = false := by rw [beq_eq_false_iff_ne]; omega
          have hkn : (k : Int) < (n : Int) := by omega
          have hkn' : k < n := by omega
          have hst : tagsOk s.tags (k + 1 + 1) = strLt u.key x.key := by rw [hstep, show k + 1 - 1 = k from rfl, hu]; simp
          have HST := Lib.hid hst
          clear hst
          clear hstep hu c1 c2
          go_quiet (first
            | (go_at_call 51; go_loud (exact Calls.quiet_of_same (cN _)))
            | (go_at_call 41; go_loud (exact Calls.quiet_of_same (cT _))))
          go_wp2
          go_roundw
          case rel => exact ⟨k + 1 + 1, by omega, by go_num, by rw [HST.out]; rfl, below_drewN HBW.out _⟩
          case measure => simp [intOf]; omega
      · have hlt' : decide ((j : Int) < (n : Int)) = false := by simp; omega
        obtain rfl : j = n := by omega
        have hqf : f = q := by rw [← HF.out, HQ.out]
        subst hqf
        cases f
        · go_wp2
          go_ret
          exact ⟨rfl, HB02.out.trans (hb.mono (by have := HHS.out; have := HH1.out; omega))⟩
        · go_wp2
          go_ret
          exact ⟨rfl, HB02.out.trans (hb.mono (by have := HHS.out; have := HH1.out; omega))⟩
end Go.Proofs.Ythaiplhjekkooaa

/- Spans, the document's answer: plain, Text, Check. -/
namespace Go.Proofs.Ythaiplhjekkooaa
open Go.RowKit

set_option maxHeartbeats 400000 in
theorem rPlain (w : World) (s : ByteArray) (hm : s.size ≤ 1000000) :
    Calls Try.prog 53 #[.string s] w fun e w' => e = .returned (.bool (plainB s)) ∧ w' = w := by
  obtain ⟨q, hq⟩ : ∃ q, plainB s = q := ⟨_, rfl⟩
  rw [hq]
  have HQ := Lib.hid hq
  clear hq
  go_enter Try.func53, Try.ntmps53
  go_wp2
  go_loop [3] (fun iv_ => ∃ k : Nat, k ≤ s.size ∧ iv_ = .int .i64 k ∧ ((nums s).take k).all (fun x => decide (32 ≤ x) && decide (x ≤ 126)) = true) (fun i => s.size - (intOf i).toNat)
  case atStart => exact ⟨0, by omega, rfl, rfl⟩
  case round =>
    obtain ⟨k, hk, rfl, hall⟩ := hrel
    have HA := Lib.hid hall
    clear hall
    by_cases hlt : k < s.size
    · have hlt' : (k : Int) < (s.size : Int) := by omega
      obtain ⟨z, hz⟩ : ∃ z : Int, z = ((s[k]'hlt).toNat : Int) := ⟨_, rfl⟩
      have hzz : ((s[k]'hlt).toNat : Int) = z := hz.symm
      have HZ : Hid ((nums s)[k]? = some z) := by rw [hz]; exact nums_get hlt
      clear hz
      by_cases h1 : z < 32
      · go_wp2
        go_ret
        have : q = false := by
          rw [← HQ.out, plainB, List.all_eq_false]
          exact ⟨z, List.mem_of_getElem? HZ.out, by simp; omega⟩
        exact ⟨by rw [this]; rfl, rfl⟩
      have h1' : decide (z < 32) = false := by simp; omega
      by_cases h2 : 126 < z
      · go_wp2
        go_ret
        have : q = false := by
          rw [← HQ.out, plainB, List.all_eq_false]
          exact ⟨z, List.mem_of_getElem? HZ.out, by simp; omega⟩
        exact ⟨by rw [this]; rfl, rfl⟩
      have h2' : decide (126 < z) = false := by simp; omega
      go_wp2
      go_round
      case rel => exact ⟨k + 1, by omega, by go_num, by rw [take_snoc HZ.out, List.all_append, HA.out]; simp; omega⟩
      case measure => simp [intOf]; omega
    · have hlt' : decide ((k : Int) < (s.size : Int)) = false := by simp; omega
      go_wp2
      go_ret
      have : q = true := by
        rw [← HQ.out, plainB]
        have h1 := HA.out
        rwa [List.take_of_length_le (by rw [nums_len]; omega)] at h1
      exact ⟨by rw [this]; rfl, rfl⟩

theorem rTxt (w : World) (s : ByteArray) :
    Calls Try.prog 47 #[.string s] w fun e w' => e = .returned (.bool (txtB s)) ∧ w' = w := by
  by_cases h0 : s.size ≤ 128
  · have d1 : (s.size : Int) ≤ 128 := by omega
    obtain ⟨q, hq⟩ : ∃ q, plainB s = q := ⟨_, rfl⟩
    have hn : txtB s = q := by simp [txtB, h0, hq]
    have ht := rPlain w s (by omega)
    rw [hq] at ht
    rw [hn]
    have HT := Lib.hid ht
    clear ht hq hn
    go_enter Try.func47, Try.ntmps47
    go_wp2_with (go_at_call 53; refine HT.out.mono ?_; rintro e w' ⟨rfl, rfl⟩)
    go_ret
    exact ⟨rfl, rfl⟩
  · have d1 : decide ((s.size : Int) ≤ 128) = false := by simp; omega
    have hn : txtB s = false := by simp [txtB, h0]
    rw [hn]
    go_enter Try.func47, Try.ntmps47
    go_wp2
    go_ret
    exact ⟨rfl, rfl⟩

/-- The head's ways, in the order of the document's answer. -/
def HeadWays (s : Sp) : Prop :=
  (headB s = false ∧ ((s.hi = 0 ∧ s.lo = 0) ∨ ((s.hi ≠ 0 ∨ s.lo ≠ 0) ∧ (s.id = 0 ∨ s.id ≠ 0 ∧ (s.service.size = 0 ∨ 0 < s.service.size ∧ (s.name.size = 0 ∨ 0 < s.name.size ∧ (plainB s.service = false ∨ plainB s.service = true ∧ (plainB s.name = false ∨ plainB s.name = true ∧
    (s.kind < 0 ∨ 0 ≤ s.kind ∧ (5 < s.kind ∨ s.kind ≤ 5 ∧ (s.start < 0 ∨ 0 ≤ s.start ∧ (s.length < 0 ∨ 0 ≤ s.length ∧ (4611686018427387903 < s.start ∨ s.start ≤ 4611686018427387903 ∧ 4611686018427387903 - s.start < s.length))))))))))))) ∨
  (headB s = true ∧ (s.hi ≠ 0 ∨ s.lo ≠ 0) ∧ s.id ≠ 0 ∧ 0 < s.service.size ∧ 0 < s.name.size ∧ plainB s.service = true ∧ plainB s.name = true ∧ 0 ≤ s.kind ∧ s.kind ≤ 5 ∧ 0 ≤ s.start ∧ 0 ≤ s.length ∧ s.start ≤ 4611686018427387903 ∧ s.length ≤ 4611686018427387903 - s.start)
theorem headWays (s : Sp) (h1 : s.service.size ≤ 128) (h2 : s.name.size ≤ 128) : HeadWays s := by
  have e1 : nameB s.service = (decide (0 < s.service.size) && plainB s.service) := by simp [nameB, txtB, h1]
  have e2 : nameB s.name = (decide (0 < s.name.size) && plainB s.name) := by simp [nameB, txtB, h2]
  unfold HeadWays
  cases hh : headB s with
  | true =>
    rw [headB, e1, e2] at hh
    simp only [Bool.and_eq_true, Bool.or_eq_true, decide_eq_true_eq, ne_eq] at hh
    obtain ⟨⟨⟨⟨⟨⟨⟨⟨⟨a0, a1⟩, a2, a3⟩, a4, a5⟩, a6⟩, a7⟩, a8⟩, a9⟩, a10⟩, a11⟩ := hh
    exact .inr ⟨rfl, a0, a1, a2, a4, a3, a5, a6, a7, a8, a9, a10, a11⟩
  | false =>
    refine .inl ⟨rfl, ?_⟩
    by_cases a0 : s.hi = 0 ∧ s.lo = 0
    · exact .inl a0
    refine .inr ⟨by omega, ?_⟩
    by_cases a1 : s.id = 0
    · exact .inl a1
    refine .inr ⟨a1, ?_⟩
    by_cases a2 : s.service.size = 0
    · exact .inl a2
    refine .inr ⟨by omega, ?_⟩
    by_cases a3 : s.name.size = 0
    · exact .inl a3
    refine .inr ⟨by omega, ?_⟩
    cases a4 : plainB s.service with
    | false => exact .inl rfl
    | true =>
    refine .inr ⟨rfl, ?_⟩
    cases a5 : plainB s.name with
    | false => exact .inl rfl
    | true =>
    refine .inr ⟨rfl, ?_⟩
    by_cases a6 : s.kind < 0
    · exact .inl a6
    refine .inr ⟨by omega, ?_⟩
    by_cases a7 : 5 < s.kind
    · exact .inl a7
    refine .inr ⟨by omega, ?_⟩
    by_cases a8 : s.start < 0
    · exact .inl a8
    refine .inr ⟨by omega, ?_⟩
    by_cases a9 : s.length < 0
    · exact .inl a9
    refine .inr ⟨by omega, ?_⟩
    by_cases a10 : 4611686018427387903 < s.start
    · exact .inl a10
    refine .inr ⟨by omega, ?_⟩
    by_cases a11 : 4611686018427387903 - s.start < s.length
    · exact a11
    rw [headB, e1, e2] at hh
    have : (decide (s.hi ≠ 0) || decide (s.lo ≠ 0)) = true := by simp; omega
    rw [this, a4, a5] at hh
    simp at hh
    omega
theorem tagsOk_false {l : List Tg} {j n : Nat} (h : tagOk l j = false) (hj : j < n) : tagsOk l n = false := by
  rw [tagsOk, List.all_eq_false]
  exact ⟨j, List.mem_range.2 hj, by simp [h]⟩
end Go.Proofs.Ythaiplhjekkooaa

/- Spans, the document's answer: Check. -/
namespace Go.Proofs.Ythaiplhjekkooaa
open Go.RowKit

set_option maxRecDepth 100000 in
set_option maxHeartbeats 8000000 in
/-- Check. -/
theorem rSpCheck {A : Option Addr} {c n B : Nat} (s : Sp) (w : World) (hf : RbT w B A s.tags) (hn : s.tags.length = n) (hB : B ≤ w.heap.size) (hnl : n ≤ 9223372036854775807) :
    Calls Try.prog 37 #[spV s A n c] w fun e w' => e = .returned (.int .i64 (spChk s)) ∧ Below w.heap.size w w' := by
  have hb0 : Below w.heap.size w (w.alloc (.cells (spC s A n c) 43)) := (Below.refl _ w).alloc (Nat.le_refl _) _
  have hf1 := Rd.alloc hf hB (.cells (spC s A n c) 43)
  have bk := Bk.new w 43 (spC s A n c)
  obtain ⟨w1, hw1⟩ : ∃ w1, w.alloc (.cells (spC s A n c) 43) = w1 := ⟨_, rfl⟩
  rw [hw1] at hb0 hf1 bk
  have HW := Lib.hid hw1
  obtain ⟨g, hg⟩ : ∃ g, w.heap.size = g := ⟨_, rfl⟩
  rw [hg] at bk
  have HG := Lib.hid hg
  obtain ⟨q, hq⟩ : ∃ q, spChk s = q := ⟨_, rfl⟩
  rw [hq]
  have HQ := Lib.hid hq
  have HN := Lib.hid hn
  have HB0 := Lib.hid hb0
  have HF1 := Lib.hid hf1
  have k0 : w1.cell? ⟨g, 0, none⟩ = some (.int .u64 s.hi) := bk.cell 0
  have k1 : w1.cell? ⟨g, 1, none⟩ = some (.int .u64 s.lo) := bk.cell 1
  have k2 : w1.cell? ⟨g, 2, none⟩ = some (.int .u64 s.id) := bk.cell 2
  have k4 : w1.cell? ⟨g, 4, none⟩ = some (.string s.service) := bk.cell 4
  have k5 : w1.cell? ⟨g, 5, none⟩ = some (.string s.name) := bk.cell 5
  have k6 : w1.cell? ⟨g, 6, none⟩ = some (.int .i64 s.kind) := bk.cell 6
  have k7 : w1.cell? ⟨g, 7, none⟩ = some (.int .i64 s.start) := bk.cell 7
  have k8 : w1.cell? ⟨g, 8, none⟩ = some (.int .i64 s.length) := bk.cell 8
  have k10 : w1.cell? ⟨g, 10, none⟩ = some (.slice A n c) := bk.cell 10
  obtain ⟨h0, hh0⟩ : ∃ h0, (decide (128 < s.service.size) || decide (128 < s.name.size) || decide (16 < n)) = h0 := ⟨_, rfl⟩
  have hlb : longB s = (h0 || s.tags.any tgLong) := by rw [longB, hn, hh0]
  have HLB := Lib.hid hlb
  have HH0 := Lib.hid hh0
  have HKK := Lib.hid (And.intro k0 (And.intro k1 (And.intro k2 (And.intro k4 (And.intro k5 (And.intro k6 (And.intro k7 k8)))))))
  have hsplit : (128 < s.service.size ∧ h0 = true) ∨ (s.service.size ≤ 128 ∧ 128 < s.name.size ∧ h0 = true) ∨ (s.service.size ≤ 128 ∧ s.name.size ≤ 128 ∧ 16 < n ∧ h0 = true) ∨ (s.service.size ≤ 128 ∧ s.name.size ≤ 128 ∧ n ≤ 16 ∧ h0 = false) := by
    rw [← hh0]
    by_cases a1 : 128 < s.service.size
    · exact .inl ⟨a1, by simp [a1]⟩
    by_cases a2 : 128 < s.name.size
    · exact .inr (.inl ⟨by omega, a2, by simp [a2]⟩)
    by_cases a3 : 16 < n
    · exact .inr (.inr (.inl ⟨by omega, by omega, a3, by simp [a3]⟩))
    · exact .inr (.inr (.inr ⟨by omega, by omega, by omega, by simp; omega⟩))
  clear hw1 hg hq hn hb0 hf1 hf bk hh0 hlb k0 k1 k2 k6 k7 k8
  rcases hsplit with ⟨a1, a0⟩ | ⟨a1, a2, a0⟩ | ⟨a1, a2, a3, a0⟩ | ⟨a1, a2, a3, a0⟩
  case inr.inr.inr =>
    subst a0
    have b1 : decide ((128 : Int) < (s.service.size : Int)) = false := by simp; omega
    have b2 : decide ((128 : Int) < (s.name.size : Int)) = false := by simp; omega
    have b3 : decide ((16 : Int) < (n : Int)) = false := by simp; omega
    go_enter Try.func37, Try.ntmps37
    go_upto_region 1 with fail
    rw [HW.out, HG.out]
    go_wp2
    go_loop [3, 4] (fun lv_ iv_ => ∃ j : Nat, j ≤ n ∧ iv_ = .int .i64 j ∧ lv_ = .bool ((s.tags.take j).any tgLong)) (fun _ i => n - (intOf i).toNat)
    case atStart => exact ⟨0, by omega, rfl, rfl⟩
    case round =>
      obtain ⟨j, hj, rfl, rfl⟩ := hrel
      obtain ⟨f, hf⟩ : ∃ f, (s.tags.take j).any tgLong = f := ⟨_, rfl⟩
      rw [hf]
      have HF := Lib.hid hf
      clear hf
      by_cases hlt : j < n
      · have hlt' : (j : Int) < (n : Int) := by omega
        obtain ⟨x, hx⟩ : ∃ x, s.tags[j]? = some x := ⟨_, List.getElem?_eq_getElem (by rw [HN.out]; exact hlt)⟩
        obtain ⟨b, o, rfl, hbb, c1, c2⟩ := RbT.get HF1.out hx
        have hst : (s.tags.take (j + 1)).any tgLong = (f || tgLong x) := by rw [take_snoc hx, List.any_append, HF.out]; simp
        clear hx
        cases f with
        | true =>
          have h9 : (s.tags.take (j + 1)).any tgLong = true := by rw [hst]; rfl
          have HST := Lib.hid h9
          clear hst h9
          go_wp2
          go_round
          case rel => exact ⟨j + 1, by omega, by go_num, by rw [HST.out]⟩
          case measure => simp [intOf]; omega
        | false =>
          by_cases e1 : 128 < x.key.size
          · have e1' : (128 : Int) < (x.key.size : Int) := by omega
            have h9 : (s.tags.take (j + 1)).any tgLong = true := by rw [hst, tgLong, decide_eq_true e1]; simp
            have HST := Lib.hid h9
            clear hst h9
            go_wp2
            go_round
            case rel => exact ⟨j + 1, by omega, by go_num, by rw [HST.out]⟩
            case measure => simp [intOf]; omega
          have e1' : decide ((128 : Int) < (x.key.size : Int)) = false := by simp; omega
          by_cases e2 : 128 < x.val.size
          · have e2' : (128 : Int) < (x.val.size : Int) := by omega
            have h9 : (s.tags.take (j + 1)).any tgLong = true := by rw [hst, tgLong, decide_eq_true e2]; simp
            have HST := Lib.hid h9
            clear hst h9
            go_wp2
            go_round
            case rel => exact ⟨j + 1, by omega, by go_num, by rw [HST.out]⟩
            case measure => simp [intOf]; omega
          have e2' : decide ((128 : Int) < (x.val.size : Int)) = false := by simp; omega
          have h9 : (s.tags.take (j + 1)).any tgLong = false := by rw [hst, tgLong, decide_eq_false e1, decide_eq_false e2]; rfl
          have HST := Lib.hid h9
          clear hst h9
          go_wp2
          go_round
          case rel => exact ⟨j + 1, by omega, by go_num, by rw [HST.out]⟩
          case measure => simp [intOf]; omega
      · have hlt' : decide ((j : Int) < (n : Int)) = false := by simp; omega
        obtain rfl : j = n := by omega
        have hf := HF.out
        rw [List.take_of_length_le (by rw [HN.out]; omega)] at hf
        have hlb : longB s = f := by rw [HLB.out, hf]; rfl
        clear HF
        cases f with
        | true =>
          have hq3 : q = 3 := by rw [← HQ.out, spChk, if_pos hlb]
          have HQ3 := Lib.hid hq3
          clear hlb hq3 hf
          go_wp2
          go_ret
          exact ⟨by rw [HQ3.out]; rfl, HB0.out⟩
        | false =>
          obtain ⟨k0, k1, k2, k4', k5', k6, k7, k8⟩ := HKK.out
          have hq2 : q = if headB s && tagsOk s.tags j then 0 else 2 := by rw [← HQ.out, spChk, if_neg (by rw [hlb]; simp), HN.out]
          have HQ2 := Lib.hid hq2
          have hw := headWays s a1 a2
          clear hlb hq2
          rcases hw with ⟨hh, hw⟩ | ⟨hh, a0, a1', a2', a3', a4, a5, a6, a7, a8, a9, a10, a11⟩
          · have hq2 : q = 2 := by rw [HQ2.out, hh]; rfl
            have HQ3 := Lib.hid hq2
            clear hh hq2 HQ2 hf
            rcases hw with ⟨a0, a0'⟩ | ⟨a0, a1' | ⟨a1', a2' | ⟨a2', a3' | ⟨a3', a4 | ⟨a4, a5 | ⟨a5, a6 | ⟨a6, a7 | ⟨a7, a8 | ⟨a8, a9 | ⟨a9, a10 | ⟨a10, a11⟩⟩⟩⟩⟩⟩⟩⟩⟩⟩⟩
            all_goals first
              | (have d1 : ((s.id : Int) == 0) = false := by rw [beq_eq_false_iff_ne]; omega)
              | (have d1 : ((s.id : Int) == 0) = true := by rw [a1']; rfl)
              | skip
            all_goals first
              | (have d2 : (s.service.toList == []) = false := by rw [str_empty, decide_eq_false_iff_not]; omega)
              | (have d2 : (s.service.toList == []) = true := by rw [str_empty, decide_eq_true_iff]; omega)
              | skip
            all_goals first
              | (have d3 : (s.name.toList == []) = false := by rw [str_empty, decide_eq_false_iff_not]; omega)
              | (have d3 : (s.name.toList == []) = true := by rw [str_empty, decide_eq_true_iff]; omega)
              | skip
            all_goals
              go_wp2_with (go_at_call 53; refine (rPlain _ _ (by omega)).mono ?_; rintro e w' ⟨rfl, hw⟩; rw [hw]; clear hw w'; first | rw [a4] | rw [a5])
              all_goals go_ret
              all_goals exact ⟨by rw [HQ3.out]; rfl, HB0.out⟩
          · have hq2 : q = if tagsOk s.tags j = true then 0 else 2 := by rw [HQ2.out, hh]; rfl
            have HQ3 := Lib.hid hq2
            have hlg : ∀ x ∈ s.tags, x.key.size ≤ 128 ∧ x.val.size ≤ 128 := fun x hx => by
              have := List.any_eq_false.1 hf x hx
              simp only [tgLong, Bool.or_eq_true, decide_eq_true_eq, not_or] at this
              omega
            have HLG := Lib.hid hlg
            have d1 : ((s.id : Int) == 0) = false := by rw [beq_eq_false_iff_ne]; omega
            have d2 : (s.service.toList == []) = false := by rw [str_empty, decide_eq_false_iff_not]; omega
            have d3 : (s.name.toList == []) = false := by rw [str_empty, decide_eq_false_iff_not]; omega
            clear hh hq2 HQ2 hlg hf
            go_wp2_with (go_at_call 53; refine (rPlain _ _ (by omega)).mono ?_; rintro e w' ⟨rfl, hw⟩; rw [hw]; clear hw w'; first | rw [a4] | rw [a5])
            all_goals
              clear k0 k1 k2 k4 k5 k6 k7 k8 k4' k5' d1 d2 d3 a0 a1' a2' a3' a4 a5 a6 a7 a8 a9 a10 a11
              go_loopw [5] (fun iv_ wr => ∃ i : Nat, i ≤ j ∧ iv_ = .int .i64 i ∧ tagsOk s.tags i = true ∧ ∃ d, wr = w1.drewN d) (fun i _ => j - (intOf i).toNat)
              case atStart => exact ⟨0, by omega, rfl, rfl, 0, rfl⟩
              case round =>
                obtain ⟨i, hi, rfl, hall, d, rfl⟩ := hrel
                have HA := Lib.hid hall
                clear hall
                have k10' : (w1.drewN d).cell? ⟨g, 10, none⟩ = some (.slice A j c) := k10
                by_cases hlt : i < j
                · have hlt' : (i : Int) < (j : Int) := by omega
                  obtain ⟨x, hx⟩ : ∃ x, s.tags[i]? = some x := ⟨_, List.getElem?_eq_getElem (by rw [HN.out]; exact hlt)⟩
                  obtain ⟨b, o, rfl, hbb, c1, c2⟩ := RbT.get HF1.out hx
                  have c1' : (w1.drewN d).cell? ⟨b, o + i * 2, none⟩ = some (.string x.key) := c1
                  have c2' : (w1.drewN d).cell? ⟨b, o + i * 2 + 1, none⟩ = some (.string x.val) := c2
                  go_wp2_with fail
                  have hlg := HLG.out x (List.mem_of_getElem? hx)
                  have hat := tagOk_at hx
                  have hsucc := tagsOk_succ s.tags i
                  rw [HA.out, hat] at hsucc
                  have hbad : tagOk s.tags i = false → q = 2 := fun h => by rw [HQ3.out, tagsOk_false h hlt]; rfl
                  rw [hat] at hbad
                  have en : nameB x.key = (decide (0 < x.key.size) && plainB x.key) := by simp [nameB, txtB, hlg.1]
                  have et : txtB x.val = plainB x.val := by simp [txtB, hlg.2]
                  rw [en, et] at hsucc hbad
                  clear hat en et
                  have hlg1 := hlg.1
                  have hlg2 := hlg.2
                  by_cases z0 : x.key.size = 0
                  · have d2 : (x.key.toList == []) = true := by rw [str_empty, decide_eq_true_iff]; omega
                    have hq2 := hbad (by rw [decide_eq_false (by omega)]; rfl)
                    have HQ4 := Lib.hid hq2
                    clear hq2 hbad hsucc hx hlg z0
                    go_quiet (fail)
                    go_wp2
                    go_ret
                    exact ⟨by rw [HQ4.out]; rfl, below_drewN (below_drewN HB0.out d) _⟩
                  have d2 : (x.key.toList == []) = false := by rw [str_empty, decide_eq_false_iff_not]; omega
                  rw [decide_eq_true (show 0 < x.key.size by omega), Bool.true_and] at hsucc hbad
                  obtain ⟨n1, hn1⟩ : ∃ n1, plainB x.key = n1 := ⟨_, rfl⟩
                  have cN : ∀ W', Calls Try.prog 53 #[.string x.key] W' fun e w' => e = .returned (.bool n1) ∧ w' = W' := by intro W'; have := rPlain W' x.key (by omega); rwa [hn1] at this
                  obtain ⟨n2, hn2⟩ : ∃ n2, plainB x.val = n2 := ⟨_, rfl⟩
                  have cT : ∀ W', Calls Try.prog 53 #[.string x.val] W' fun e w' => e = .returned (.bool n2) ∧ w' = W' := by intro W'; have := rPlain W' x.val (by omega); rwa [hn2] at this
                  rw [hn1, hn2] at hsucc hbad
                  clear hn1 hn2
                  cases n1 with
                  | false =>
                    have hq2 := hbad rfl
                    have HQ4 := Lib.hid hq2
                    clear hq2 hbad hsucc hx hlg z0
                    go_quiet ((go_at_call_of 53 (Value.string x.key); go_loud (exact (cN _).mono (fun _ _ h => ⟨h.1, _, h.2⟩))))
                    go_wp2
                    go_ret
                    exact ⟨by rw [HQ4.out]; rfl, below_drewN (below_drewN HB0.out d) _⟩
                  | true =>
                  cases n2 with
                  | false =>
                    have hq2 := hbad rfl
                    have HQ4 := Lib.hid hq2
                    clear hq2 hbad hsucc hx hlg z0
                    go_quiet (first
                      | (go_at_call_of 53 (Value.string x.key); go_loud (exact (cN _).mono (fun _ _ h => ⟨h.1, _, h.2⟩)))
                      | (go_at_call_of 53 (Value.string x.val); go_loud (exact (cT _).mono (fun _ _ h => ⟨h.1, _, h.2⟩))))
                    go_wp2
                    go_ret
                    exact ⟨by rw [HQ4.out]; rfl, below_drewN (below_drewN HB0.out d) _⟩
                  | true =>
                  cases i with
                  | zero =>
                    have HST := Lib.hid (show tagsOk s.tags (0 + 1) = true from hsucc)
                    have z1 : (0 : Int) < (j : Int) := by omega
                    have z2 : 0 < j := by omega
                    have c3 : w1.cell? ⟨b, o, none⟩ = some (.string x.key) := by simpa using c1
                    have c4 : w1.cell? ⟨b, o + 1, none⟩ = some (.string x.val) := by simpa using c2
                    have c3' : (w1.drewN d).cell? ⟨b, o, none⟩ = some (.string x.key) := c3
                    have c4' : (w1.drewN d).cell? ⟨b, o + 1, none⟩ = some (.string x.val) := c4
                    clear hbad hsucc hx hlg z0
                    go_quiet (first
                      | (go_at_call_of 53 (Value.string x.key); go_loud (exact (cN _).mono (fun _ _ h => ⟨h.1, _, h.2⟩)))
                      | (go_at_call_of 53 (Value.string x.val); go_loud (exact (cT _).mono (fun _ _ h => ⟨h.1, _, h.2⟩))))
                    go_wp2
                    go_roundw
                    case rel => exact ⟨0 + 1, by omega, by go_num, HST.out, _, rfl⟩
                    case measure => simp [intOf]; omega
                  | succ k =>
                    obtain ⟨u, hu⟩ : ∃ u, s.tags[k]? = some u := ⟨_, List.getElem?_eq_getElem (by rw [HN.out]; omega)⟩
                    obtain ⟨b', o', e', _, p1, _⟩ := RbT.get HF1.out hu
                    cases e'
                    have p1' : (w1.drewN d).cell? ⟨b, o + k * 2, none⟩ = some (.string u.key) := p1
                    have e1 : (k : Int) + 1 - 1 = (k : Int) := by omega
                    have e2 : ((k : Int) + 1 == 0) = false := by rw [beq_eq_false_iff_ne]; omega
                    have e3 : (0 : Int) < (k : Int) + 1 := by omega
                    have hkn : (k : Int) < (j : Int) := by omega
                    have hkn' : k < j := by omega
                    rw [show k + 1 - 1 = k from rfl, hu] at hsucc hbad
                    have hway := strLt_ways x.key u.key
                    clear hu hlg z0 hx
                    rcases hway with ⟨l1, -⟩ | ⟨l1, l2, -⟩ | ⟨l1, l2, -⟩
                    · have l2 : strLt u.key x.key = false := by
                        cases h2 : strLt u.key x.key with
                        | false => rfl
                        | true =>
                          rw [stw_ltb] at l1 h2
                          have := stw_tr _ _ _ l1 h2
                          rw [stw_irr] at this
                          cases this
                      have hq2 := hbad (by simp [l2])
                      have l3 : (x.key.toList == u.key.toList) = false := by
                        rw [strEq_of', decide_eq_false_iff_not]
                        intro e
                        rw [e] at l1
                        rw [e, l1] at l2
                        cases l2
                      unfold strLt at l1
                      clear l2
                      have HQ4 := Lib.hid hq2
                      clear hq2 hbad hsucc
                      go_quiet (first
                        | (go_at_call_of 53 (Value.string x.key); go_loud (exact (cN _).mono (fun _ _ h => ⟨h.1, _, h.2⟩)))
                        | (go_at_call_of 53 (Value.string x.val); go_loud (exact (cT _).mono (fun _ _ h => ⟨h.1, _, h.2⟩))))
                      go_wp2
                      go_ret
                      exact ⟨by rw [HQ4.out]; rfl, below_drewN (below_drewN HB0.out d) _⟩
                    · have l3 : (x.key.toList == u.key.toList) = false := by
                        rw [strEq_of', decide_eq_false_iff_not]
                        intro e
                        rw [e] at l1 l2
                        rw [l1] at l2
                        cases l2
                      have HST := Lib.hid (show tagsOk s.tags (k + 1 + 1) = true by rw [hsucc]; simp [l2])
                      unfold strLt at l1
                      clear hbad hsucc l2
                      go_quiet (first
                        | (go_at_call_of 53 (Value.string x.key); go_loud (exact (cN _).mono (fun _ _ h => ⟨h.1, _, h.2⟩)))
                        | (go_at_call_of 53 (Value.string x.val); go_loud (exact (cT _).mono (fun _ _ h => ⟨h.1, _, h.2⟩))))
                      go_wp2
                      go_roundw
                      case rel => exact ⟨k + 1 + 1, by omega, by go_num, HST.out, _, rfl⟩
                      case measure => simp [intOf]; omega
                    · have hq2 := hbad (by simp [l2])
                      have l3 : (x.key.toList == u.key.toList) = true := by
                        rw [strEq_of', decide_eq_true_iff]
                        rw [stw_ltb] at l1 l2
                        exact nums_inj (stw_tri _ _ l1 l2)
                      unfold strLt at l1
                      clear l2
                      have HQ4 := Lib.hid hq2
                      clear hq2 hbad hsucc
                      go_quiet (first
                        | (go_at_call_of 53 (Value.string x.key); go_loud (exact (cN _).mono (fun _ _ h => ⟨h.1, _, h.2⟩)))
                        | (go_at_call_of 53 (Value.string x.val); go_loud (exact (cT _).mono (fun _ _ h => ⟨h.1, _, h.2⟩))))
                      go_wp2
                      go_ret
                      exact ⟨by rw [HQ4.out]; rfl, below_drewN (below_drewN HB0.out d) _⟩
                · have hlt' : decide ((i : Int) < (j : Int)) = false := by simp; omega
                  obtain rfl : i = j := by omega
                  go_wp2
                  go_ret
                  exact ⟨by rw [HQ3.out, if_pos HA.out]; rfl, below_drewN HB0.out _⟩
  all_goals
    subst a0
    have hq3 : q = 3 := by rw [← HQ.out, spChk, if_pos (by rw [HLB.out]; rfl)]
    first
      | (have e1 : (128 : Int) < (s.service.size : Int) := by omega)
      | (have e1 : decide ((128 : Int) < (s.service.size : Int)) = false := by simp; omega)
    first
      | (have e2 : (128 : Int) < (s.name.size : Int) := by omega)
      | (have e2 : decide ((128 : Int) < (s.name.size : Int)) = false := by simp; omega)
      | skip
    first
      | (have e3 : (16 : Int) < (n : Int) := by omega)
      | skip
    have HQ3 := Lib.hid hq3
    clear hq3
    go_enter Try.func37, Try.ntmps37
    go_upto_region 1 with fail
    rw [HW.out, HG.out]
    go_wp2
    go_loop [3, 4] (fun lv_ iv_ => ∃ j : Nat, j ≤ n ∧ iv_ = .int .i64 j ∧ lv_ = .bool true) (fun _ i => n - (intOf i).toNat)
    case atStart => exact ⟨0, by omega, rfl, rfl⟩
    case round =>
      obtain ⟨j, hj, rfl, rfl⟩ := hrel
      by_cases hlt : j < n
      · have hlt' : (j : Int) < (n : Int) := by omega
        go_wp2
        go_round
        case rel => exact ⟨j + 1, by omega, by go_num, rfl⟩
        case measure => simp [intOf]; omega
      · have hlt' : decide ((j : Int) < (n : Int)) = false := by simp; omega
        go_wp2
        go_ret
        exact ⟨by rw [HQ3.out]; rfl, HB0.out⟩
end Go.Proofs.Ythaiplhjekkooaa
