/- Keys: what Unpack reads, and its memory. -/
import Derived.Laws.ResultCell
import Derived.Test.YtlamebbolioljaaScH
namespace Go.Proofs.Ytlamebbolioljaa
open Go.RowKit

def zeroKy : Ky := ⟨0, 0, 0, 0, ⟨#[]⟩, ⟨#[]⟩, ⟨#[]⟩, 0, 0⟩
abbrev zkyC : Array Value := #[.int .i64 0, .int .u64 0, .int .u64 0, .int .u64 0, .string ⟨#[]⟩, .string ⟨#[]⟩, .string ⟨#[]⟩, .int .u64 0, .int .i64 0]
def putN (k : Ky) (p : Int) (x : Nat) : Ky := if p = 0 then { k with hi := x } else if p = 1 then { k with lo := x } else if p = 2 then { k with id := x } else if p = 7 then { k with number := x } else k
def putT (t : Nat) (p : Int) (x : Nat) : Nat := if p = 6 then x else t
def putS (k : Ky) (p : Int) (s : ByteArray) : Ky := if p = 3 then { k with service := s } else if p = 4 then { k with name := s } else { k with value := s }
def isTxt (p : Int) : Bool := decide (p = 3) || decide (p = 4) || decide (p = 5)
def unpGo : List Int → List Int → Ky → Nat → (Ky × Nat × List Int) ⊕ Nat
  | [], b, k, t => .inl (k, t, b)
  | p :: ps, b, k, t =>
    if isTxt p = true then
      match txtOf b with
      | .inl (out, i) => unpGo ps (b.drop i) (putS k p (strOfNums out)) t
      | .inr e => .inr e
    else if b.length < 8 then .inr 12
    else unpGo ps (b.drop 8) (putN k p (ordVal (b.take 8))) (putT t p (ordVal (b.take 8)))
def unpEnd (r : (Ky × Nat × List Int) ⊕ Nat) : Ky × Nat :=
  match r with
  | .inr e => (zeroKy, e)
  | .inl (k, t, b) => if b ≠ [] ∨ 4611686018427387903 < t ∨ (k.kind = 100 ∧ 4611686018427387903 < k.number) then (zeroKy, 4) else
      if kyChk { k with start := t } ≠ 0 then (zeroKy, kyChk { k with start := t }) else ({ k with start := t }, 0)
def unpOf : List Int → Ky × Nat
  | [] => (zeroKy, 12)
  | c :: rest => match partsOf c with
    | none => (zeroKy, 4)
    | some l => unpEnd (unpGo l rest { zeroKy with kind := c } 0)
theorem txtRead_le (b : List Int) : ∀ (f i : Nat) (out o : List Int) (j : Nat), txtRead b i out f = .inl (o, j) → j ≤ b.length ∧ i + 2 ≤ j := by
  intro f
  induction f with
  | zero => intro i out o j h; simp [txtRead] at h
  | succ f ih =>
    intro i out o j h
    rw [txtRead] at h
    cases hx : b[i]? with
    | none => rw [hx] at h; simp at h
    | some x =>
      rw [hx] at h
      simp only at h
      by_cases h0 : x ≠ 0
      · rw [if_pos h0] at h
        have := ih _ _ _ _ h
        omega
      · rw [if_neg h0] at h
        cases hy : b[i + 1]? with
        | none => rw [hy] at h; simp at h
        | some y =>
          rw [hy] at h
          simp only at h
          have hl := (List.getElem?_eq_some_iff.1 hy).1
          by_cases h1 : y = 1
          · rw [if_pos h1] at h
            simp at h
            omega
          · rw [if_neg h1] at h
            by_cases h2 : y = 255
            · rw [if_pos h2] at h
              have := ih _ _ _ _ h
              omega
            · rw [if_neg h2] at h
              simp at h
theorem txtOf_le {b o : List Int} {j : Nat} (h : txtOf b = .inl (o, j)) : j ≤ b.length := (txtRead_le b _ _ _ _ _ h).1
theorem txtRead_err (b : List Int) : ∀ (f i : Nat) (out : List Int) (e : Nat), txtRead b i out f = .inr e → e = 12 ∨ e = 4 := by
  intro f
  induction f with
  | zero => intro i out e h; simp [txtRead] at h; omega
  | succ f ih =>
    intro i out e h
    rw [txtRead] at h
    cases hx : b[i]? with
    | none => rw [hx] at h; simp at h; omega
    | some x =>
      rw [hx] at h
      simp only at h
      by_cases h0 : x ≠ 0
      · rw [if_pos h0] at h
        exact ih _ _ _ h
      · rw [if_neg h0] at h
        cases hy : b[i + 1]? with
        | none => rw [hy] at h; simp at h; omega
        | some y =>
          rw [hy] at h
          simp only at h
          by_cases h1 : y = 1
          · rw [if_pos h1] at h
            simp at h
          · rw [if_neg h1] at h
            by_cases h2 : y = 255
            · rw [if_pos h2] at h
              exact ih _ _ _ h
            · rw [if_neg h2] at h
              simp at h
              omega
theorem txtOf_err {b : List Int} {e : Nat} (h : txtOf b = .inr e) : e = 12 ∨ e = 4 := txtRead_err b _ _ _ _ h

def UnPost (w : World) (r : Ky × Nat) (e : Ending) (w' : World) : Prop := e = .returned (.tuple #[kyV r.1, .int .i64 r.2]) ∧ Below w.heap.size w w'
theorem results_cell_row_tmpK {P : Program} {fn : Func} {p u : Tmp} {ty : TypeId} (h : fn.results = #[.cell p ty, .tmp u]) (tmps : Array Value) (w : World) (g : Nat) (t : TypeId) (cs : Array Value) (d : TypeDesc)
    (hp : tmps.getD p undef = .pointer (some ⟨g, 0, none⟩)) (hg : Bk w g t cs)
    (hu : P.underlying ty = some d) (hd : (match d with | .struct _ | .array _ _ => true | _ => false) = true) (hi : (P.info? ty).map (·.size) = some cs.size) :
    (results fn tmps).run P w = .ok (.tuple #[.agg cs, tmps.getD u undef]) w := by
  rw [results_cell_tmp h, hp]
  simp [asAddr, Result.andThen, run_loadVar_row w g t ty cs (0, 0) d hg hu hd hi]
theorem Bk.rowK {w : World} {g : Nat} {t : TypeId} {old : Array Value} (h : Bk w g t old) (cs : Array Value) : Bk (w.setRow g cs) g t cs := setRow_heap w g old cs t (0, 0) h
theorem below_rowK {B : Nat} {a w : World} (h : Below B a w) {g : Nat} (hg : B ≤ g) (cs : Array Value) : Below B a (w.setRow g cs) :=
  ⟨h.os, h.tape, h.output, by have := h.size; simpa [World.setRow] using this, fun k hk => (setRow_other w g k cs (by omega)).trans (h.block k hk)⟩
theorem kyC_one (k : Ky) : (kyC k).all (·.oneCell') = true := by simp [Value.oneCell']
theorem zkyC_one : zkyC.all (·.oneCell') = true := by simp [Value.oneCell']

/-- The maps of pointers. -/
def numEs (g tb : Nat) : Array MapEntry := #[⟨.int .i64 0, .pointer (some ⟨g, 1, none⟩), 0⟩, ⟨.int .i64 1, .pointer (some ⟨g, 2, none⟩), 1⟩, ⟨.int .i64 2, .pointer (some ⟨g, 3, none⟩), 2⟩, ⟨.int .i64 6, .pointer (some ⟨tb, 0, none⟩), 3⟩, ⟨.int .i64 7, .pointer (some ⟨g, 7, none⟩), 4⟩]
def txtEs (g : Nat) : Array MapEntry := #[⟨.int .i64 3, .pointer (some ⟨g, 4, none⟩), 0⟩, ⟨.int .i64 4, .pointer (some ⟨g, 5, none⟩), 1⟩, ⟨.int .i64 5, .pointer (some ⟨g, 6, none⟩), 2⟩]
def numAt (g tb : Nat) (p : Int) : Option Addr := if p = 0 then some ⟨g, 1, none⟩ else if p = 1 then some ⟨g, 2, none⟩ else if p = 2 then some ⟨g, 3, none⟩ else if p = 6 then some ⟨tb, 0, none⟩ else if p = 7 then some ⟨g, 7, none⟩ else none
def txtAt (g : Nat) (p : Int) : Option Addr := if p = 3 then some ⟨g, 4, none⟩ else if p = 4 then some ⟨g, 5, none⟩ else if p = 5 then some ⟨g, 6, none⟩ else none
theorem zeroPN (w : World) : (zeroValue 69).run Try.prog w = .ok (.pointer none) w := by kernel_rfl
theorem zeroPS (w : World) : (zeroValue 71).run Try.prog w = .ok (.pointer none) w := by kernel_rfl
theorem num_look {w : World} {m g tb : Nat} (h : Mp w m (numEs g tb)) (p : Int) (hp0 : 0 ≤ p) (hp1 : p < 8) : (Instr.lookup 70 (.map (some m)) (.int .i64 p) false).run Try.prog w = .ok (.pointer (numAt g tb p)) w := by
  have key : ∀ r, Instr.findNow (.int .i64) (.int .i64 p) (numEs g tb).toList 0 = some r → (match r with | some x => x.2 | none => Value.pointer none) = .pointer (numAt g tb p) → (Instr.lookup 70 (.map (some m)) (.int .i64 p) false).run Try.prog w = .ok (.pointer (numAt g tb p)) w := fun r hr e => by
    have hl := run_lookI (P := Try.prog) Try.underlying70 Try.underlying3 (zeroPN w) h p false hr
    rw [hl]
    cases r <;> exact congrArg (fun v => Result.ok v w) e
  have hcs : p = 0 ∨ p = 1 ∨ p = 2 ∨ p = 3 ∨ p = 4 ∨ p = 5 ∨ p = 6 ∨ p = 7 := by omega
  rcases hcs with rfl | rfl | rfl | rfl | rfl | rfl | rfl | rfl <;> exact key _ rfl rfl
theorem txt_look {w : World} {m g : Nat} (h : Mp w m (txtEs g)) (p : Int) (hp0 : 0 ≤ p) (hp1 : p < 8) : (Instr.lookup 72 (.map (some m)) (.int .i64 p) false).run Try.prog w = .ok (.pointer (txtAt g p)) w := by
  have key : ∀ r, Instr.findNow (.int .i64) (.int .i64 p) (txtEs g).toList 0 = some r → (match r with | some x => x.2 | none => Value.pointer none) = .pointer (txtAt g p) → (Instr.lookup 72 (.map (some m)) (.int .i64 p) false).run Try.prog w = .ok (.pointer (txtAt g p)) w := fun r hr e => by
    have hl := run_lookI (P := Try.prog) Try.underlying72 Try.underlying3 (zeroPS w) h p false hr
    rw [hl]
    cases r <;> exact congrArg (fun v => Result.ok v w) e
  have hcs : p = 0 ∨ p = 1 ∨ p = 2 ∨ p = 3 ∨ p = 4 ∨ p = 5 ∨ p = 6 ∨ p = 7 := by omega
  rcases hcs with rfl | rfl | rfl | rfl | rfl | rfl | rfl | rfl <;> exact key _ rfl rfl

/-- A slice's address from k on. -/
def offA (a : Option Addr) (c k : Nat) : Option Addr := if c = k then a else a.map (·.add k)
set_option maxRecDepth 100000 in
theorem run_slK (w : World) (a : Option Addr) (n c : Nat) (kl : IntKind) (l : Int) (h0 : 0 ≤ l) (h1 : l ≤ n) :
    (Instr.slice 27 (.slice a n c) (some (.int kl l)) none none).run Try.prog w = .ok (.slice (offA a c l.toNat) (n - l.toNat) (c - l.toNat)) w := by
  have h := run_slice_l (P := Try.prog) w 27 a n c Try.underlying27 kl l h0 h1
  rw [h]
  have hs : (sizeOf (Try.prog.elem 27)).run Try.prog w = .ok 1 w := by kernel_rfl
  rw [hs]
  simp [Result.andThen, sliced, offA]
/-- Unpack's memory without the maps. -/
structure UnQ (w0 W : World) (rb g tb : Nat) (A : Option Addr) (l : List Int) (Ab : Option Addr) (b : List Int) (k : Ky) (t : Nat) : Prop where
  res : Bk W rb 26 zkyC
  key : Bk W g 26 (kyC k)
  att : Bk W tb 22 #[.int .u64 t]
  parts : Rd W tb A (iv l)
  pfar : ∀ a, A = some a → g < a.block
  bytes : Rb W rb Ab b
  bel : Below w0.heap.size w0 W
  o1 : w0.heap.size ≤ rb
  o2 : rb < g
  o3 : g < tb
theorem UnQ.grown {w0 W W' : World} {rb g tb m : Nat} {A Ab : Option Addr} {l b : List Int} {k : Ky} {t : Nat} (h : UnQ w0 W rb g tb A l Ab b k t) (hg : W.grownBy W' (some m)) (hm : tb < m) : UnQ w0 W' rb g tb A l Ab b k t :=
  have h1 := h.att.lt
  have o1 := h.o1
  have o2 := h.o2
  have o3 := h.o3
  ⟨h.res.grown hg (fun e => by have := Option.some.inj e; omega), h.key.grown hg (fun e => by have := Option.some.inj e; omega), h.att.grown hg (fun e => by have := Option.some.inj e; omega), h.parts.grown hg (by omega) (fun x hx => by have := Option.some.inj hx; omega), h.pfar, h.bytes.grown hg (by omega) (fun x hx => by have := Option.some.inj hx; omega),
    h.bel.trans (grown_below hg (by omega) (fun x hx => by have := Option.some.inj hx; omega)), o1, o2, o3⟩
theorem UnQ.alloc {w0 W : World} {rb g tb : Nat} {A Ab : Option Addr} {l b : List Int} {k : Ky} {t : Nat} (h : UnQ w0 W rb g tb A l Ab b k t) (o : Obj) : UnQ w0 (W.alloc o) rb g tb A l Ab b k t :=
  have h1 := h.att.lt
  have o2 := h.o2
  have o3 := h.o3
  ⟨h.res.alloc o, h.key.alloc o, h.att.alloc o, h.parts.alloc (by omega) o, h.pfar, h.bytes.alloc (by omega) o, h.bel.alloc h.bel.size o, h.o1, h.o2, h.o3⟩
theorem Mp.grown {w w' : World} {m : Nat} {es : Array MapEntry} {r : Nat} (h : Mp w m es) (hg : w.grownBy w' (some r)) (hm : m ≠ r) : Mp w' m es := (hg.block m h.lt (fun e => hm (Option.some.inj e))).trans h
/-- Unpack's memory: the result, the key, the number at, the maps of pointers, the parts, the bytes. -/
structure UnM (w0 W : World) (rb g tb m1 m2 : Nat) (A : Option Addr) (l : List Int) (Ab : Option Addr) (b : List Int) (k : Ky) (t : Nat) : Prop where
  res : Bk W rb 26 zkyC
  key : Bk W g 26 (kyC k)
  att : Bk W tb 22 #[.int .u64 t]
  mp1 : Mp W m1 (numEs g tb)
  mp2 : Mp W m2 (txtEs g)
  parts : Rd W tb A (iv l)
  pfar : ∀ a, A = some a → g < a.block
  bytes : Rb W rb Ab b
  bel : Below w0.heap.size w0 W
  o1 : w0.heap.size ≤ rb
  o2 : rb < g
  o3 : g < tb
  o4 : tb < m1
  o5 : m1 < m2
section
variable {w0 W W' : World} {rb g tb m1 m2 : Nat} {A Ab : Option Addr} {l b : List Int} {k : Ky} {t : Nat}
theorem UnM.lt (h : UnM w0 W rb g tb m1 m2 A l Ab b k t) : m2 < W.heap.size := h.mp2.lt
theorem UnM.below (h : UnM w0 W rb g tb m1 m2 A l Ab b k t) (hb : Below W.heap.size W W') : UnM w0 W' rb g tb m1 m2 A l Ab b k t :=
  have h1 := h.res.lt
  have h2 := h.att.lt
  ⟨h.res.bS hb, h.key.bS hb, h.att.bS hb, h.mp1.bS hb, h.mp2.bS hb, h.parts.below (hb.mono (by omega)), h.pfar, h.bytes.below (hb.mono (by omega)), h.bel.trans (hb.mono h.bel.size), h.o1, h.o2, h.o3, h.o4, h.o5⟩
theorem Mp.far {w : World} {m : Nat} {es : Array MapEntry} (h : Mp w m es) {p : Addr} (hp : m ≠ p.block) (u : Value) : Mp (w.setCell p u) m es := (Below.heap_setCell w p u m hp).trans h
theorem Rd.setfarK {w : World} {B : Nat} {A : Option Addr} {xs : List Value} (h : Rd w B A xs) {q : Addr} (hq : ∀ a, A = some a → a.block ≠ q.block) (u : Value) : Rd (w.setCell q u) B A xs := fun hn => by
  obtain ⟨b, o, rfl, hb, hc⟩ := h hn
  exact ⟨b, o, rfl, hb, fun j x hx => (World.cell?_setCell_other w q ⟨b, o + j, none⟩ u (fun e => hq _ rfl (congrArg Addr.block e).symm)).trans (hc j x hx)⟩
theorem UnM.setKey (h : UnM w0 W rb g tb m1 m2 A l Ab b k t) (o : Nat) (u : Value) {k' : Ky} (hk : (kyC k).setIfInBounds o u = kyC k') : UnM w0 (W.setCell ⟨g, o, none⟩ u) rb g tb m1 m2 A l Ab b k' t :=
  have o2 := h.o2
  have o3 := h.o3
  have o4 := h.o4
  have o5 := h.o5
  ⟨h.res.far (by show rb ≠ g; omega) _, hk ▸ h.key.set o u, h.att.far (by show tb ≠ g; omega) _, h.mp1.far (by show m1 ≠ g; omega) _, h.mp2.far (by show m2 ≠ g; omega) _, h.parts.setfarK (fun a ha => by have := h.pfar a ha; show a.block ≠ g; omega) _, h.pfar, h.bytes.set (by show rb ≤ g; omega) _,
    h.bel.setCell (by have := h.o1; show w0.heap.size ≤ g; omega) _, h.o1, h.o2, h.o3, h.o4, h.o5⟩
theorem UnM.setAt (h : UnM w0 W rb g tb m1 m2 A l Ab b k t) (t' : Nat) : UnM w0 (W.setCell ⟨tb, 0, none⟩ (.int .u64 t')) rb g tb m1 m2 A l Ab b k t' :=
  have o2 := h.o2
  have o3 := h.o3
  have o4 := h.o4
  have o5 := h.o5
  ⟨h.res.far (by show rb ≠ tb; omega) _, h.key.far (by show g ≠ tb; omega) _, h.att.set 0 _, h.mp1.far (by show m1 ≠ tb; omega) _, h.mp2.far (by show m2 ≠ tb; omega) _, h.parts.set (Nat.le_refl _) _, h.pfar, h.bytes.set (by show rb ≤ tb; omega) _,
    h.bel.setCell (by have := h.o1; show w0.heap.size ≤ tb; omega) _, h.o1, h.o2, h.o3, h.o4, h.o5⟩
theorem UnM.drop (h : UnM w0 W rb g tb m1 m2 A l Ab b k t) {i c : Nat} (hc : b.length ≤ c) : UnM w0 W rb g tb m1 m2 A l (if c = i then Ab else Ab.map (·.add i)) (b.drop i) k t :=
  ⟨h.res, h.key, h.att, h.mp1, h.mp2, h.parts, h.pfar, h.bytes.drop hc, h.bel, h.o1, h.o2, h.o3, h.o4, h.o5⟩
theorem UnM.drewN (h : UnM w0 W rb g tb m1 m2 A l Ab b k t) (n : Nat) : UnM w0 (W.drewN n) rb g tb m1 m2 A l Ab b k t := h.below (below_drewN (Below.refl _ W) n)
end
theorem UnM.num {w0 W : World} {rb g tb m1 m2 : Nat} {A Ab : Option Addr} {l b : List Int} {k : Ky} {t : Nat} (h : UnM w0 W rb g tb m1 m2 A l Ab b k t) {p : Int} (hp0 : 0 ≤ p) (hp1 : p < 8) (hp : isTxt p = false) (x : Nat) :
    ∃ bl o, numAt g tb p = some ⟨bl, o, none⟩ ∧ (∃ old : Nat, W.cell? ⟨bl, o, none⟩ = some (.int .u64 old)) ∧ W.frozen? ⟨bl, o, none⟩ = false ∧ UnM w0 (W.setCell ⟨bl, o, none⟩ (.int .u64 x)) rb g tb m1 m2 A l Ab b (putN k p x) (putT t p x) := by
  have hcs : p = 0 ∨ p = 1 ∨ p = 2 ∨ p = 3 ∨ p = 4 ∨ p = 5 ∨ p = 6 ∨ p = 7 := by omega
  rcases hcs with rfl | rfl | rfl | rfl | rfl | rfl | rfl | rfl
  · exact ⟨g, 1, rfl, ⟨_, h.key.cell 1⟩, h.key.frozen 1, h.setKey 1 _ rfl⟩
  · exact ⟨g, 2, rfl, ⟨_, h.key.cell 2⟩, h.key.frozen 2, h.setKey 2 _ rfl⟩
  · exact ⟨g, 3, rfl, ⟨_, h.key.cell 3⟩, h.key.frozen 3, h.setKey 3 _ rfl⟩
  · cases hp
  · cases hp
  · cases hp
  · exact ⟨tb, 0, rfl, ⟨_, h.att.cell 0⟩, h.att.frozen 0, h.setAt x⟩
  · exact ⟨g, 7, rfl, ⟨_, h.key.cell 7⟩, h.key.frozen 7, h.setKey 7 _ rfl⟩
theorem UnM.txt {w0 W : World} {rb g tb m1 m2 : Nat} {A Ab : Option Addr} {l b : List Int} {k : Ky} {t : Nat} (h : UnM w0 W rb g tb m1 m2 A l Ab b k t) {p : Int} (hp : isTxt p = true) :
    ∃ o, txtAt g p = some ⟨g, o, none⟩ ∧ numAt g tb p = none ∧ ∀ W', Below W.heap.size W W' → (∃ old, W'.cell? ⟨g, o, none⟩ = some (.string old)) ∧ W'.frozen? ⟨g, o, none⟩ = false ∧ ∀ s, UnM w0 (W'.setCell ⟨g, o, none⟩ (.string s)) rb g tb m1 m2 A l Ab b (putS k p s) t := by
  have hcs : p = 3 ∨ p = 4 ∨ p = 5 := by simpa [isTxt, or_assoc] using hp
  rcases hcs with rfl | rfl | rfl
  · exact ⟨4, rfl, rfl, fun W' hb => ⟨⟨_, (h.below hb).key.cell 4⟩, (h.below hb).key.frozen 4, fun s => (h.below hb).setKey 4 _ rfl⟩⟩
  · exact ⟨5, rfl, rfl, fun W' hb => ⟨⟨_, (h.below hb).key.cell 5⟩, (h.below hb).key.frozen 5, fun s => (h.below hb).setKey 5 _ rfl⟩⟩
  · exact ⟨6, rfl, rfl, fun W' hb => ⟨⟨_, (h.below hb).key.cell 6⟩, (h.below hb).key.frozen 6, fun s => (h.below hb).setKey 6 _ rfl⟩⟩
theorem unpGo_num {p : Int} {ps b : List Int} {k : Ky} {t : Nat} (hp : isTxt p = false) (h : 8 ≤ b.length) : unpGo (p :: ps) b k t = unpGo ps (b.drop 8) (putN k p (ordVal (b.take 8))) (putT t p (ordVal (b.take 8))) := by
  rw [unpGo, if_neg (by rw [hp]; simp), if_neg (by omega)]
theorem unpGo_short {p : Int} {ps b : List Int} {k : Ky} {t : Nat} (hp : isTxt p = false) (h : b.length < 8) : unpGo (p :: ps) b k t = .inr 12 := by
  rw [unpGo, if_neg (by rw [hp]; simp), if_pos h]
theorem unpGo_txt {p : Int} {ps b o : List Int} {i : Nat} {k : Ky} {t : Nat} (hp : isTxt p = true) (h : txtOf b = .inl (o, i)) : unpGo (p :: ps) b k t = unpGo ps (b.drop i) (putS k p (strOfNums o)) t := by
  rw [unpGo, if_pos hp, h]
theorem unpGo_txtBad {p : Int} {ps b : List Int} {e : Nat} {k : Ky} {t : Nat} (hp : isTxt p = true) (h : txtOf b = .inr e) : unpGo (p :: ps) b k t = .inr e := by
  rw [unpGo, if_pos hp, h]
theorem putN_kind (k : Ky) (p : Int) (x : Nat) : (putN k p x).kind = k.kind := by unfold putN; split <;> (try split) <;> (try split) <;> (try split) <;> rfl
theorem putS_kind (k : Ky) (p : Int) (s : ByteArray) : (putS k p s).kind = k.kind := by unfold putS; split <;> (try split) <;> rfl
end Go.Proofs.Ytlamebbolioljaa
