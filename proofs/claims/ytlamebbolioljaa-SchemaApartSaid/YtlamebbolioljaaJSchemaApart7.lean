/- Texts of the proof of SchemaApartSaid, joined: ScX ScY MpS Wrs WrU ScZ ScV Vls. -/
import Derived.Laws.ResultCell
import Derived.Test.YtlamebbolioljaaJSchemaApart2
import Derived.Test.YtlamebbolioljaaJSchemaApart3
import Derived.Test.YtlamebbolioljaaJSchemaApart6
import Derived.Deep.RegionHeld3
import Derived.Test.YtlamebbolioljaaJSchemaApart1
import Derived.Deep.AppendLies
/- The keys of a span: what they are; the closures that change a key. -/
namespace Go.Proofs.Ytlamebbolioljaa
open Go.RowKit
theorem loadKy_shut8 (a : Addr) : loadVar 26 a = loadK 26 a := rfl
attribute [local go_sem ↓] loadKy_shut8

/-- A key of a span with its service, start, trace and number. -/
def kyW (s : Sp) : Ky := ⟨0, s.hi, s.lo, s.id, s.service, ⟨#[]⟩, ⟨#[]⟩, 0, s.start⟩
def kyT (s : Sp) (t : Tg) : Ky := { kyW s with kind := 103, name := t.key, value := t.val }
def keys5 (s : Sp) : List Ky :=
  [⟨115, s.hi, s.lo, s.id, ⟨#[]⟩, ⟨#[]⟩, ⟨#[]⟩, 0, 0⟩, { kyW s with kind := 105 }, { kyW s with kind := 111, name := s.name }, { kyW s with kind := 100, number := s.length.toNat },
   ⟨110, 0, 0, 0, s.service, s.name, ⟨#[]⟩, 0, 0⟩]
def keysOf (s : Sp) : List Ky := keys5 s ++ s.tags.map (kyT s)
def kyL (k : Ky) : List Value := (kyC k).toList
theorem kyL_length (k : Ky) : (kyL k).length = 9 := rfl
theorem kyL_one (k : Ky) : ∀ u ∈ kyL k, u.oneCell' = true := by
  intro u hu
  simp [kyL] at hu
  rcases hu with h | h | h | h | h | h | h | h | h <;> subst h <;> rfl

theorem scCh2 {g : Nat} (k : Ky) (w : World) (hk : Bk w g 26 (kyC k)) :
    Calls Try.prog 64 #[.pointer (some ⟨g, 0, none⟩)] w fun e w' => (∃ v, e = .returned v) ∧ Bk w' g 26 (kyC k) ∧ w.grownBy w' (some g) := by
  go_enter Try.func64, Try.ntmps64
  go_wp2
  go_end0
  exact ⟨⟨_, rfl⟩, hk, World.grownBy.refl _ _⟩
set_option maxHeartbeats 800000 in
theorem scCh3 {g gs n c : Nat} {A : Option Addr} (k : Ky) (s : Sp) (w : World) (hk : Bk w g 26 (kyC k)) (hs : Bk w gs 43 (spC s A n c)) :
    Calls Try.prog 65 #[.pointer (some ⟨g, 0, none⟩), .pointer (some ⟨gs, 0, none⟩)] w fun e w' => (∃ v, e = .returned v) ∧ Bk w' g 26 (kyC { k with name := s.name }) ∧ w.grownBy w' (some g) := by
  have c5 : w.cell? ⟨gs, 5, none⟩ = some (.string s.name) := hs.cell 5
  have d5 : w.cell? ⟨g, 5, none⟩ = some (.string k.name) := hk.cell 5
  have f5 : w.frozen? ⟨g, 5, none⟩ = false := hk.frozen 5
  go_enter Try.func65, Try.ntmps65
  go_wp2
  go_end0
  exact ⟨⟨_, rfl⟩, hk.set 5 (.string s.name), only_set (World.grownBy.refl _ _) _ _⟩
set_option maxHeartbeats 800000 in
theorem scCh4 {g gs n c : Nat} {A : Option Addr} (k : Ky) (s : Sp) (w : World) (hk : Bk w g 26 (kyC k)) (hs : Bk w gs 43 (spC s A n c)) (h0 : 0 ≤ s.length) (h1 : s.length < 9223372036854775808) :
    Calls Try.prog 66 #[.pointer (some ⟨g, 0, none⟩), .pointer (some ⟨gs, 0, none⟩)] w fun e w' => (∃ v, e = .returned v) ∧ Bk w' g 26 (kyC { k with number := s.length.toNat }) ∧ w.grownBy w' (some g) := by
  have c8 : w.cell? ⟨gs, 8, none⟩ = some (.int .i64 s.length) := hs.cell 8
  have d7 : w.cell? ⟨g, 7, none⟩ = some (.int .u64 k.number) := hk.cell 7
  have f7 : w.frozen? ⟨g, 7, none⟩ = false := hk.frozen 7
  obtain ⟨z, hz⟩ : ∃ z, s.length.toNat = z := ⟨_, rfl⟩
  have hw : IntKind.u64.wrap s.length = (z : Int) := by rw [IntWalk.u64_in _ ⟨by omega, by omega⟩]; omega
  rw [hz]
  clear hz
  go_enter Try.func66, Try.ntmps66
  go_wp2
  go_end0
  exact ⟨⟨_, rfl⟩, hk.set 7 (.int .u64 (z : Int)), only_set (World.grownBy.refl _ _) _ _⟩
set_option maxHeartbeats 1600000 in
theorem scCh5 {g gt : Nat} (k : Ky) (t : Tg) (w : World) (hk : Bk w g 26 (kyC k)) (ht : Bk w gt 97 #[.string t.key, .string t.val]) (hne : g ≠ gt) :
    Calls Try.prog 67 #[.pointer (some ⟨g, 0, none⟩), .pointer (some ⟨gt, 0, none⟩)] w fun e w' => (∃ v, e = .returned v) ∧ Bk w' g 26 (kyC { k with name := t.key, value := t.val }) ∧ w.grownBy w' (some g) := by
  have c0 : w.cell? ⟨gt, 0, none⟩ = some (.string t.key) := ht.cell 0
  have c1 : w.cell? ⟨gt, 1, none⟩ = some (.string t.val) := ht.cell 1
  have d5 : w.cell? ⟨g, 5, none⟩ = some (.string k.name) := hk.cell 5
  have d6 : w.cell? ⟨g, 6, none⟩ = some (.string k.value) := hk.cell 6
  have f5 : w.frozen? ⟨g, 5, none⟩ = false := hk.frozen 5
  have f6 : w.frozen? ⟨g, 6, none⟩ = false := hk.frozen 6
  go_enter Try.func67, Try.ntmps67
  go_region
  all_goals go_wp2
  all_goals go_end0
  all_goals refine ⟨⟨_, rfl⟩, ?_, ?_⟩
  all_goals first
    | exact ((hk.set 5 (.string t.key)).set 6 (.string t.val)).drew
    | exact ((hk.set 6 (.string t.val)).set 5 (.string t.key)).drew
    | (have h := only_set (only_set (World.grownBy.refl w (some g)) 5 (.string t.key)) 6 (.string t.val); exact ⟨h.os, h.tape, h.output, h.size, h.block⟩)
    | (have h := only_set (only_set (World.grownBy.refl w (some g)) 6 (.string t.val)) 5 (.string t.key); exact ⟨h.os, h.tape, h.output, h.size, h.block⟩)
/-- with: a copy of the key, changed. -/
abbrev zkC : Array Value := #[.int .i64 0, .int .u64 0, .int .u64 0, .int .u64 0, .string ⟨#[]⟩, .string ⟨#[]⟩, .string ⟨#[]⟩, .int .u64 0, .int .i64 0]
theorem kyC_oneX (k : Ky) : (kyC k).all (·.oneCell') = true := by simp [Value.oneCell']
theorem rowX {w : World} {g : Nat} {t : TypeId} {old : Array Value} (h : Bk w g t old) (cs : Array Value) : Bk (w.setRow g cs) g t cs := setRow_heap w g old cs t (0, 0) h
theorem below_rowX {B : Nat} {a w : World} (h : Below B a w) {g : Nat} (hg : B ≤ g) (cs : Array Value) : Below B a (w.setRow g cs) :=
  ⟨h.os, h.tape, h.output, by have := h.size; simpa [World.setRow] using this, fun k hk => (setRow_other w g k cs (by omega)).trans (h.block k hk)⟩
set_option maxRecDepth 100000 in
set_option maxHeartbeats 1600000 in
theorem scWith2 {g : Nat} (k : Ky)  (x : Int) (w : World) (hk : Bk w g 26 (kyC k))  :
    Calls Try.prog 63 #[.int .i64 x, .func (.func 64) #[] #[], .pointer (some ⟨g, 0, none⟩)] w fun e w' => e = .returned (kyV { k with kind := x }) ∧ Below w.heap.size w w' := by
  have hgl := hk.lt
  have la : ∀ o, (loadK 26 ⟨g, 0, none⟩).run Try.prog (w.alloc o) = .ok (kyV k) (w.alloc o) := fun o => loadK_ky (hk.alloc o)
  have hz : Bk ((w.alloc (.cells zkC 26)).alloc (.cells (kyC { k with kind := x }) 26)) w.heap.size 26 zkC := (Bk.new w _ zkC).alloc _
  have hx : Bk ((w.alloc (.cells zkC 26)).alloc (.cells (kyC { k with kind := x }) 26)) (w.heap.size + 1) 26 (kyC { k with kind := x }) := by simpa using Bk.new (w.alloc (.cells zkC 26)) 26 (kyC { k with kind := x })
  have hb : Below w.heap.size w ((w.alloc (.cells zkC 26)).alloc (.cells (kyC { k with kind := x }) 26)) := ((Below.refl _ w).alloc (Nat.le_refl _) _).alloc (by simp) _
  have hc := scCh2 { k with kind := x } _ hx
  have HC := Lib.hid hc
  have HZ := Lib.hid hz
  have HB := Lib.hid hb
  clear hk hz hx hb hc
  go_enter Try.func63, Try.ntmps63
  go_upto_region 4 with (go_at_call 64; refine HC.out.mono ?_; rintro e w' ⟨⟨v, rfl⟩, hk', hg'⟩; have hz' := HZ.out.grown hg' (by simp); have la' := loadK_ky hk'; have hb' : Below w.heap.size w w' := HB.out.trans (grown_below hg' (by simp; omega) (fun b hb => by cases hb; omega)))
  go_wp2_with (refine wpList_store_row rfl 26 (.tmp 5) (.tmp 12) rfl w.heap.size (kyC { k with kind := x }) rfl rfl 26 zkC hz' (by rfl) rfl (kyC_oneX _) ?_)
  try simp only [Exit.inBlock, Exit.then]
  refine bodyPost_ret (results_cell_row rfl _ _ w.heap.size 26 (kyC { k with kind := x }) (0, 0) _ rfl (rowX hz' _) Try.underlying26 rfl (by rfl)) rfl ?_
  exact ⟨rfl, below_rowX hb' (Nat.le_refl _) _⟩
set_option maxRecDepth 100000 in
set_option maxHeartbeats 1600000 in
theorem scWith3 {g gs n c : Nat} {A : Option Addr} (k : Ky) (s : Sp) (x : Int) (w : World) (hk : Bk w g 26 (kyC k)) (hs : Bk w gs 43 (spC s A n c)) :
    Calls Try.prog 63 #[.int .i64 x, .func (.func 65) #[] #[.pointer (some ⟨gs, 0, none⟩)], .pointer (some ⟨g, 0, none⟩)] w fun e w' => e = .returned (kyV { k with kind := x, name := s.name }) ∧ Below w.heap.size w w' := by
  have hgl := hk.lt
  have la : ∀ o, (loadK 26 ⟨g, 0, none⟩).run Try.prog (w.alloc o) = .ok (kyV k) (w.alloc o) := fun o => loadK_ky (hk.alloc o)
  have hz : Bk ((w.alloc (.cells zkC 26)).alloc (.cells (kyC { k with kind := x }) 26)) w.heap.size 26 zkC := (Bk.new w _ zkC).alloc _
  have hx : Bk ((w.alloc (.cells zkC 26)).alloc (.cells (kyC { k with kind := x }) 26)) (w.heap.size + 1) 26 (kyC { k with kind := x }) := by simpa using Bk.new (w.alloc (.cells zkC 26)) 26 (kyC { k with kind := x })
  have hb : Below w.heap.size w ((w.alloc (.cells zkC 26)).alloc (.cells (kyC { k with kind := x }) 26)) := ((Below.refl _ w).alloc (Nat.le_refl _) _).alloc (by simp) _
  have hc := scCh3 { k with kind := x } s _ hx ((hs.alloc _).alloc _)
  have HC := Lib.hid hc
  have HZ := Lib.hid hz
  have HB := Lib.hid hb
  clear hk hz hx hb hc
  go_enter Try.func63, Try.ntmps63
  go_upto_region 4 with (go_at_call 65; refine HC.out.mono ?_; rintro e w' ⟨⟨v, rfl⟩, hk', hg'⟩; have hz' := HZ.out.grown hg' (by simp); have la' := loadK_ky hk'; have hb' : Below w.heap.size w w' := HB.out.trans (grown_below hg' (by simp; omega) (fun b hb => by cases hb; omega)))
  go_wp2_with (refine wpList_store_row rfl 26 (.tmp 5) (.tmp 12) rfl w.heap.size (kyC { k with kind := x, name := s.name }) rfl rfl 26 zkC hz' (by rfl) rfl (kyC_oneX _) ?_)
  try simp only [Exit.inBlock, Exit.then]
  refine bodyPost_ret (results_cell_row rfl _ _ w.heap.size 26 (kyC { k with kind := x, name := s.name }) (0, 0) _ rfl (rowX hz' _) Try.underlying26 rfl (by rfl)) rfl ?_
  exact ⟨rfl, below_rowX hb' (Nat.le_refl _) _⟩
set_option maxRecDepth 100000 in
set_option maxHeartbeats 1600000 in
theorem scWith4 {g gs n c : Nat} {A : Option Addr} (k : Ky) (s : Sp) (x : Int) (w : World) (hk : Bk w g 26 (kyC k)) (hs : Bk w gs 43 (spC s A n c)) (h0 : 0 ≤ s.length) (h1 : s.length < 9223372036854775808) :
    Calls Try.prog 63 #[.int .i64 x, .func (.func 66) #[] #[.pointer (some ⟨gs, 0, none⟩)], .pointer (some ⟨g, 0, none⟩)] w fun e w' => e = .returned (kyV { k with kind := x, number := s.length.toNat }) ∧ Below w.heap.size w w' := by
  have hgl := hk.lt
  have la : ∀ o, (loadK 26 ⟨g, 0, none⟩).run Try.prog (w.alloc o) = .ok (kyV k) (w.alloc o) := fun o => loadK_ky (hk.alloc o)
  have hz : Bk ((w.alloc (.cells zkC 26)).alloc (.cells (kyC { k with kind := x }) 26)) w.heap.size 26 zkC := (Bk.new w _ zkC).alloc _
  have hx : Bk ((w.alloc (.cells zkC 26)).alloc (.cells (kyC { k with kind := x }) 26)) (w.heap.size + 1) 26 (kyC { k with kind := x }) := by simpa using Bk.new (w.alloc (.cells zkC 26)) 26 (kyC { k with kind := x })
  have hb : Below w.heap.size w ((w.alloc (.cells zkC 26)).alloc (.cells (kyC { k with kind := x }) 26)) := ((Below.refl _ w).alloc (Nat.le_refl _) _).alloc (by simp) _
  have hc := scCh4 { k with kind := x } s _ hx ((hs.alloc _).alloc _) h0 h1
  have HC := Lib.hid hc
  have HZ := Lib.hid hz
  have HB := Lib.hid hb
  clear hk hz hx hb hc
  go_enter Try.func63, Try.ntmps63
  go_upto_region 4 with (go_at_call 66; refine HC.out.mono ?_; rintro e w' ⟨⟨v, rfl⟩, hk', hg'⟩; have hz' := HZ.out.grown hg' (by simp); have la' := loadK_ky hk'; have hb' : Below w.heap.size w w' := HB.out.trans (grown_below hg' (by simp; omega) (fun b hb => by cases hb; omega)))
  go_wp2_with (refine wpList_store_row rfl 26 (.tmp 5) (.tmp 12) rfl w.heap.size (kyC { k with kind := x, number := s.length.toNat }) rfl rfl 26 zkC hz' (by rfl) rfl (kyC_oneX _) ?_)
  try simp only [Exit.inBlock, Exit.then]
  refine bodyPost_ret (results_cell_row rfl _ _ w.heap.size 26 (kyC { k with kind := x, number := s.length.toNat }) (0, 0) _ rfl (rowX hz' _) Try.underlying26 rfl (by rfl)) rfl ?_
  exact ⟨rfl, below_rowX hb' (Nat.le_refl _) _⟩
set_option maxRecDepth 100000 in
set_option maxHeartbeats 1600000 in
theorem scWith5 {g gt : Nat} (k : Ky) (t : Tg) (x : Int) (w : World) (hk : Bk w g 26 (kyC k)) (ht : Bk w gt 97 #[.string t.key, .string t.val]) :
    Calls Try.prog 63 #[.int .i64 x, .func (.func 67) #[] #[.pointer (some ⟨gt, 0, none⟩)], .pointer (some ⟨g, 0, none⟩)] w fun e w' => e = .returned (kyV { k with kind := x, name := t.key, value := t.val }) ∧ Below w.heap.size w w' := by
  have hgl := hk.lt
  have la : ∀ o, (loadK 26 ⟨g, 0, none⟩).run Try.prog (w.alloc o) = .ok (kyV k) (w.alloc o) := fun o => loadK_ky (hk.alloc o)
  have hz : Bk ((w.alloc (.cells zkC 26)).alloc (.cells (kyC { k with kind := x }) 26)) w.heap.size 26 zkC := (Bk.new w _ zkC).alloc _
  have hx : Bk ((w.alloc (.cells zkC 26)).alloc (.cells (kyC { k with kind := x }) 26)) (w.heap.size + 1) 26 (kyC { k with kind := x }) := by simpa using Bk.new (w.alloc (.cells zkC 26)) 26 (kyC { k with kind := x })
  have hb : Below w.heap.size w ((w.alloc (.cells zkC 26)).alloc (.cells (kyC { k with kind := x }) 26)) := ((Below.refl _ w).alloc (Nat.le_refl _) _).alloc (by simp) _
  have hc := scCh5 { k with kind := x } t _ hx ((ht.alloc _).alloc _) (by have := ht.lt; omega)
  have HC := Lib.hid hc
  have HZ := Lib.hid hz
  have HB := Lib.hid hb
  clear hk hz hx hb hc
  go_enter Try.func63, Try.ntmps63
  go_upto_region 4 with (go_at_call 67; refine HC.out.mono ?_; rintro e w' ⟨⟨v, rfl⟩, hk', hg'⟩; have hz' := HZ.out.grown hg' (by simp); have la' := loadK_ky hk'; have hb' : Below w.heap.size w w' := HB.out.trans (grown_below hg' (by simp; omega) (fun b hb => by cases hb; omega)))
  go_wp2_with (refine wpList_store_row rfl 26 (.tmp 5) (.tmp 12) rfl w.heap.size (kyC { k with kind := x, name := t.key, value := t.val }) rfl rfl 26 zkC hz' (by rfl) rfl (kyC_oneX _) ?_)
  try simp only [Exit.inBlock, Exit.then]
  refine bodyPost_ret (results_cell_row rfl _ _ w.heap.size 26 (kyC { k with kind := x, name := t.key, value := t.val }) (0, 0) _ rfl (rowX hz' _) Try.underlying26 rfl (by rfl)) rfl ?_
  exact ⟨rfl, below_rowX hb' (Nat.le_refl _) _⟩
end Go.Proofs.Ytlamebbolioljaa

/- The keys of a span: the list. -/
namespace Go.Proofs.Ytlamebbolioljaa
open Go.RowKit
theorem loadKy_shut9 (a : Addr) : loadVar 26 a = loadK 26 a := rfl
attribute [local go_sem ↓] loadKy_shut9

def KeysPost (w : World) (ks : List Ky) (e : Ending) (w' : World) : Prop :=
  ∃ A c, e = .returned (.slice A ks.length c) ∧ Rd w' w'.heap.size A (flatR kyL ks) ∧ Below w.heap.size w w' ∧ ∀ a, A = some a → w.heap.size ≤ a.block
/-- The memory of keys: the span, the key. -/
structure KysM (w0 W : World) (gs gk : Nat) (s : Sp) (A : Option Addr) (n c : Nat) : Prop where
  sp : Bk W gs 43 (spC s A n c)
  ky : Bk W gk 26 (kyC (kyW s))
  bel : Below w0.heap.size w0 W
section
variable {w0 W W' : World} {gs gk : Nat} {s : Sp} {A : Option Addr} {n c : Nat}
theorem KysM.below (h : KysM w0 W gs gk s A n c) (hb : Below W.heap.size W W') : KysM w0 W' gs gk s A n c :=
  ⟨h.sp.below hb h.sp.lt, h.ky.below hb h.ky.lt, h.bel.trans (hb.mono h.bel.size)⟩
theorem KysM.drew (h : KysM w0 W gs gk s A n c) : KysM w0 W.drew gs gk s A n c := ⟨h.sp.drew, h.ky.drew, h.bel.drew⟩
theorem KysM.grown {row : Option Nat} (h : KysM w0 W gs gk s A n c) (hg : W.grownBy W' row) (hs : gs ≤ gk) (hw : w0.heap.size ≤ gk + 1) (hr : ∀ k, row = some k → gk + 1 ≤ k) : KysM w0 W' gs gk s A n c :=
  ⟨h.sp.grown hg (fun e => by have := hr gs e.symm; omega), h.ky.grown hg (fun e => by have := hr gk e.symm; omega), h.bel.trans (grown_below hg h.bel.size (fun k hk => by have := hr k hk; omega))⟩
end
theorem own_below {W W' : World} {base n size : Nat} {e : TypeId} {A : Option Addr} {j c : Nat} {xs : List Value} (h : W.ownsRow base e size (.slice A j c) n xs) (hb : Below W.heap.size W W') : W'.ownsRow base e size (.slice A j c) n xs :=
  h.kept (row := none) ⟨hb.os, hb.tape, hb.output, hb.size, fun k hk _ => hb.block k hk⟩ (by
    cases hv : (Value.slice A j c).ownBlock with
    | none => exact .inl rfl
    | some k => exact .inr fun q => by cases q)
theorem kyinfo : (Try.prog.info? 26).map (fun i => (i.zero, i.size, i.bytes)) = some (some (.agg #[.int .i64 0, .int .u64 0, .int .u64 0, .int .u64 0, .string ⟨#[]⟩, .string ⟨#[]⟩, .string ⟨#[]⟩, .int .u64 0, .int .i64 0]), 9, 96) := by kernel_rfl
/-- append of one key. -/
theorem wpList_appKy (w : World) {ops : Array Oper} {rest : List Oper} {o : Oper} {a : Act} {Q : Exit → Act → World → Prop} (hgd : o.guard = none) (s x : Operand)
    (ho : o.op = .call { callee := .builtin .append, args := #[s, x], argTypes := #[91, 91] })
    (base : Nat) (v : Value) (n : Nat) (xs : List Value) (hs : a.eval s = v) (hown : w.ownsRow base 26 9 v n xs)
    (B : Nat) (A : Option Addr) (c : Nat) (news : List Value) (hx : a.eval x = .slice A 1 c) (hl : news.length = 9) (hr : Rd w B A news) (h1 : ∀ u ∈ news, u.oneCell' = true)
    (hbytes : n ≤ 1048576) (hbase : base ≤ w.heap.size)
    (h : ∀ A' c' w', App base 26 9 w v w' (.slice A' (n + 1) c') (n + 1) (xs ++ news) → wpList Try.prog ops Q rest (a.put o.dst (.slice A' (n + 1) c')) w') :
    wpList Try.prog ops Q (o :: rest) a w := by
  obtain ⟨i0, hi0, hz0, hz1, hz2⟩ := info_parts kyinfo
  refine wpList_app w hgd s x _ ho base 26 i0 _ 9 96 Try.underlying91 hi0 hz0 hz1 hz2 rfl (by omega) v n xs hs hown B A 1 c news hx (by rw [hl]) hr h1 (by simp only [maxLen]; omega) (by omega) hbase ?_
  intro A' c' w' h1 h2 h3 h4
  exact h A' c' w' ((App.refl hown).step h1 h2 h3)
/-- keys' memory and its list so far. -/
def KysO (w0 W : World) (gs gk : Nat) (s : Sp) (A : Option Addr) (n c : Nat) (v : Value) (j : Nat) (ks : List Ky) : Prop :=
  ∃ A' c', v = .slice A' j c' ∧ KysM w0 W gs gk s A n c ∧ W.ownsRow (gk + 1) 26 9 (.slice A' j c') j (flatR kyL ks)
theorem KysO.five {w0 W : World} {gs gk : Nat} {s : Sp} {A : Option Addr} {n c z : Nat} (hz : s.length.toNat = z) (h : KysM w0 W gs gk s A n c) {cs : Array Value}
    (hcs : cs = #[.int .i64 115, .int .u64 s.hi, .int .u64 s.lo, .int .u64 s.id, .string ⟨#[]⟩, .string ⟨#[]⟩, .string ⟨#[]⟩, .int .u64 0, .int .i64 0,
      .int .i64 105, .int .u64 (kyW s).hi, .int .u64 (kyW s).lo, .int .u64 (kyW s).id, .string (kyW s).service, .string (kyW s).name, .string (kyW s).value, .int .u64 (kyW s).number, .int .i64 (kyW s).start,
      .int .i64 111, .int .u64 (kyW s).hi, .int .u64 (kyW s).lo, .int .u64 (kyW s).id, .string (kyW s).service, .string s.name, .string (kyW s).value, .int .u64 (kyW s).number, .int .i64 (kyW s).start,
      .int .i64 100, .int .u64 (kyW s).hi, .int .u64 (kyW s).lo, .int .u64 (kyW s).id, .string (kyW s).service, .string (kyW s).name, .string (kyW s).value, .int .u64 z, .int .i64 (kyW s).start,
      .int .i64 110, .int .u64 0, .int .u64 0, .int .u64 0, .string s.service, .string s.name, .string ⟨#[]⟩, .int .u64 0, .int .i64 0]) :
    KysO w0 (W.alloc (.cells cs 26)) gs gk s A n c (.slice (some ⟨W.heap.size, 0, none⟩) 5 5) 5 (keys5 s) := by
  have hl : cs.toList = flatR kyL (keys5 s) := by
    subst hz
    rw [hcs]
    rfl
  have hs : cs.size = 5 * 9 := by rw [hcs]; rfl
  refine ⟨_, _, rfl, h.below ((Below.refl _ W).alloc (Nat.le_refl _) _), ?_⟩
  have ho := World.ownsRow_lit (base := gk + 1) (e := 26) (size := 9) W cs 5 h.ky.lt (by simp [maxLen]) hs
  rw [hl] at ho
  exact ho
set_option maxRecDepth 100000 in
set_option maxHeartbeats 4000000 in
theorem scKeys {A : Option Addr} {n c B : Nat} (s : Sp) (w : World) (hf : RbT w B A s.tags) (hn : s.tags.length = n) (hB : B ≤ w.heap.size) (h0 : 0 ≤ s.length) (h1 : s.length < 9223372036854775808) (hnl : n ≤ 100) :
    Calls Try.prog 45 #[spV s A n c] w (KeysPost w (keysOf s)) := by
  obtain ⟨gs, hgs⟩ : ∃ gs, w.heap.size = gs := ⟨_, rfl⟩
  have hsp : Bk ((w.alloc (.cells (spC s A n c) 43)).alloc (.cells #[.int .i64 0, .int .u64 s.hi, .int .u64 s.lo, .int .u64 s.id, .string s.service, .string ⟨#[]⟩, .string ⟨#[]⟩, .int .u64 0, .int .i64 s.start] 26)) w.heap.size 43 (spC s A n c) := (Bk.new w _ _).alloc _
  have hky : Bk ((w.alloc (.cells (spC s A n c) 43)).alloc (.cells #[.int .i64 0, .int .u64 s.hi, .int .u64 s.lo, .int .u64 s.id, .string s.service, .string ⟨#[]⟩, .string ⟨#[]⟩, .int .u64 0, .int .i64 s.start] 26)) (w.heap.size + 1) 26 (kyC (kyW s)) := by have h := Bk.new (w.alloc (.cells (spC s A n c) 43)) 26 (kyC (kyW s)); rw [World.size_alloc] at h; exact h
  have hbe : Below w.heap.size w ((w.alloc (.cells (spC s A n c) 43)).alloc (.cells #[.int .i64 0, .int .u64 s.hi, .int .u64 s.lo, .int .u64 s.id, .string s.service, .string ⟨#[]⟩, .string ⟨#[]⟩, .int .u64 0, .int .i64 s.start] 26)) := ((Below.refl _ w).alloc (Nat.le_refl _) _).alloc (by simp) _
  obtain ⟨w1, hw1⟩ : ∃ w1, (w.alloc (.cells (spC s A n c) 43)).alloc (.cells #[.int .i64 0, .int .u64 s.hi, .int .u64 s.lo, .int .u64 s.id, .string s.service, .string ⟨#[]⟩, .string ⟨#[]⟩, .int .u64 0, .int .i64 s.start] 26) = w1 := ⟨_, rfl⟩
  rw [hw1] at hsp hky hbe
  rw [hgs] at hsp hky
  have km0 : KysM w w1 gs (gs + 1) s A n c := ⟨hsp, hky, hbe⟩
  have km := km0.drew
  have CE : Hid (∀ W, KysM w W gs (gs + 1) s A n c → W.cell? ⟨gs, 0, none⟩ = some (.int .u64 s.hi) ∧ W.cell? ⟨gs, 1, none⟩ = some (.int .u64 s.lo) ∧ W.cell? ⟨gs, 2, none⟩ = some (.int .u64 s.id) ∧ W.cell? ⟨gs, 4, none⟩ = some (.string s.service) ∧ W.cell? ⟨gs, 5, none⟩ = some (.string s.name)) := Lib.hid fun W h => ⟨h.sp.cell 0, h.sp.cell 1, h.sp.cell 2, h.sp.cell 4, h.sp.cell 5⟩
  have C10 : Hid (∀ W, KysM w W gs (gs + 1) s A n c → W.cell? ⟨gs, 10, none⟩ = some (.slice A n c)) := Lib.hid fun W h => h.sp.cell 10
  have W2 := Lib.hid fun (W : World) (h : KysM w W gs (gs + 1) s A n c) => scWith2 (kyW s) 105 W h.ky
  have W3 := Lib.hid fun (W : World) (h : KysM w W gs (gs + 1) s A n c) => scWith3 (kyW s) s 111 W h.ky h.sp
  obtain ⟨z, hz⟩ : ∃ z, s.length.toNat = z := ⟨_, rfl⟩
  have W4 : Hid (∀ W, KysM w W gs (gs + 1) s A n c → Calls Try.prog 63 #[.int .i64 100, .func (.func 66) #[] #[.pointer (some ⟨gs, 0, none⟩)], .pointer (some ⟨gs + 1, 0, none⟩)] W fun e w' => e = .returned (kyV { kyW s with kind := 100, number := z }) ∧ Below W.heap.size W w') := Lib.hid fun W h => by rw [← hz]; exact scWith4 (kyW s) s 100 W h.ky h.sp h0 h1
  have HZ := Lib.hid hz
  have HW := Lib.hid hw1
  have HG := Lib.hid hgs
  obtain ⟨t0, t1, t2, t4, t5⟩ := CE.out _ km
  clear hsp hky hbe hw1 hgs km0 hz
  go_enter Try.func45, Try.ntmps45
  go_upto_region 3 with fail
  rw [HW.out, HG.out]
  go_cut [5] from 18 to 36 (fun v W => KysO w W gs (gs + 1) s A n c v 5 (keys5 s))
  case first =>
    go_region_held3 (fun w' => w'.cell? ⟨gs, 0, none⟩ = some (.int .u64 s.hi) ∧ w'.cell? ⟨gs, 1, none⟩ = some (.int .u64 s.lo) ∧ w'.cell? ⟨gs, 2, none⟩ = some (.int .u64 s.id) ∧ w'.cell? ⟨gs, 4, none⟩ = some (.string s.service) ∧ w'.cell? ⟨gs, 5, none⟩ = some (.string s.name)) (go_keep)
      (first
        | (go_at_call_of 63 (Value.int IntKind.i64 105)
           refine (W2.out _ km).mono ?_
           rintro e wn ⟨rfl, hbn⟩
           have km := km.below hbn
           obtain ⟨u0, u1, u2, u4, u5⟩ := CE.out _ km)
        | (go_at_call_of 63 (Value.int IntKind.i64 111)
           refine (W3.out _ km).mono ?_
           rintro e wn ⟨rfl, hbn⟩
           have km := km.below hbn
           obtain ⟨u0, u1, u2, u4, u5⟩ := CE.out _ km)
        | (go_at_call_of 63 (Value.int IntKind.i64 100)
           refine (W4.out _ km).mono ?_
           rintro e wn ⟨rfl, hbn⟩
           have km := km.below hbn
           obtain ⟨u0, u1, u2, u4, u5⟩ := CE.out _ km)
        | fail)
    all_goals
      go_wp2
      go_meet
      exact KysO.five HZ.out km rfl
  case rest =>
    obtain ⟨A1, c1, rfl, km, hown⟩ := hcut
    have hgs2 : w.heap.size = gs := HG.out
    have HF := Lib.hid hf
    have HN := Lib.hid hn
    clear hf hn CE W2 W3 W4 HZ HW HG t0 t1 t2 t4 t5
    have k10 := C10.out _ km
    go_wp2_with fail
    go_loopw [5, 40] (fun v iv_ wr => ∃ j : Nat, j ≤ n ∧ iv_ = .int .i64 j ∧ KysO w wr gs (gs + 1) s A n c v (5 + j) (keys5 s ++ (s.tags.map (kyT s)).take j)) (fun _ i _ => n - (intOf i).toNat)
    case atStart => exact ⟨0, by omega, rfl, A1, c1, rfl, km, by simpa using hown⟩
    case round =>
      obtain ⟨j, hj, rfl, A2, c2, rfl, km2, hown2⟩ := hrel
      by_cases hlt : j < n
      · have hlt' : (j : Int) < (n : Int) := by omega
        obtain ⟨x, hx⟩ : ∃ x, s.tags[j]? = some x := ⟨_, List.getElem?_eq_getElem (by rw [HN.out]; exact hlt)⟩
        obtain ⟨b, o, e', hbb, d1, d2⟩ := RbT.get (Rd.below HF.out (km2.bel.mono hB)) hx
        cases e'
        have HX := Lib.hid hx
        have hc : Calls Try.prog 63 #[.int .i64 103, .func (.func 67) #[] #[.pointer (some ⟨wr.heap.size, 0, none⟩)], .pointer (some ⟨gs + 1, 0, none⟩)] (wr.alloc (.cells #[.string x.key, .string x.val] 97)) fun e w' => e = .returned (kyV (kyT s x)) ∧ Below (wr.alloc (.cells #[.string x.key, .string x.val] 97)).heap.size (wr.alloc (.cells #[.string x.key, .string x.val] 97)) w' := scWith5 (kyW s) x 103 (wr.alloc (.cells #[.string x.key, .string x.val] 97)) (km2.ky.alloc _) (Bk.new wr _ _)
        have HC := Lib.hid hc
        clear hx hc
        go_wp2_with fail
        refine HC.out.mono ?_
        rintro e w5 ⟨rfl, hb5⟩
        have hbb5 : Below wr.heap.size wr w5 := ((Below.refl _ wr).alloc (Nat.le_refl _) _).trans (hb5.mono (by simp))
        have km5 := km2.below hbb5
        have own6 := (own_below hown2 hbb5).alloc (.cells (kyC (kyT s x)) 26)
        have hsz : gs + 1 + 1 ≤ w5.heap.size := km5.ky.lt
        have km6 := km5.below ((Below.refl _ w5).alloc (Nat.le_refl _) (.cells (kyC (kyT s x)) 26))
        clear hb5 hbb5 HC d1 d2 km2 hown2 km k10 hown
        go_wp2_with (at_builtin; go_loud (refine wpList_appKy _ rfl (.tmp 44) (.tmp 48) rfl (gs + 1 + 1) _ (5 + j) _ rfl own6 (w5.heap.size + 1) (some ⟨w5.heap.size, 0, none⟩) 1 (kyL (kyT s x)) rfl rfl (Rd.lit w5 (kyC (kyT s x)) _) (kyL_one _) (by omega) (by simp; omega) ?_))
        intro A6 c6 w6 happ
        have km7 := km6.grown happ.grown (by omega) (by omega) (fun k hk => (own6.lt k hk).1)
        have hx2 : (s.tags.map (kyT s))[j]? = some (kyT s x) := by rw [List.getElem?_map, HX.out]; rfl
        have e1 : flatR kyL (keys5 s ++ (s.tags.map (kyT s)).take j) ++ kyL (kyT s x) = flatR kyL (keys5 s ++ (s.tags.map (kyT s)).take (j + 1)) := by
          rw [take_snoc hx2, ← List.append_assoc, flatR_append (keys5 s ++ _)]
          simp [flatR]
        have own7 := happ.own
        rw [e1] at own7
        go_wp2
        exact ⟨⟨j + 1, by omega, by simp, A6, c6, rfl, km7, own7⟩, by simp only [intOf]; omega⟩
      · have hjn : j = n := by omega
        subst hjn
        go_wp2
        go_ret
        have hl : (keysOf s).length = 5 + j := by simp [keysOf, keys5, HN.out]; omega
        have ht : (s.tags.map (kyT s)).take j = s.tags.map (kyT s) := List.take_of_length_le (by simp [HN.out])
        rw [ht] at hown2
        refine ⟨A2, c2, by rw [hl]; rfl, Rd.of_own hown2, km2.bel, fun a ha => ?_⟩
        subst ha
        have := (hown2.lt a.block rfl).1
        omega
end Go.Proofs.Ytlamebbolioljaa

/- A set of strings (map[string]bool) that grows: one insert, one lookup. -/
namespace Go.Proofs.Ytlamebbolioljaa
open Go.RowKit Go.MapKept

def setE (ks : List ByteArray) : List MapEntry := ks.mapIdx fun i k => ⟨.string k, .bool true, i⟩
theorem setE_length (ks : List ByteArray) : (setE ks).length = ks.length := by simp [setE]
theorem setE_snoc (ks : List ByteArray) (k : ByteArray) : setE (ks ++ [k]) = setE ks ++ [⟨.string k, .bool true, ks.length⟩] := by simp [setE, List.mapIdx_append]
theorem setE_mem {ks : List ByteArray} {e : MapEntry} (h : e ∈ setE ks) : ∃ k ∈ ks, e.key = .string k ∧ e.val = .bool true := by
  rw [setE, List.mem_mapIdx] at h
  obtain ⟨i, hi, rfl⟩ := h
  exact ⟨_, List.getElem_mem hi, rfl, rfl⟩
theorem setE_of_mem {ks : List ByteArray} {k : ByteArray} (h : k ∈ ks) : ∃ e ∈ setE ks, e.key = .string k := by
  obtain ⟨i, hi, rfl⟩ := List.getElem_of_mem h
  exact ⟨_, List.mem_mapIdx.2 ⟨i, hi, rfl⟩, rfl⟩
theorem find_set (ks : List ByteArray) (k : ByteArray) : (k ∉ ks ∧ Instr.findNow .string (.string k) (setE ks) 0 = some none) ∨ (k ∈ ks ∧ ∃ i, Instr.findNow .string (.string k) (setE ks) 0 = some (some (i, .bool true))) := by
  rcases findNow_spec (d := .string) (k := .string k) trivial (setE ks) 0 (fun x hx => by obtain ⟨y, -, h, -⟩ := setE_mem hx; rw [h]; trivial) with ⟨h1, h2⟩ | ⟨j, e, h1, h2, h3⟩
  · refine .inl ⟨fun hk => ?_, h1⟩
    obtain ⟨e, he, hq⟩ := setE_of_mem hk
    exact h2 e he hq
  · have he := List.mem_of_getElem? h2
    obtain ⟨y, hy, hq, hv⟩ := setE_mem he
    rw [h3] at hq
    have hky : k = y := by cases hq; rfl
    subst hky
    rw [hv] at h1
    exact .inr ⟨hy, 0 + j, h1⟩
/-- Block b is just the set of these strings. -/
def MpS (w : World) (b : Nat) (ks : List ByteArray) : Prop := Mp w b (setE ks).toArray
section
variable {w w' : World} {b : Nat} {ks : List ByteArray}
theorem MpS.lt (h : MpS w b ks) : b < w.heap.size := Mp.lt h
theorem MpS.new (w : World) : MpS (w.alloc (.map #[] 0)) w.heap.size [] := Mp.new w
theorem MpS.alloc (h : MpS w b ks) (o : Obj) : MpS (w.alloc o) b ks := Mp.alloc h o
theorem MpS.below {B : Nat} (h : MpS w b ks) (hb : Below B w w') (hg : b < B) : MpS w' b ks := Mp.below h hb hg
theorem MpS.bS (h : MpS w b ks) (hb : Below w.heap.size w w') : MpS w' b ks := Mp.bS h hb
theorem MpS.drew (h : MpS w b ks) : MpS w.drew b ks := h
theorem MpS.grown {k : Option Nat} (h : MpS w b ks) (hg : w.grownBy w' k) (hne : some b ≠ k) : MpS w' b ks := (hg.block b h.lt hne).trans h
end
theorem isKey_str (s : ByteArray) : IsKey .string (.string s) := by simp [IsKey]
def hasS (ks : List ByteArray) (k : ByteArray) : Bool := ks.any (fun y => y == k)
theorem hasS_iff {ks : List ByteArray} {k : ByteArray} : hasS ks k = true ↔ k ∈ ks := by
  simp only [hasS, List.any_eq_true, bytes_beq]
  exact ⟨fun ⟨x, h, e⟩ => e ▸ h, fun h => ⟨k, h, rfl⟩⟩
theorem hasS_not {ks : List ByteArray} {k : ByteArray} : hasS ks k = false ↔ k ∉ ks := by
  rw [← hasS_iff]
  simp
/-- Is it in the set? -/
theorem run_lookS {P : Program} {w : World} {t k e : TypeId} (ht : P.underlying t = some (.map k e)) (hk : P.underlying k = some .string) (hz : (zeroValue e).run P w = .ok (.bool false) w) {b : Nat} {ks : List ByteArray} (hb : MpS w b ks) (key : ByteArray) :
    (Instr.lookup t (.map (some b)) (.string key) false).run P w = .ok (.bool (hasS ks key)) w := by
  rcases find_set ks key with ⟨hm, hf⟩ | ⟨hm, i, hf⟩
  · simp [Instr.lookup, run_underlying ht, MapKept.run_getObj_map (show w.heap[b]? = _ from hb), MapKept.run_checkKey hk (isKey_str key), MapKept.run_findKey hk hf, hz, Result.andThen, hasS_not.2 hm]
  · simp [Instr.lookup, run_underlying ht, MapKept.run_getObj_map (show w.heap[b]? = _ from hb), MapKept.run_checkKey hk (isKey_str key), MapKept.run_findKey hk hf, Result.andThen, hasS_iff.2 hm]
theorem run_insS {P : Program} {w : World} {t k e : TypeId} (ht : P.underlying t = some (.map k e)) (hk : P.underlying k = some .string) {b : Nat} {ks : List ByteArray} (hb : MpS w b ks) (key : ByteArray) (hn : key ∉ ks) :
    (Instr.mapUpdate t (.map (some b)) (.string key) (.bool true)).run P w = .ok () { w with heap := w.heap.setIfInBounds b (.map (setE (ks ++ [key])).toArray (setE (ks ++ [key])).length) } := by
  rcases find_set ks key with ⟨-, hf⟩ | ⟨hm, -⟩
  · simp [Instr.mapUpdate, run_underlying ht, MapKept.run_getObj_map (show w.heap[b]? = _ from hb), MapKept.run_checkKey hk (isKey_str key), MapKept.run_findKey hk hf, MapKept.run_setObj_map _ (show w.heap[b]? = _ from hb), Result.andThen, setE_snoc, setE_length]
  · exact absurd hm hn
theorem wpList_insS {P : Program} (w : World) {ops : Array Oper} {rest : List Oper} {o : Oper} {a : Act} {Q : Exit → Act → World → Prop}
    (hg : o.guard = none) (m x v : Operand) (t : TypeId) (hop : o.op = Op.insert t m x v)
    (k e : TypeId) (ht : P.underlying t = some (.map k e)) (hk : P.underlying k = some .string) (b : Nat) (ks : List ByteArray)
    (hm : a.eval m = .map (some b)) (hb : MpS w b ks) (key : ByteArray) (hx : a.eval x = .string key) (hv : a.eval v = .bool true) (hn : key ∉ ks)
    (hK : ∀ w', MpS w' b (ks ++ [key]) → w.grownBy w' (some b) → w'.heap.size = w.heap.size → wpList P ops Q rest (a.put o.dst undef) w') :
    wpList P ops Q (o :: rest) a w := by
  refine wpList_plain hg fun K' hK' => ?_
  have hrun := run_insS ht hk hb key hn
  unfold Oper.wp
  simp [execOp, hop, hm, hx, hv, hrun, Result.andThen]
  refine hK' _ _ (hK _ ?_ ⟨rfl, rfl, rfl, by simp, fun i _ hne => ?_⟩ (by simp))
  · have := hb.lt
    show (w.heap.setIfInBounds b _)[b]? = _
    simp [this]
  · show (w.heap.setIfInBounds b _)[i]? = _
    rw [Array.getElem?_setIfInBounds, if_neg (fun e => hne (by rw [e]))]
theorem wpList_updS {P : Program} (w : World) {ops : Array Oper} {rest : List Oper} {o : Oper} {a : Act} {Q : Exit → Act → World → Prop}
    (hg : o.guard = none) (m x v : Operand) (t : TypeId) (hop : o.op = Op.mapUpdate t m x v)
    (k e : TypeId) (ht : P.underlying t = some (.map k e)) (hk : P.underlying k = some .string) (b : Nat) (ks : List ByteArray)
    (hm : a.eval m = .map (some b)) (hb : MpS w b ks) (key : ByteArray) (hx : a.eval x = .string key) (hv : a.eval v = .bool true) (hn : key ∉ ks)
    (hK : ∀ w', MpS w' b (ks ++ [key]) → w.grownBy w' (some b) → w'.heap.size = w.heap.size → wpList P ops Q rest (a.put o.dst undef) w') :
    wpList P ops Q (o :: rest) a w := by
  refine wpList_plain hg fun K' hK' => ?_
  have hrun := run_insS ht hk hb key hn
  unfold Oper.wp
  simp [execOp, hop, hm, hx, hv, hrun, Result.andThen]
  refine hK' _ _ (hK _ ?_ ⟨rfl, rfl, rfl, by simp, fun i _ hne => ?_⟩ (by simp))
  · have := hb.lt
    show (w.heap.setIfInBounds b _)[b]? = _
    simp [this]
  · show (w.heap.setIfInBounds b _)[i]? = _
    rw [Array.getElem?_setIfInBounds, if_neg (fun e => hne (by rw [e]))]
end Go.Proofs.Ytlamebbolioljaa

/- Writes as they lie in memory: their bytes elsewhere; a row of them that grows. -/
namespace Go.Proofs.Ytlamebbolioljaa
open Go.RowKit

structure Wr where
  kind : Int
  key : List Int
  val : List Int
deriving DecidableEq

def BytW (x : Wr) : Prop := Byt x.key ∧ Byt x.val

/-- The writes lie from A on, three cells each. -/
def RbW (w : World) (B : Nat) (A : Option Addr) (ws : List Wr) : Prop :=
  ∃ hs : List Value, Rd w B A hs ∧ ∀ (i : Nat) (x : Wr), ws[i]? = some x → ∃ A1 c1 A2 c2, hs[i * 3]? = some (Value.int .i64 x.kind) ∧ hs[i * 3 + 1]? = some (Value.slice A1 x.key.length c1) ∧ hs[i * 3 + 2]? = some (Value.slice A2 x.val.length c2) ∧
    x.key.length ≤ c1 ∧ Rb w B A1 x.key ∧ x.val.length ≤ c2 ∧ Rb w B A2 x.val ∧ (A1 = none → c1 = 0) ∧ (A2 = none → c2 = 0)
theorem RbW.get {w : World} {B : Nat} {A : Option Addr} {ws : List Wr} (h : RbW w B A ws) {i : Nat} {x : Wr} (hi : ws[i]? = some x) :
    ∃ b o A1 c1 A2 c2, A = some ⟨b, o, none⟩ ∧ b < B ∧ w.cell? ⟨b, o + i * 3, none⟩ = some (.int .i64 x.kind) ∧ w.cell? ⟨b, o + i * 3 + 1, none⟩ = some (.slice A1 x.key.length c1) ∧ w.cell? ⟨b, o + i * 3 + 2, none⟩ = some (.slice A2 x.val.length c2) ∧
      x.key.length ≤ c1 ∧ Rb w B A1 x.key ∧ x.val.length ≤ c2 ∧ Rb w B A2 x.val ∧ (A1 = none → c1 = 0) ∧ (A2 = none → c2 = 0) := by
  obtain ⟨hs, hr, hh⟩ := h
  obtain ⟨A1, c1, A2, c2, h1, h2, h3, h4, h5, h6, h7⟩ := hh i x hi
  obtain ⟨b, o, e, hb, hc⟩ := hr.get h1
  subst e
  obtain ⟨b', o', e', _, hc'⟩ := hr.get h2
  obtain ⟨b'', o'', e'', _, hc''⟩ := hr.get h3
  cases e'
  cases e''
  exact ⟨b, o, A1, c1, A2, c2, rfl, hb, hc, hc', hc'', h4, h5, h6, h7⟩
theorem RbW.keep {w w' : World} {B : Nat} {A : Option Addr} {ws : List Wr} (h : RbW w B A ws) (hk : ∀ p : Addr, p.block < B → w'.cell? p = w.cell? p) : RbW w' B A ws := by
  obtain ⟨hs, hr, hh⟩ := h
  refine ⟨hs, hr.keep hk, fun i x hi => ?_⟩
  obtain ⟨A1, c1, A2, c2, h1, h2, h3, h4, h5, h6, h7⟩ := hh i x hi
  exact ⟨A1, c1, A2, c2, h1, h2, h3, h4, h5.keep hk, h6, h7.1.keep hk, h7.2⟩
theorem RbW.below {w w' : World} {B : Nat} {A : Option Addr} {ws : List Wr} (h : RbW w B A ws) (hb : Below B w w') : RbW w' B A ws := h.keep fun _ hp => hb.cell hp
theorem RbW.more {w : World} {B B' : Nat} {A : Option Addr} {ws : List Wr} (h : RbW w B A ws) (hB : B ≤ B') : RbW w B' A ws := by
  obtain ⟨hs, hr, hh⟩ := h
  refine ⟨hs, hr.more hB, fun i x hi => ?_⟩
  obtain ⟨A1, c1, A2, c2, h1, h2, h3, h4, h5, h6, h7⟩ := hh i x hi
  exact ⟨A1, c1, A2, c2, h1, h2, h3, h4, h5.more hB, h6, h7.1.more hB, h7.2⟩
theorem RbW.belowS {w w' : World} {A : Option Addr} {ws : List Wr} (h : RbW w w.heap.size A ws) (hb : Below w.heap.size w w') : RbW w' w'.heap.size A ws := (h.below hb).more hb.size
theorem nil_of {w : World} {B : Nat} {A : Option Addr} {zs : List Int} (h : Rb w B A zs) (e : A = none) : zs = [] := by
  by_cases hz : zs = []
  · exact hz
  · obtain ⟨b, o, e', _⟩ := h (by simpa [bv] using hz)
    rw [e] at e'
    cases e'
theorem Rb.beside {w w' : World} {row : Option Nat} {A : Option Addr} {zs : List Int} (h : Rb w w.heap.size A zs) (hg : w.grownBy w' row) (hs : zs ≠ [] → ∀ a, A = some a → row ≠ some a.block) : Rb w' w'.heap.size A zs := fun hn => by
  obtain ⟨b, o, rfl, hb, hc⟩ := h hn
  exact ⟨b, o, rfl, Nat.lt_of_lt_of_le hb hg.size, fun j u hu => (World.cell?_of_block (a := ⟨b, o + j, none⟩) (hg.block b hb (fun e => hs (by simpa [bv] using hn) _ rfl e.symm))).trans (hc j u hu)⟩
theorem far_app {base : Nat} {e : TypeId} {size n : Nat} {w w' : World} {v v' : Value} {xs : List Value} {A : Option Addr} {zs : List Int} (k : App base e size w v w' v' n xs) (h : Rb w w.heap.size A zs) (hs : zs ≠ [] → ∀ a, A = some a → v.ownBlock ≠ some a.block) :
    zs ≠ [] → ∀ a, A = some a → v'.ownBlock ≠ some a.block := fun hz a ha e => by
  rcases k.block with hb | ⟨q, hq, hl⟩
  · exact hs hz a ha (hb.symm.trans e)
  · rw [hq] at e
    cases e
    obtain ⟨b, o, e2, hb, _⟩ := h (by simpa [bv] using hz)
    rw [ha] at e2
    cases e2
    simp at hl
    omega
/-- The three cells of a write whose bytes lie below B, from block lo on, and not in block r. -/
def WrAt (w : World) (lo B : Nat) (r : Option Nat) (hs : List Value) (i : Nat) (x : Wr) : Prop :=
  ∃ A1 c1 A2 c2, hs[i * 3]? = some (Value.int .i64 x.kind) ∧ hs[i * 3 + 1]? = some (Value.slice A1 x.key.length c1) ∧ hs[i * 3 + 2]? = some (Value.slice A2 x.val.length c2) ∧
    x.key.length ≤ c1 ∧ Rb w B A1 x.key ∧ x.val.length ≤ c2 ∧ Rb w B A2 x.val ∧ (x.key ≠ [] → ∀ a, A1 = some a → r ≠ some a.block) ∧ (x.val ≠ [] → ∀ a, A2 = some a → r ≠ some a.block) ∧ (x.key ≠ [] → ∀ a, A1 = some a → lo ≤ a.block) ∧ (x.val ≠ [] → ∀ a, A2 = some a → lo ≤ a.block) ∧ (A1 = none → c1 = 0) ∧ (A2 = none → c2 = 0)
theorem WrAt.beside {w w' : World} {lo : Nat} {r row : Option Nat} {hs : List Value} {i : Nat} {x : Wr} (h : WrAt w lo w.heap.size r hs i x) (hg : w.grownBy w' row) (hr : ∀ k, row = some k → k < lo) : WrAt w' lo w'.heap.size r hs i x := by
  obtain ⟨A1, c1, A2, c2, h1, h2, h3, h4, h5, h6, h7, h8, h9, h10, h11, h12⟩ := h
  exact ⟨A1, c1, A2, c2, h1, h2, h3, h4, h5.beside hg (fun hz a ha e => by have := hr _ e; have := h10 hz a ha; omega), h6, h7.beside hg (fun hz a ha e => by have := hr _ e; have := h11 hz a ha; omega), h8, h9, h10, h11, h12⟩
theorem WrAt.app {base lo : Nat} {e : TypeId} {size n i : Nat} {w w' : World} {v v' : Value} {xs hs more : List Value} {x : Wr} (h : WrAt w lo w.heap.size v.ownBlock hs i x) (k : App base e size w v w' v' n xs) : WrAt w' lo w'.heap.size v'.ownBlock (hs ++ more) i x := by
  obtain ⟨A1, c1, A2, c2, h1, h2, h3, h4, h5, h6, h7, h8, h9, h10, h11, h12⟩ := h
  have lt : ∀ {j : Nat} {u : Value}, hs[j]? = some u → (hs ++ more)[j]? = some u := fun {j u} hj => by
    rw [List.getElem?_append_left (List.getElem?_eq_some_iff.1 hj).1]; exact hj
  exact ⟨A1, c1, A2, c2, lt h1, lt h2, lt h3, h4, h5.beside k.grown h8, h6, h7.beside k.grown h9, far_app k h5 h8, far_app k h7 h9, h10, h11, h12⟩
/-- A row of writes that grows: its cells, and bytes that lie elsewhere, from block lo on. -/
structure WsM (e : TypeId) (W : World) (lo : Nat) (A : Option Addr) (j c : Nat) (acc : List Wr) (hs : List Value) : Prop where
  own : W.ownsRow lo e 3 (.slice A j c) j hs
  ats : ∀ (i : Nat) (x : Wr), acc[i]? = some x → WrAt W lo W.heap.size (Value.slice A j c).ownBlock hs i x
  len : acc.length = j
  hlo : lo ≤ W.heap.size
section
variable {e : TypeId} {W W' : World} {lo : Nat} {A : Option Addr} {j c : Nat} {acc : List Wr} {hs : List Value}
theorem WsM.nil (e : TypeId) (W : World) {lo : Nat} (h : lo ≤ W.heap.size) : WsM e W lo none 0 0 [] [] := ⟨World.ownsRow_nil _ _ _ _, fun i x h => by simp at h, rfl, h⟩
theorem WsM.beside {row : Option Nat} (h : WsM e W lo A j c acc hs) (hg : W.grownBy W' row) (hr : ∀ k, row = some k → k < lo) : WsM e W' lo A j c acc hs :=
  ⟨h.own.kept hg (by
    cases hv : (Value.slice A j c).ownBlock with
    | none => exact .inl rfl
    | some k => exact .inr fun q => by have := hr k q.symm; have := (h.own.lt k hv).1; omega), fun i x hx => (h.ats i x hx).beside hg hr, h.len, Nat.le_trans h.hlo hg.size⟩
theorem WsM.below (h : WsM e W lo A j c acc hs) (hb : Below W.heap.size W W') : WsM e W' lo A j c acc hs :=
  h.beside (row := none) ⟨hb.os, hb.tape, hb.output, hb.size, fun k hk _ => hb.block k hk⟩ (fun _ h => by cases h)
theorem WsM.rbw (h : WsM e W lo A j c acc hs) : RbW W W.heap.size A acc :=
  ⟨hs, Rd.of_own h.own, fun i x hx => by
    obtain ⟨A1, c1, A2, c2, h1, h2, h3, h4, h5, h6, h7, h8, h9, h10, h11, h12⟩ := h.ats i x hx
    exact ⟨A1, c1, A2, c2, h1, h2, h3, h4, h5, h6, h7, h12⟩⟩
theorem WsM.push {A1 A2 : Option Addr} {c1 c2 : Nat} {x : Wr} (h : WsM e W lo A j c acc hs) {A' : Option Addr} {c' : Nat}
    (k : App lo e 3 W (.slice A j c) W' (.slice A' (j + 1) c') (j + 1) (hs ++ [.int .i64 x.kind, .slice A1 x.key.length c1, .slice A2 x.val.length c2]))
    (r1 : Rb W W.heap.size A1 x.key) (l1 : x.key.length ≤ c1) (r2 : Rb W W.heap.size A2 x.val) (l2 : x.val.length ≤ c2)
    (b1 : x.key ≠ [] → ∀ a, A1 = some a → lo ≤ a.block ∧ (Value.slice A j c).ownBlock ≠ some a.block) (b2 : x.val ≠ [] → ∀ a, A2 = some a → lo ≤ a.block ∧ (Value.slice A j c).ownBlock ≠ some a.block)
    (z1 : A1 = none → c1 = 0) (z2 : A2 = none → c2 = 0) :
    WsM e W' lo A' (j + 1) c' (acc ++ [x]) (hs ++ [.int .i64 x.kind, .slice A1 x.key.length c1, .slice A2 x.val.length c2]) := by
  have hg := k.grown
  have hl : hs.length = j * 3 := h.own.1
  refine ⟨k.own, fun i y hy => ?_, by simp [h.len], Nat.le_trans h.hlo hg.size⟩
  by_cases hi : i < acc.length
  · rw [List.getElem?_append_left hi] at hy
    exact (h.ats i y hy).app k
  · have hij : i = j := by
      have := (List.getElem?_eq_some_iff.1 hy).1
      simp at this
      have := h.len
      omega
    subst hij
    rw [List.getElem?_append_right (by omega)] at hy
    have hy2 : y = x := by
      have : i - acc.length = 0 := by have := h.len; omega
      rw [this] at hy
      simpa using hy.symm
    subst hy2
    exact ⟨A1, c1, A2, c2, by rw [List.getElem?_append_right (by omega)]; simp [hl], by rw [List.getElem?_append_right (by omega)]; simp [hl], by rw [List.getElem?_append_right (by omega)]; simp [hl],
      l1, r1.beside hg (fun z a ha => (b1 z a ha).2), l2, r2.beside hg (fun z a ha => (b2 z a ha).2), far_app k r1 (fun z a ha => (b1 z a ha).2), far_app k r2 (fun z a ha => (b2 z a ha).2), fun z a ha => (b1 z a ha).1, fun z a ha => (b2 z a ha).1, z1, z2⟩
end
end Go.Proofs.Ytlamebbolioljaa

/- A row of writes that grows, their bytes below block u or from block lo on (Wrs, with u). -/
namespace Go.Proofs.Ytlamebbolioljaa
open Go.RowKit
/-- The three cells of a write whose bytes lie below B, below block u or from block lo on, and not in block r. -/
def WrAtU (w : World) (u lo B : Nat) (r : Option Nat) (hs : List Value) (i : Nat) (x : Wr) : Prop :=
  ∃ A1 c1 A2 c2, hs[i * 3]? = some (Value.int .i64 x.kind) ∧ hs[i * 3 + 1]? = some (Value.slice A1 x.key.length c1) ∧ hs[i * 3 + 2]? = some (Value.slice A2 x.val.length c2) ∧
    x.key.length ≤ c1 ∧ Rb w B A1 x.key ∧ x.val.length ≤ c2 ∧ Rb w B A2 x.val ∧ (x.key ≠ [] → ∀ a, A1 = some a → r ≠ some a.block) ∧ (x.val ≠ [] → ∀ a, A2 = some a → r ≠ some a.block) ∧ (x.key ≠ [] → ∀ a, A1 = some a → a.block < u ∨ lo ≤ a.block) ∧ (x.val ≠ [] → ∀ a, A2 = some a → a.block < u ∨ lo ≤ a.block) ∧ (A1 = none → c1 = 0) ∧ (A2 = none → c2 = 0)
theorem WrAtU.beside {w w' : World} {u lo : Nat} {r row : Option Nat} {hs : List Value} {i : Nat} {x : Wr} (h : WrAtU w u lo w.heap.size r hs i x) (hg : w.grownBy w' row) (hr : ∀ k, row = some k → u ≤ k ∧ k < lo) : WrAtU w' u lo w'.heap.size r hs i x := by
  obtain ⟨A1, c1, A2, c2, h1, h2, h3, h4, h5, h6, h7, h8, h9, h10, h11, h12⟩ := h
  exact ⟨A1, c1, A2, c2, h1, h2, h3, h4, h5.beside hg (fun hz a ha e => by have := hr _ e; have := h10 hz a ha; omega), h6, h7.beside hg (fun hz a ha e => by have := hr _ e; have := h11 hz a ha; omega), h8, h9, h10, h11, h12⟩
theorem WrAtU.app {base u lo : Nat} {e : TypeId} {size n i : Nat} {w w' : World} {v v' : Value} {xs hs more : List Value} {x : Wr} (h : WrAtU w u lo w.heap.size v.ownBlock hs i x) (k : App base e size w v w' v' n xs) : WrAtU w' u lo w'.heap.size v'.ownBlock (hs ++ more) i x := by
  obtain ⟨A1, c1, A2, c2, h1, h2, h3, h4, h5, h6, h7, h8, h9, h10, h11, h12⟩ := h
  have lt : ∀ {j : Nat} {v : Value}, hs[j]? = some v → (hs ++ more)[j]? = some v := fun {j v} hj => by
    rw [List.getElem?_append_left (List.getElem?_eq_some_iff.1 hj).1]; exact hj
  exact ⟨A1, c1, A2, c2, lt h1, lt h2, lt h3, h4, h5.beside k.grown h8, h6, h7.beside k.grown h9, far_app k h5 h8, far_app k h7 h9, h10, h11, h12⟩
/-- A row of writes that grows: its cells, and bytes that lie elsewhere, below u or from block lo on. -/
structure WsU (e : TypeId) (W : World) (u lo : Nat) (A : Option Addr) (j c : Nat) (acc : List Wr) (hs : List Value) : Prop where
  own : W.ownsRow lo e 3 (.slice A j c) j hs
  ats : ∀ (i : Nat) (x : Wr), acc[i]? = some x → WrAtU W u lo W.heap.size (Value.slice A j c).ownBlock hs i x
  len : acc.length = j
  hlo : lo ≤ W.heap.size
section
variable {e : TypeId} {W W' : World} {u lo : Nat} {A : Option Addr} {j c : Nat} {acc : List Wr} {hs : List Value}
theorem WsU.nil (e : TypeId) (W : World) {u lo : Nat} (h : lo ≤ W.heap.size) : WsU e W u lo none 0 0 [] [] := ⟨World.ownsRow_nil _ _ _ _, fun i x h => by simp at h, rfl, h⟩
theorem WsU.beside {row : Option Nat} (h : WsU e W u lo A j c acc hs) (hg : W.grownBy W' row) (hr : ∀ k, row = some k → u ≤ k ∧ k < lo) : WsU e W' u lo A j c acc hs :=
  ⟨h.own.kept hg (by
    cases hv : (Value.slice A j c).ownBlock with
    | none => exact .inl rfl
    | some k => exact .inr fun q => by have := (hr k q.symm).2; have := (h.own.lt k hv).1; omega), fun i x hx => (h.ats i x hx).beside hg hr, h.len, Nat.le_trans h.hlo hg.size⟩
theorem WsU.below (h : WsU e W u lo A j c acc hs) (hb : Below W.heap.size W W') : WsU e W' u lo A j c acc hs :=
  h.beside (row := none) ⟨hb.os, hb.tape, hb.output, hb.size, fun k hk _ => hb.block k hk⟩ (fun _ h => by cases h)
theorem WsU.rbw (h : WsU e W u lo A j c acc hs) : RbW W W.heap.size A acc :=
  ⟨hs, Rd.of_own h.own, fun i x hx => by
    obtain ⟨A1, c1, A2, c2, h1, h2, h3, h4, h5, h6, h7, h8, h9, h10, h11, h12⟩ := h.ats i x hx
    exact ⟨A1, c1, A2, c2, h1, h2, h3, h4, h5, h6, h7, h12⟩⟩
theorem WsU.push {A1 A2 : Option Addr} {c1 c2 : Nat} {x : Wr} (h : WsU e W u lo A j c acc hs) {A' : Option Addr} {c' : Nat}
    (k : App lo e 3 W (.slice A j c) W' (.slice A' (j + 1) c') (j + 1) (hs ++ [.int .i64 x.kind, .slice A1 x.key.length c1, .slice A2 x.val.length c2]))
    (r1 : Rb W W.heap.size A1 x.key) (l1 : x.key.length ≤ c1) (r2 : Rb W W.heap.size A2 x.val) (l2 : x.val.length ≤ c2)
    (b1 : x.key ≠ [] → ∀ a, A1 = some a → (a.block < u ∨ lo ≤ a.block) ∧ (Value.slice A j c).ownBlock ≠ some a.block) (b2 : x.val ≠ [] → ∀ a, A2 = some a → (a.block < u ∨ lo ≤ a.block) ∧ (Value.slice A j c).ownBlock ≠ some a.block)
    (z1 : A1 = none → c1 = 0) (z2 : A2 = none → c2 = 0) :
    WsU e W' u lo A' (j + 1) c' (acc ++ [x]) (hs ++ [.int .i64 x.kind, .slice A1 x.key.length c1, .slice A2 x.val.length c2]) := by
  have hg := k.grown
  have hl : hs.length = j * 3 := h.own.1
  refine ⟨k.own, fun i y hy => ?_, by simp [h.len], Nat.le_trans h.hlo hg.size⟩
  by_cases hi : i < acc.length
  · rw [List.getElem?_append_left hi] at hy
    exact (h.ats i y hy).app k
  · have hij : i = j := by
      have := (List.getElem?_eq_some_iff.1 hy).1
      simp at this
      have := h.len
      omega
    subst hij
    rw [List.getElem?_append_right (by omega)] at hy
    have hy2 : y = x := by
      have : i - acc.length = 0 := by have := h.len; omega
      rw [this] at hy
      simpa using hy.symm
    subst hy2
    exact ⟨A1, c1, A2, c2, by rw [List.getElem?_append_right (by omega)]; simp [hl], by rw [List.getElem?_append_right (by omega)]; simp [hl], by rw [List.getElem?_append_right (by omega)]; simp [hl],
      l1, r1.beside hg (fun z a ha => (b1 z a ha).2), l2, r2.beside hg (fun z a ha => (b2 z a ha).2), far_app k r1 (fun z a ha => (b1 z a ha).2), far_app k r2 (fun z a ha => (b2 z a ha).2), fun z a ha => (b1 z a ha).1, fun z a ha => (b2 z a ha).1, z1, z2⟩
end
end Go.Proofs.Ytlamebbolioljaa

/- put of schema.Writes: a write, if its key is new. -/
namespace Go.Proofs.Ytlamebbolioljaa
open Go.RowKit
theorem loadKy_shutZ (a : Addr) : loadVar 26 a = loadK 26 a := rfl
attribute [local go_sem ↓] loadKy_shutZ

theorem wrinfo : (Try.prog.info? 48).map (fun i => (i.zero, i.size, i.bytes)) = some (some (.agg #[.int .i64 0, .slice none 0 0, .slice none 0 0]), 3, 56) := by kernel_rfl
/-- append of one write. -/
theorem wpList_appW (w : World) {ops : Array Oper} {rest : List Oper} {o : Oper} {a : Act} {Q : Exit → Act → World → Prop} (hgd : o.guard = none) (s x : Operand)
    (ho : o.op = .call { callee := .builtin .append, args := #[s, x], argTypes := #[38, 38] })
    (base : Nat) (v : Value) (n : Nat) (xs : List Value) (hs : a.eval s = v) (hown : w.ownsRow base 48 3 v n xs)
    (B : Nat) (A : Option Addr) (c : Nat) (news : List Value) (hx : a.eval x = .slice A 1 c) (hl : news.length = 3) (hr : Rd w B A news) (h1 : ∀ u ∈ news, u.oneCell' = true)
    (hbytes : n ≤ 1048576) (hbase : base ≤ w.heap.size)
    (h : ∀ A' c' w', App base 48 3 w v w' (.slice A' (n + 1) c') (n + 1) (xs ++ news) → wpList Try.prog ops Q rest (a.put o.dst (.slice A' (n + 1) c')) w') :
    wpList Try.prog ops Q (o :: rest) a w := by
  obtain ⟨i0, hi0, hz0, hz1, hz2⟩ := info_parts wrinfo
  refine wpList_app w hgd s x _ ho base 48 i0 _ 3 56 Try.underlying38 hi0 hz0 hz1 hz2 rfl (by omega) v n xs hs hown B A 1 c news hx (by rw [hl]) hr h1 (by simp only [maxLen]; omega) (by omega) hbase ?_
  intro A' c' w' h1 h2 h3 h4
  exact h A' c' w' ((App.refl hown).step h1 h2 h3)

/-- The strings of keys. -/
def keyStrs (acc : List Wr) : List ByteArray := acc.map fun x => strOfNums x.key
def putW (acc : List Wr) (k : Ky) (v : List Int) : List Wr := if hasS (keyStrs acc) (strOfNums (packOf k).1) = true then acc else acc ++ [⟨1, (packOf k).1, v⟩]
/-- The memory of put: the set's box, the set, the list's box, the list. -/
structure PuM (w0 W : World) (gm mb gx lo : Nat) (A : Option Addr) (j c : Nat) (acc : List Wr) (hs : List Value) : Prop where
  bm : Bk W gm 55 #[.map (some mb)]
  ms : MpS W mb (keyStrs acc)
  bx : Bk W gx 38 #[.slice A j c]
  ws : WsU 48 W w0.heap.size lo A j c acc hs
  bel : Below w0.heap.size w0 W
  ge : w0.heap.size ≤ gm ∧ w0.heap.size ≤ mb ∧ w0.heap.size ≤ gx
  lt : gm < lo ∧ mb < lo ∧ gx < lo
  ne : gm ≠ mb ∧ gm ≠ gx ∧ mb ≠ gx
/-- What put leaves alone. -/
def PuF (W w' : World) (mb gx : Nat) (v v' : Value) : Prop :=
  W.heap.size ≤ w'.heap.size ∧ (∀ b, b < W.heap.size → b ≠ mb → b ≠ gx → v.ownBlock ≠ some b → w'.heap[b]? = W.heap[b]?) ∧ (v'.ownBlock = v.ownBlock ∨ ∃ b, v'.ownBlock = some b ∧ W.heap.size ≤ b)
section
variable {w0 W W' : World} {gm mb gx lo : Nat} {A : Option Addr} {j c : Nat} {acc : List Wr} {hs : List Value}
theorem PuM.below (h : PuM w0 W gm mb gx lo A j c acc hs) (hb : Below W.heap.size W W') : PuM w0 W' gm mb gx lo A j c acc hs :=
  ⟨h.bm.below hb h.bm.lt, h.ms.bS hb, h.bx.below hb h.bx.lt, h.ws.below hb, h.bel.trans (hb.mono h.bel.size), h.ge, h.lt, h.ne⟩
end
def PuPost (w0 W : World) (gm mb gx lo : Nat) (A : Option Addr) (j c : Nat) (acc' : List Wr) (e : Ending) (w' : World) : Prop :=
  (∃ v, e = .returned v) ∧ ∃ A' j' c' hs', PuM w0 w' gm mb gx lo A' j' c' acc' hs' ∧ j' ≤ j + 1 ∧ PuF W w' mb gx (.slice A j c) (.slice A' j' c')
theorem zeroB (w : World) : (zeroValue 4).run Try.prog w = .ok (.bool false) w := by kernel_rfl
set_option maxRecDepth 100000 in
set_option maxHeartbeats 4000000 in
theorem scPut {w0 W : World} {gm mb gx lo j c nv cv : Nat} {A Va : Option Addr} {acc : List Wr} {hs : List Value} (k : Ky) (vs : List Int) (h : PuM w0 W gm mb gx lo A j c acc hs) (hu : k.U64) (hj : j ≤ 10000)
    (hv : Rb W W.heap.size Va vs) (hnv : vs.length = nv) (hcv : nv ≤ cv) (hvb : vs ≠ [] → ∀ a, Va = some a → (a.block < w0.heap.size ∨ lo ≤ a.block) ∧ (Value.slice A j c).ownBlock ≠ some a.block) (hvz : Va = none → cv = 0) :
    Calls Try.prog 42 #[kyV k, .slice Va nv cv, .pointer (some ⟨gm, 0, none⟩), .pointer (some ⟨gx, 0, none⟩)] W (PuPost w0 W gm mb gx lo A j c (putW acc k vs)) := by
  obtain ⟨r, hr⟩ : ∃ r, packOf k = r := ⟨_, rfl⟩
  have hpu : putW acc k vs = if hasS (keyStrs acc) (strOfNums r.1) = true then acc else acc ++ [⟨1, r.1, vs⟩] := by rw [← hr]; rfl
  rw [hpu]
  obtain ⟨q, hq⟩ : ∃ q, hasS (keyStrs acc) (strOfNums r.1) = q := ⟨_, rfl⟩
  rw [hq]
  have HQ := Lib.hid hq
  have hb0 : Below W.heap.size W (W.alloc (.cells (kyC k) 26)) := (Below.refl _ W).alloc (Nat.le_refl _) _
  have bk := Bk.new W 26 (kyC k)
  obtain ⟨w1, hw1⟩ : ∃ w1, W.alloc (.cells (kyC k) 26) = w1 := ⟨_, rfl⟩
  rw [hw1] at hb0 bk
  have la := loadK_ky bk
  have hc := scPackK k w1 hu
  rw [hr] at hc
  have HC := Lib.hid hc
  have HW := Lib.hid hw1
  have HB0 := Lib.hid hb0
  have HM := Lib.hid h
  clear hr hpu hw1 hc h bk hq
  go_enter Try.func42, Try.ntmps42
  go_upto_region 1 with fail
  rw [HW.out]
  go_upto_region 2 with (go_at_call 10; refine HC.out.mono ?_; rintro e w2 ⟨A2, c2, rfl, hr2, hb2, hl2, hz2, hk2⟩)
  have hbw : Below W.heap.size W w2 := HB0.out.trans (hb2.mono HB0.out.size)
  have m2 := HM.out.below hbw
  have km : w2.cell? ⟨gm, 0, none⟩ = some (.map (some mb)) := m2.bm.cell 0
  have kx : w2.cell? ⟨gx, 0, none⟩ = some (.slice A j c) := m2.bx.cell 0
  have es : (convert 27 9 (.slice A2 r.1.length c2)).run Try.prog w2 = .ok (.string (strOfNums r.1)) w2 := hr2.str (P := Try.prog) Try.underlying27 Try.underlying5 Try.underlying9 c2
  have hlk : (Instr.lookup 55 (.map (some mb)) (.string (strOfNums r.1)) false).run Try.prog w2 = .ok (.bool (hasS (keyStrs acc) (strOfNums r.1))) w2 := run_lookS Try.underlying55 Try.underlying9 (zeroB w2) m2.ms _
  rw [HQ.out] at hlk
  have HBW := Lib.hid hbw
  have HM2 := Lib.hid m2
  cases q with
  | true =>
    go_wp2
    go_end0
    exact ⟨⟨_, rfl⟩, A, j, c, hs, HM2.out, by omega, HBW.out.size, fun b hb _ _ _ => HBW.out.block b hb, .inl rfl⟩
  | false =>
    have hnm := hasS_not.1 HQ.out
    have hv2 : Rb w2 w2.heap.size Va vs := hv.belowS hbw
    have hw2 : W.heap.size ≤ w2.heap.size := hbw.size
    have hw1' : W.heap.size ≤ w1.heap.size := HB0.out.size
    have hltb := m2.lt
    have hge2 := m2.ge
    have hmbW : mb < W.heap.size := HM.out.ms.lt
    go_wp2_with (first
      | (refine wpList_updS _ rfl (.tmp 18) (.tmp 20) (.const (.bool true)) 55 rfl 9 4 Try.underlying55 Try.underlying9 mb (keyStrs acc) rfl m2.ms (strOfNums r.1) rfl rfl hnm ?_
         rintro w3 hm3 hg3 -
         have b3m := m2.bm.grown hg3 (fun e => m2.ne.1 (Option.some.inj e))
         have b3x := m2.bx.grown hg3 (fun e => m2.ne.2.2 (Option.some.inj e).symm)
         have ws3 := m2.ws.beside hg3 (fun k hk => by cases hk; exact ⟨hge2.2.1, hltb.2.1⟩)
         have kx3 : w3.cell? ⟨gx, 0, none⟩ = some (.slice A j c) := b3x.cell 0
         have hr3 : Rb w3 w3.heap.size A2 r.1 := hr2.beside hg3 (fun _ a ha e => by have h1 := hk2 a ha; have h2 := Option.some.inj e; omega)
         have hv3 : Rb w3 w3.heap.size Va vs := hv2.beside hg3 (fun hz a ha e => by have h1 := (hvb hz a ha).1; have h2 := Option.some.inj e; omega)
         have hlo3 := ws3.hlo)
      | (at_builtin
         go_loud (refine wpList_appW _ rfl (.tmp 21) (.tmp 25) rfl lo _ j hs rfl (ws3.own.alloc (.cells #[.int .i64 1, .slice A2 r.1.length c2, .slice Va nv cv] 48)) (w3.heap.size + 1) (some ⟨w3.heap.size, 0, none⟩) 1 [.int .i64 1, .slice A2 r.1.length c2, .slice Va nv cv] rfl rfl (Rd.lit w3 #[.int .i64 1, .slice A2 r.1.length c2, .slice Va nv cv] _) (by simp [Value.oneCell']) (by omega) (by simp; omega) ?_)
         intro A6 c6 w6 happ
         have b6x := (b3x.alloc (.cells #[.int .i64 1, .slice A2 r.1.length c2, .slice Va nv cv] 48)).grown happ.grown (fun e => by have := (ws3.own.lt gx e.symm).1; omega)
         have kx6 : w6.cell? ⟨gx, 0, none⟩ = some (.slice A j c) := b6x.cell 0
         have fx6 : w6.frozen? ⟨gx, 0, none⟩ = false := b6x.frozen 0))
    go_end0
    have hst : w6.grownBy (w6.setCell ⟨gx, 0, none⟩ (.slice A6 (j + 1) c6)) (some gx) := only_set (World.grownBy.refl _ _) _ _
    have hal : Below w3.heap.size w3 (w3.alloc (.cells #[.int .i64 1, .slice A2 r.1.length c2, .slice Va nv cv] 48)) := (Below.refl _ w3).alloc (Nat.le_refl _) _
    have hown : ∀ b, (Value.slice A j c).ownBlock = some b → lo ≤ b := fun b e => (ws3.own.lt b e).1
    have hge := m2.ge
    have hw03 : w0.heap.size ≤ w3.heap.size := Nat.le_trans m2.bel.size hg3.size
    have b2 : Below w0.heap.size w0 w3 := m2.bel.trans (grown_below hg3 m2.bel.size (fun b e => by cases e; exact hge.2.1))
    have b3 := b2.trans (hal.mono hw03)
    have b4 := b3.trans (grown_below happ.grown b3.size (fun b e => by have := hown b e; omega))
    have b5 := b4.trans (grown_below hst b4.size (fun b e => by cases e; exact hge.2.2))
    have hsz : w3.heap.size + 1 ≤ w6.heap.size := by have := happ.grown.size; simpa using this
    have hsz2 : w6.heap.size ≤ (w6.setCell ⟨gx, 0, none⟩ (.slice A6 (j + 1) c6)).heap.size := hst.size
    have hsz3 := hg3.size
    have hk : keyStrs (acc ++ [⟨1, r.1, vs⟩]) = keyStrs acc ++ [strOfNums r.1] := by simp [keyStrs]
    have wsa := ws3.below hal
    have wsb := wsa.push (x := ⟨1, r.1, vs⟩) (by rw [hnv]; exact happ) (hr3.belowS hal) hl2 (hv3.belowS hal) (by rw [hnv]; exact hcv)
      (fun _ a ha => by
        have h1 := hk2 a ha
        have h2 := HM.out.ws.hlo
        refine ⟨by omega, fun e => ?_⟩
        have h3 := (HM.out.ws.own.lt a.block e).2
        omega) hvb (fun e => (hz2 e).2) hvz
    rw [hnv] at wsb
    refine ⟨⟨_, rfl⟩, A6, j + 1, c6, _, ⟨?_, ?_, b6x.set 0 _, wsb.beside hst (fun b e => by cases e; exact ⟨hge2.2.2, hltb.2.2⟩), b5, hge, hltb, m2.ne⟩, Nat.le_refl _, by omega, fun b hb h1 h2 h3 => ?_, ?_⟩
    · exact ((b3m.alloc _).grown happ.grown (fun e => by have := hown gm e.symm; omega)).grown hst (fun e => m2.ne.2.1 (Option.some.inj e))
    · rw [hk]
      exact ((hm3.alloc _).grown happ.grown (fun e => by have := hown mb e.symm; omega)).grown hst (fun e => m2.ne.2.2 (Option.some.inj e))
    · have hbw2 : b < w2.heap.size := by omega
      have e1 := hst.block b (by omega) (fun e => h2 (Option.some.inj e))
      have e2 := happ.grown.block b (by simp; omega) (fun e => h3 e.symm)
      have e3 := hal.block b (by omega)
      have e4 := hg3.block b hbw2 (fun e => h1 (Option.some.inj e))
      exact e1.trans (e2.trans (e3.trans (e4.trans (HBW.out.block b hb))))
    · rcases happ.block with h | ⟨b, h1, h2⟩
      · exact .inl h
      · exact .inr ⟨b, h1, by simp at h2; omega⟩
end Go.Proofs.Ytlamebbolioljaa

/- What Writes answers. Plain. -/
namespace Go.Proofs.Ytlamebbolioljaa
open Go.RowKit

/-- The key of a trace. -/
def trKey (e : AE) : Ky := ⟨116, e.a.s.hi, e.a.s.lo, 0, ⟨#[]⟩, ⟨#[]⟩, ⟨#[]⟩, 0, 0⟩
/-- The writes of one span's keys from the i-th on: the first bears the span. -/
def wrKeys (zs : List Int) : List Ky → Nat → List Wr → List Wr
  | [], _, acc => acc
  | k :: ks, i, acc => wrKeys zs ks (i + 1) (putW acc k (if i = 0 then zs else []))
def wrSpan (acc : List Wr) (e : AE) : List Wr := wrKeys (adEnc e.a) (keysOf e.a.s) 0 acc
def wrAll : List AE → List Wr
  | [] => []
  | e :: l => (e :: l).foldl wrSpan (putW [] (trKey e) (recEnc (l.length + 1) (bnds (e :: l)).1.toNat (bnds (e :: l)).2.toNat))
/-- The first span's error. -/
def wrErr : List AE → Nat
  | [] => 0
  | e :: l => if adChk e.a ≠ 0 then adChk e.a else wrErr l
/-- Is the i-th span of another trace than the first, or not behind the one ahead? -/
def badAt (l : List AE) (i : Nat) : Bool :=
  match l[0]?, l[i]? with
  | some h, some e => !(decide (e.a.s.hi = h.a.s.hi) && decide (e.a.s.lo = h.a.s.lo)) || (decide (0 < i) && (match l[i - 1]? with | some p => decide (e.a.s.id ≤ p.a.s.id) | none => false))
  | _, _ => false
def wrBad (l : List AE) : Bool := (List.range l.length).any (badAt l)
def wrOut (l : List AE) : List Wr × Nat :=
  if l.length = 0 then ([], 2) else if 32 < l.length then ([], 3) else if wrErr l ≠ 0 then ([], wrErr l) else if wrBad l = true then ([], 2)
  else if 1024 < (wrAll l).length then ([], 3) else (wrAll l, 0)

theorem putW_len (acc : List Wr) (k : Ky) (v : List Int) : (putW acc k v).length ≤ acc.length + 1 := by
  unfold putW
  by_cases h : hasS (keyStrs acc) (strOfNums (packOf k).1) = true
  · rw [if_pos h]; omega
  · rw [if_neg h]; simp
theorem wrKeys_len (zs : List Int) : ∀ (ks : List Ky) (i : Nat) (acc : List Wr), (wrKeys zs ks i acc).length ≤ acc.length + ks.length
  | [], _, acc => Nat.le_refl _
  | k :: ks, i, acc => by
    have h1 := wrKeys_len zs ks (i + 1) (putW acc k (if i = 0 then zs else []))
    have h2 := putW_len acc k (if i = 0 then zs else [])
    simp only [wrKeys, List.length_cons]
    omega
theorem wrErr_zero : ∀ {l : List AE}, wrErr l = 0 → ∀ e ∈ l, adChk e.a = 0
  | [], _, e, h => by cases h
  | x :: l, h, e, he => by
    rw [wrErr] at h
    by_cases h0 : adChk x.a ≠ 0
    · rw [if_pos h0] at h; exact absurd h h0
    · rw [if_neg h0] at h
      rcases List.mem_cons.1 he with rfl | he
      · exact Decidable.not_not.1 h0
      · exact wrErr_zero h e he
end Go.Proofs.Ytlamebbolioljaa

/- Rows of byte slices as they lie ([][]byte): their bytes elsewhere; a row of them that grows. -/
namespace Go.Proofs.Ytlamebbolioljaa
open Go.RowKit

/-- The cell of a byte slice whose bytes lie from block lo on, and not in block r. -/
def VlAt (w : World) (lo B : Nat) (r : Option Nat) (hs : List Value) (i : Nat) (x : List Int) : Prop :=
  ∃ A c, hs[i]? = some (Value.slice A x.length c) ∧ x.length ≤ c ∧ Rb w B A x ∧ (x ≠ [] → ∀ a, A = some a → r ≠ some a.block) ∧ (x ≠ [] → ∀ a, A = some a → lo ≤ a.block) ∧ (A = none → c = 0)
theorem VlAt.beside {w w' : World} {lo : Nat} {r row : Option Nat} {hs : List Value} {i : Nat} {x : List Int} (h : VlAt w lo w.heap.size r hs i x) (hg : w.grownBy w' row) (hr : ∀ k, row = some k → k < lo) : VlAt w' lo w'.heap.size r hs i x := by
  obtain ⟨A, c, h1, h2, h3, h4, h5, h6⟩ := h
  exact ⟨A, c, h1, h2, h3.beside hg (fun hz a ha e => by have := hr _ e; have := h5 hz a ha; omega), h4, h5, h6⟩
theorem VlAt.app {base lo : Nat} {e : TypeId} {size n i : Nat} {w w' : World} {v v' : Value} {xs hs more : List Value} {x : List Int} (h : VlAt w lo w.heap.size v.ownBlock hs i x) (k : App base e size w v w' v' n xs) : VlAt w' lo w'.heap.size v'.ownBlock (hs ++ more) i x := by
  obtain ⟨A, c, h1, h2, h3, h4, h5, h6⟩ := h
  exact ⟨A, c, by rw [List.getElem?_append_left (List.getElem?_eq_some_iff.1 h1).1]; exact h1, h2, h3.beside k.grown h4, far_app k h3 h4, h5, h6⟩
/-- A row of byte slices that grows. -/
structure VsM (e : TypeId) (W : World) (lo : Nat) (A : Option Addr) (j c : Nat) (acc : List (List Int)) (hs : List Value) : Prop where
  own : W.ownsRow lo e 1 (.slice A j c) j hs
  ats : ∀ (i : Nat) (x : List Int), acc[i]? = some x → VlAt W lo W.heap.size (Value.slice A j c).ownBlock hs i x
  len : acc.length = j
  hlo : lo ≤ W.heap.size
section
variable {e : TypeId} {W W' : World} {lo : Nat} {A : Option Addr} {j c : Nat} {acc : List (List Int)} {hs : List Value}
theorem VsM.nil (e : TypeId) (W : World) {lo : Nat} (h : lo ≤ W.heap.size) : VsM e W lo none 0 0 [] [] := ⟨World.ownsRow_nil _ _ _ _, fun i x h => by simp at h, rfl, h⟩
theorem VsM.beside {row : Option Nat} (h : VsM e W lo A j c acc hs) (hg : W.grownBy W' row) (hr : ∀ k, row = some k → k < lo) : VsM e W' lo A j c acc hs :=
  ⟨h.own.kept hg (by
    cases hv : (Value.slice A j c).ownBlock with
    | none => exact .inl rfl
    | some k => exact .inr fun q => by have := hr k q.symm; have := (h.own.lt k hv).1; omega), fun i x hx => (h.ats i x hx).beside hg hr, h.len, Nat.le_trans h.hlo hg.size⟩
theorem VsM.below (h : VsM e W lo A j c acc hs) (hb : Below W.heap.size W W') : VsM e W' lo A j c acc hs :=
  h.beside (row := none) ⟨hb.os, hb.tape, hb.output, hb.size, fun k hk _ => hb.block k hk⟩ (fun _ h => by cases h)
theorem VsM.get (h : VsM e W lo A j c acc hs) {i : Nat} {x : List Int} (hi : acc[i]? = some x) :
    ∃ b o A1 c1, A = some ⟨b, o, none⟩ ∧ b < W.heap.size ∧ W.cell? ⟨b, o + i, none⟩ = some (.slice A1 x.length c1) ∧ x.length ≤ c1 ∧ Rb W W.heap.size A1 x ∧ (A1 = none → c1 = 0) := by
  obtain ⟨A1, c1, h1, h2, h3, h4, h5, h6⟩ := h.ats i x hi
  obtain ⟨b, o, e, hb, hc⟩ := (Rd.of_own h.own).get h1
  exact ⟨b, o, A1, c1, e, hb, hc, h2, h3, h6⟩
theorem VsM.push {A1 : Option Addr} {c1 : Nat} {x : List Int} (h : VsM e W lo A j c acc hs) {A' : Option Addr} {c' : Nat}
    (k : App lo e 1 W (.slice A j c) W' (.slice A' (j + 1) c') (j + 1) (hs ++ [.slice A1 x.length c1]))
    (r1 : Rb W W.heap.size A1 x) (l1 : x.length ≤ c1) (b1 : x ≠ [] → ∀ a, A1 = some a → lo ≤ a.block ∧ (Value.slice A j c).ownBlock ≠ some a.block) (z1 : A1 = none → c1 = 0) :
    VsM e W' lo A' (j + 1) c' (acc ++ [x]) (hs ++ [.slice A1 x.length c1]) := by
  have hg := k.grown
  have hl : hs.length = j * 1 := h.own.1
  refine ⟨k.own, fun i y hy => ?_, by simp [h.len], Nat.le_trans h.hlo hg.size⟩
  by_cases hi : i < acc.length
  · rw [List.getElem?_append_left hi] at hy
    exact (h.ats i y hy).app k
  · have hij : i = j := by
      have := (List.getElem?_eq_some_iff.1 hy).1
      simp at this
      have := h.len
      omega
    subst hij
    rw [List.getElem?_append_right (by omega)] at hy
    have hy2 : y = x := by
      have : i - acc.length = 0 := by have := h.len; omega
      rw [this] at hy
      simpa using hy.symm
    subst hy2
    exact ⟨A1, c1, by rw [List.getElem?_append_right (by omega)]; simp [hl], l1, r1.beside hg (fun z a ha => (b1 z a ha).2), far_app k r1 (fun z a ha => (b1 z a ha).2), fun z a ha => (b1 z a ha).1, z1⟩
end
end Go.Proofs.Ytlamebbolioljaa
