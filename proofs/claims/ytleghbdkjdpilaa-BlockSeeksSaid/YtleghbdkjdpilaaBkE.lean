/- block.entry: reads the entry that stands first. -/
import Derived.Deep.Cut
import Derived.Deep.RegionHeld3
import Derived.BigRegion
import Derived.Test.YtleghbdkjdpilaaRdr3
import Derived.Test.YtleghbdkjdpilaaRdrN
import Derived.Test.YtleghbdkjdpilaaResT
import Derived.Test.YtleghbdkjdpilaaClip
import Derived.Test.YtleghbdkjdpilaaBkT
namespace Go.Proofs.Ytleghbdkjdpilaa
open Go.RowKit
theorem loadEn_shutE (a : Addr) : loadVar 29 a = loadK 29 a := rfl
attribute [local go_sem ↓] loadEn_shutE

/-- The four numbers that stand first: from where, which, and where it ends. -/
structure ENum where
  n : Nat
  more : Nat
  tag : Nat
  size : Nat
  p : Nat
  e : Nat
def eNum (zs : List Int) (p : Nat) : ENum :=
  let a := rdNum zs p 0
  let b := rdNum zs a.2.1 a.2.2
  let c := rdNum zs b.2.1 b.2.2
  let d := rdNum zs c.2.1 c.2.2
  ⟨a.1, b.1, c.1, d.1, d.2.1, d.2.2⟩
def entBad (zs : List Int) (key : List Int) (q : ENum) : Bool := decide (q.e ≠ 0) || decide (key.length < q.n) || decide (zs.length - q.p < q.more) || decide (zs.length - q.p < q.size)
/-- What entry reads: whether it is one, the entry, the place, the error. -/
structure EOut where
  ok : Bool
  x : En
  p : Nat
  e : Nat
def entGo (zs : List Int) (key : List Int) (q : ENum) : EOut :=
  let k := rdFix zs q.p 0 q.more
  let v := rdFix zs k.2.1 k.2.2 q.size
  ⟨decide (v.2.2 = 0), ⟨key.take q.n ++ k.1, q.tag / 4, ((q.tag % 4 : Nat) : Int), v.1⟩, v.2.1, v.2.2⟩
def entOf (zs : List Int) (p : Nat) (key : List Int) : EOut := if entBad zs key (eNum zs p) = true then ⟨false, ⟨[], 0, 0, []⟩, (eNum zs p).p, (eNum zs p).e⟩ else entGo zs key (eNum zs p)
def EntPost (w : World) (g : Nat) (A : Option Addr) (c : Nat) (zs : List Int) (Ak : Option Addr) (r : EOut) (en : Ending) (w' : World) : Prop :=
  ∃ A1 c1 A2 c2, en = .returned (.tuple #[enV A1 r.x.key.length c1 r.x.seq r.x.kind A2 r.x.val.length c2, .bool r.ok]) ∧ Rdr w' g A c zs r.p r.e ∧ w.grownBy w' (some g) ∧ Rb w' w'.heap.size A1 r.x.key ∧ r.x.key.length ≤ c1 ∧ Rb w' w'.heap.size A2 r.x.val ∧ r.x.val.length ≤ c2 ∧
    (A1 = none → c1 = 0) ∧ (A2 = none → c2 = 0) ∧ (∀ a, A1 = some a → (Ak = some a ∨ w.heap.size ≤ a.block) ∧ a.block < w'.heap.size) ∧ (∀ a, A2 = some a → w.heap.size ≤ a.block)
theorem blkClip {A : Option Addr} {n c : Nat} (w : World) (hc : n ≤ c) : Calls Try.prog 27 #[.slice A n c] w fun e w' => e = .returned (.slice A n n) ∧ w' = w := by
  go_enter Try.func27, Try.ntmps27
  go_wp2
  go_ret
  exact ⟨rfl, rfl⟩
theorem grown_setRow (w : World) (g : Nat) (cs : Array Value) : w.grownBy (w.setRow g cs) (some g) :=
  ⟨rfl, rfl, rfl, by simp [World.setRow], fun k _ hne => setRow_other w g k cs (fun e => hne (by rw [e]))⟩
theorem grown_fresh {w w5 w6 : World} {g rb : Nat} (h : w.grownBy w5 (some g)) (h2 : w5.grownBy w6 (some rb)) (hrb : w.heap.size ≤ rb) : w.grownBy w6 (some g) :=
  ⟨h2.os.trans h.os, h2.tape.trans h.tape, h2.output.trans h.output, Nat.le_trans h.size h2.size, fun k hk hne => (h2.block k (Nat.lt_of_lt_of_le hk h.size) (fun e => by have := Option.some.inj e; omega)).trans (h.block k hk hne)⟩
/-- A whole struct stored, at a step of a region that draws its order. -/
theorem step_store_row {w : World} {ops : Array Oper} {o : Oper} {a : Act} {K : Act → World → Prop} {Q : Exit → Act → World → Prop} {E : Prop} (hgd : o.guard = none) (ty : TypeId) (x y : Operand) (ho : o.op = .store ty x y)
    (g : Nat) (cells : Array Value) (hx : a.eval x = .pointer (some ⟨g, 0, none⟩)) (hy : a.eval y = .agg cells)
    (t : TypeId) (old : Array Value) (hg : w.heap[g]? = some (.cells old t (0, 0))) (hi : (Try.prog.info? ty).map (·.size) = some cells.size)
    (hold : old.size = cells.size) (h1 : cells.all (·.oneCell') = true)
    (h : K (a.put o.dst undef) (w.setRow g cells)) : if Region.wanted o (yielded ops a.tmps) = true then Oper.wp Try.prog o a w K Q else E := by
  have hw : Region.wanted o (yielded ops a.tmps) = true := by simp [Region.wanted, hgd]
  rw [if_pos hw]
  exact wp_store_row ty x y ho g cells hx hy t old hg hi hold h1 h
set_option maxRecDepth 100000 in
set_option maxHeartbeats 4000000 in
theorem blkEntry {A Ak : Option Addr} {c g p nk ck : Nat} {zs key : List Int} (w : World) (h : Rdr w g A c zs p 0) (hk : Rb w w.heap.size Ak key) (hn : key.length = nk) (hc : nk ≤ ck) (hkg : ∀ a, Ak = some a → a.block < w.heap.size ∧ a.block ≠ g) (hkl : nk ≤ 1000000) (hAa : ∀ a, A = some a → a.block < w.heap.size) (hlz : zs.length ≤ 1000000) :
    Calls Try.prog 32 #[.pointer (some ⟨g, 0, none⟩), .slice Ak nk ck] w (EntPost w g A c zs Ak (entOf zs p key)) := by
  have hz := h.byt
  obtain ⟨r, hr⟩ : ∃ r, entOf zs p key = r := ⟨_, rfl⟩
  rw [hr]
  obtain ⟨a1, ha1⟩ : ∃ a, rdNum zs p 0 = a := ⟨_, rfl⟩
  obtain ⟨a2, ha2⟩ : ∃ a, rdNum zs a1.2.1 a1.2.2 = a := ⟨_, rfl⟩
  obtain ⟨a3, ha3⟩ : ∃ a, rdNum zs a2.2.1 a2.2.2 = a := ⟨_, rfl⟩
  obtain ⟨a4, ha4⟩ : ∃ a, rdNum zs a3.2.1 a3.2.2 = a := ⟨_, rfl⟩
  have l1 : a1.2.2 ≤ 100 := by rw [← ha1]; exact rdNum_le hz (by omega)
  have l2 : a2.2.2 ≤ 100 := by rw [← ha2]; exact rdNum_le hz l1
  have l3 : a3.2.2 ≤ 100 := by rw [← ha3]; exact rdNum_le hz l2
  have l4 : a4.2.2 ≤ 100 := by rw [← ha4]; exact rdNum_le hz l3
  have b1 : a1.1 < 18446744073709551616 := by rw [← ha1]; exact rdNum_lt hz _ _
  have b2 : a2.1 < 18446744073709551616 := by rw [← ha2]; exact rdNum_lt hz _ _
  have b3 : a3.1 < 18446744073709551616 := by rw [← ha3]; exact rdNum_lt hz _ _
  have b4 : a4.1 < 18446744073709551616 := by rw [← ha4]; exact rdNum_lt hz _ _
  have hq : eNum zs p = ⟨a1.1, a2.1, a3.1, a4.1, a4.2.1, a4.2.2⟩ := by unfold eNum; simp only [ha1, ha2, ha3, ha4]
  rw [entOf, hq] at hr
  have HR := Lib.hid hr
  have C1 : Hid (∀ W, Rdr W g A c zs p 0 → Calls Try.prog 47 #[.pointer (some ⟨g, 0, none⟩)] W fun en w' => en = .returned (.int .u64 a1.1) ∧ Rdr w' g A c zs a1.2.1 a1.2.2 ∧ W.grownBy w' (some g)) := Lib.hid fun W hW => by have := rdrNumber W hW (by omega); unfold NumPost at this; rwa [ha1] at this
  have C2 : Hid (∀ W, Rdr W g A c zs a1.2.1 a1.2.2 → Calls Try.prog 47 #[.pointer (some ⟨g, 0, none⟩)] W fun en w' => en = .returned (.int .u64 a2.1) ∧ Rdr w' g A c zs a2.2.1 a2.2.2 ∧ W.grownBy w' (some g)) := Lib.hid fun W hW => by have := rdrNumber W hW l1; unfold NumPost at this; rwa [ha2] at this
  have C3 : Hid (∀ W, Rdr W g A c zs a2.2.1 a2.2.2 → Calls Try.prog 47 #[.pointer (some ⟨g, 0, none⟩)] W fun en w' => en = .returned (.int .u64 a3.1) ∧ Rdr w' g A c zs a3.2.1 a3.2.2 ∧ W.grownBy w' (some g)) := Lib.hid fun W hW => by have := rdrNumber W hW l2; unfold NumPost at this; rwa [ha3] at this
  have C4 : Hid (∀ W, Rdr W g A c zs a3.2.1 a3.2.2 → Calls Try.prog 47 #[.pointer (some ⟨g, 0, none⟩)] W fun en w' => en = .returned (.int .u64 a4.1) ∧ Rdr w' g A c zs a4.2.1 a4.2.2 ∧ W.grownBy w' (some g)) := Lib.hid fun W hW => by have := rdrNumber W hW l3; unfold NumPost at this; rwa [ha4] at this
  have hal : Below w.heap.size w (w.alloc (.cells #[.slice none 0 0, .int .u64 0, .int .i64 0, .slice none 0 0] 29)) := (Below.refl _ w).alloc (Nat.le_refl _) _
  have bk := Bk.new w 29 #[.slice none 0 0, .int .u64 0, .int .i64 0, .slice none 0 0]
  have hr1 := h.below hal
  have hk1 := hk.belowS hal
  have hgl := h.blk.lt
  obtain ⟨W1, hW1⟩ : ∃ W1, w.alloc (.cells #[.slice none 0 0, .int .u64 0, .int .i64 0, .slice none 0 0] 29) = W1 := ⟨_, rfl⟩
  rw [hW1] at hal bk hr1 hk1
  have hg1 : w.grownBy W1 (some g) := ⟨hal.os, hal.tape, hal.output, hal.size, fun k hk _ => hal.block k hk⟩
  obtain ⟨rb, hrb⟩ : ∃ rb, w.heap.size = rb := ⟨_, rfl⟩
  rw [hrb] at bk
  have HW := Lib.hid hW1
  have HRB := Lib.hid hrb
  have HHK := Lib.hid hk1
  have HR1 := Lib.hid hr1
  have HBK := Lib.hid bk
  have HG1 := Lib.hid hg1
  have hrg : rb ≠ g := by omega
  clear ha1 ha2 ha3 ha4 hq hr hW1 hk1 hr1 bk hg1 hal h hk hrb
  go_enter Try.func32, Try.ntmps32
  go_upto_region 1 with fail
  rw [HW.out, HRB.out]
  go_wp2_with fail
  refine (C1.out _ HR1.out).mono ?_
  rintro e w2 ⟨rfl, r2, g2⟩
  go_wp2_with fail
  refine (C2.out _ r2).mono ?_
  rintro e w3 ⟨rfl, r3, g3⟩
  go_wp2_with fail
  refine (C3.out _ r3).mono ?_
  rintro e w4 ⟨rfl, r4, g4⟩
  go_wp2_with fail
  refine (C4.out _ r4).mono ?_
  rintro e w5 ⟨rfl, r5, g5⟩
  have g15 : W1.grownBy w5 (some g) := grown_row (grown_row (grown_row g2 g3 (.inl rfl)) g4 (.inl rfl)) g5 (.inl rfl)
  have gw5 : w.grownBy w5 (some g) := grown_row HG1.out g15 (.inl rfl)
  have hk5 := Rb.beside HHK.out g15 (fun _ a ha e => (hkg a ha).2 (Option.some.inj e).symm)
  have bk5 := HBK.out.grown g15 (fun e => hrg (Option.some.inj e))
  clear r2 r3 r4 g2 g3 g4 g5 g15
  have hAr : ∀ a, A = some a → (some rb : Option Nat) ≠ some a.block := fun a ha e => by have := hAa a ha; have := Option.some.inj e; have := HRB.out; omega
  obtain ⟨n, hn1⟩ : ∃ n, a1.1 = n := ⟨_, rfl⟩
  obtain ⟨mo, hmo⟩ : ∃ n, a2.1 = n := ⟨_, rfl⟩
  obtain ⟨tg, htg⟩ : ∃ n, a3.1 = n := ⟨_, rfl⟩
  obtain ⟨sz, hsz⟩ : ∃ n, a4.1 = n := ⟨_, rfl⟩
  obtain ⟨p4, hp4⟩ : ∃ n, a4.2.1 = n := ⟨_, rfl⟩
  obtain ⟨e4, he4⟩ : ∃ n, a4.2.2 = n := ⟨_, rfl⟩
  rw [hp4, he4] at r5
  rw [hn1] at b1 ⊢
  rw [hmo] at b2 ⊢
  rw [htg] at b3 ⊢
  rw [hsz] at b4 ⊢
  have hr := HR.out
  rw [hn1, hmo, htg, hsz, hp4, he4] at hr
  obtain ⟨lf, hlf⟩ : ∃ lf, zs.length - p4 = lf := ⟨_, rfl⟩
  have hbad : entBad zs key ⟨n, mo, tg, sz, p4, e4⟩ = (decide (e4 ≠ 0) || decide (nk < n) || decide (lf < mo) || decide (lf < sz)) := by unfold entBad; simp only [hlf, hn]
  rw [hbad] at hr
  have HR2 := Lib.hid hr
  have HLF := Lib.hid hlf
  have HN := Lib.hid hn
  have hlfl : lf ≤ 1000000 := by omega
  have CE5 := Lib.hid (rdrErr w5 r5)
  have CL0 : Hid (Calls Try.prog 31 #[.pointer (some ⟨g, 0, none⟩)] w5 fun en w' => en = .returned (.int .i64 (lf : Nat)) ∧ ∃ n, w' = w5.drewN n) := Lib.hid (by have := rdrLeft w5 r5; rwa [hlf] at this)
  have CLd : Hid (∀ d, Calls Try.prog 31 #[.pointer (some ⟨g, 0, none⟩)] (w5.drewN d) fun en w' => en = .returned (.int .i64 (lf : Nat)) ∧ ∃ n, w' = w5.drewN n) := Lib.hid fun d => by
    have := rdrLeft (w5.drewN d) (r5.drewN d)
    rw [hlf] at this
    refine this.mono ?_
    rintro e w' ⟨h1, n', rfl⟩
    exact ⟨h1, d + n', World.drewN_drewN _ _ _⟩
  have wr0 : IntKind.u64.wrap (nk : Int) = (nk : Int) := IntWalk.u64_in _ ⟨by omega, by omega⟩
  have wr1 : IntKind.u64.wrap (lf : Int) = (lf : Int) := IntWalk.u64_in _ ⟨by omega, by omega⟩
  have hrbl : rb < w5.heap.size := bk5.lt
  have hBad : ∀ d : Nat, (decide (e4 ≠ 0) || decide (nk < n) || decide (lf < mo) || decide (lf < sz)) = true → EntPost w g A c zs Ak r (.returned (.tuple #[.agg #[.slice none 0 0, .int .u64 0, .int .i64 0, .slice none 0 0], .bool false])) ((w5.drewN d).setRow rb #[.slice none 0 0, .int .u64 0, .int .i64 0, .slice none 0 0]) := fun d hb => by
    rw [if_pos hb] at hr
    subst hr
    have hgs := grown_setRow (w5.drewN d) rb #[.slice none 0 0, .int .u64 0, .int .i64 0, .slice none 0 0]
    exact ⟨none, 0, none, 0, rfl, (r5.drewN d).keep hgs (fun e => hrg (Option.some.inj e)) hAr, grown_fresh (only_drewN gw5 d) hgs (by rw [HRB.out]; exact Nat.le_refl _), Rd.nil, Nat.le_refl _, Rd.nil, Nat.le_refl _, fun _ => rfl, fun _ => rfl, fun a h => (by cases h), fun a h => (by cases h)⟩
  have HBad := Lib.hid hBad
  have HBK5 := Lib.hid bk5
  have HR5 := Lib.hid r5
  have HK5 := Lib.hid hk5
  have HGW5 := Lib.hid gw5
  have HL4 := Lib.hid l4
  clear hr hbad hBad bk5 r5 hk5 gw5 hn1 hmo htg hsz hp4 he4 hlf hn l1 l2 l3 l4
  go_upto_region 2 with fail
  by_cases c1 : e4 = 0
  case neg =>
    have hb : (decide (e4 ≠ 0) || decide (nk < n) || decide (lf < mo) || decide (lf < sz)) = true := by simp [c1]
    have HB := Lib.hid hb
    clear hb
    go_wp2_with (first
      | (go_at_call 48; refine CE5.out.mono ?_; rintro e6 w6 ⟨rfl, rfl⟩)
      | (go_at_call 31; refine CL0.out.mono ?_; rintro e7 w7 ⟨rfl, d7, rfl⟩)
      | (go_at_call 31; refine (CLd.out _).mono ?_; rintro e8 w8 ⟨rfl, d8, rfl⟩)
      | (refine wpList_store_row rfl 29 (.tmp 4) (.tmp 43) rfl rb #[.slice none 0 0, .int .u64 0, .int .i64 0, .slice none 0 0] rfl rfl 29 _ (by exact HBK5.out) (by rfl) rfl (by simp [Value.oneCell']) ?_))
    refine bodyPost_ret (results_cell_row_tmp rfl _ _ rb 29 #[.slice none 0 0, .int .u64 0, .int .i64 0, .slice none 0 0] _ rfl (by exact setRow_heap _ rb _ _ _ (0, 0) HBK5.out) Try.underlying29 rfl (by rfl)) rfl ?_
    first | exact HBad.out _ HB.out | exact HBad.out 0 HB.out
  case pos =>
  by_cases c2 : n ≤ nk
  case neg =>
    have c2' : nk < n := by omega
    have hb : (decide (e4 ≠ 0) || decide (nk < n) || decide (lf < mo) || decide (lf < sz)) = true := by simp [c2']
    have HB := Lib.hid hb
    clear hb
    go_wp2_with (first
      | (go_at_call 48; refine CE5.out.mono ?_; rintro e6 w6 ⟨rfl, rfl⟩)
      | (go_at_call 31; refine CL0.out.mono ?_; rintro e7 w7 ⟨rfl, d7, rfl⟩)
      | (go_at_call 31; refine (CLd.out _).mono ?_; rintro e8 w8 ⟨rfl, d8, rfl⟩)
      | (refine wpList_store_row rfl 29 (.tmp 4) (.tmp 43) rfl rb #[.slice none 0 0, .int .u64 0, .int .i64 0, .slice none 0 0] rfl rfl 29 _ (by exact HBK5.out) (by rfl) rfl (by simp [Value.oneCell']) ?_))
    refine bodyPost_ret (results_cell_row_tmp rfl _ _ rb 29 #[.slice none 0 0, .int .u64 0, .int .i64 0, .slice none 0 0] _ rfl (by exact setRow_heap _ rb _ _ _ (0, 0) HBK5.out) Try.underlying29 rfl (by rfl)) rfl ?_
    first | exact HBad.out _ HB.out | exact HBad.out 0 HB.out
  case pos =>
  by_cases c3 : mo ≤ lf
  case neg =>
    have c3' : lf < mo := by omega
    have hb : (decide (e4 ≠ 0) || decide (nk < n) || decide (lf < mo) || decide (lf < sz)) = true := by simp [c3']
    have HB := Lib.hid hb
    clear hb
    go_wp2_with (first
      | (go_at_call 48; refine CE5.out.mono ?_; rintro e6 w6 ⟨rfl, rfl⟩)
      | (go_at_call 31; refine CL0.out.mono ?_; rintro e7 w7 ⟨rfl, d7, rfl⟩)
      | (go_at_call 31; refine (CLd.out _).mono ?_; rintro e8 w8 ⟨rfl, d8, rfl⟩)
      | (refine wpList_store_row rfl 29 (.tmp 4) (.tmp 43) rfl rb #[.slice none 0 0, .int .u64 0, .int .i64 0, .slice none 0 0] rfl rfl 29 _ (by exact HBK5.out) (by rfl) rfl (by simp [Value.oneCell']) ?_))
    refine bodyPost_ret (results_cell_row_tmp rfl _ _ rb 29 #[.slice none 0 0, .int .u64 0, .int .i64 0, .slice none 0 0] _ rfl (by exact setRow_heap _ rb _ _ _ (0, 0) HBK5.out) Try.underlying29 rfl (by rfl)) rfl ?_
    first | exact HBad.out _ HB.out | exact HBad.out 0 HB.out
  case pos =>
  by_cases c4 : sz ≤ lf
  case neg =>
    have c4' : lf < sz := by omega
    have hb : (decide (e4 ≠ 0) || decide (nk < n) || decide (lf < mo) || decide (lf < sz)) = true := by simp [c4']
    have HB := Lib.hid hb
    clear hb
    go_wp2_with (first
      | (go_at_call 48; refine CE5.out.mono ?_; rintro e6 w6 ⟨rfl, rfl⟩)
      | (go_at_call 31; refine CL0.out.mono ?_; rintro e7 w7 ⟨rfl, d7, rfl⟩)
      | (go_at_call 31; refine (CLd.out _).mono ?_; rintro e8 w8 ⟨rfl, d8, rfl⟩)
      | (refine wpList_store_row rfl 29 (.tmp 4) (.tmp 43) rfl rb #[.slice none 0 0, .int .u64 0, .int .i64 0, .slice none 0 0] rfl rfl 29 _ (by exact HBK5.out) (by rfl) rfl (by simp [Value.oneCell']) ?_))
    refine bodyPost_ret (results_cell_row_tmp rfl _ _ rb 29 #[.slice none 0 0, .int .u64 0, .int .i64 0, .slice none 0 0] _ rfl (by exact setRow_heap _ rb _ _ _ (0, 0) HBK5.out) Try.underlying29 rfl (by rfl)) rfl ?_
    first | exact HBad.out _ HB.out | exact HBad.out 0 HB.out
  case pos =>
  subst c1
  have HBND : Hid (n ≤ nk ∧ mo ≤ lf ∧ sz ≤ lf ∧ n + mo ≤ 140737488355328) := Lib.hid (by omega)
  have hr := HR2.out
  rw [if_neg (by simp; omega)] at hr
  obtain ⟨kf, hkf⟩ : ∃ kf, rdFix zs p4 0 mo = kf := ⟨_, rfl⟩
  have hkf2 : kf = ((zs.drop p4).take mo, p4 + mo, 0) := by rw [← hkf, rdFix, if_neg (by simp), if_neg (by rw [HLF.out]; omega)]
  obtain ⟨vf, hvf⟩ : ∃ vf, rdFix zs kf.2.1 kf.2.2 sz = vf := ⟨_, rfl⟩
  have hr3 : r = ⟨decide (vf.2.2 = 0), ⟨key.take n ++ kf.1, tg / 4, ((tg % 4 : Nat) : Int), vf.1⟩, vf.2.1, vf.2.2⟩ := by
    rw [← hr]
    unfold entGo
    simp only [hkf, hvf]
  have hke : kf.2.2 = 0 := by rw [hkf2]
  have hkl2 : kf.1.length = mo := by
    rw [hkf2]
    simp only [List.length_take, List.length_drop]
    have := HLF.out
    omega
  have hve : vf.2.2 ≤ 100 := by
    rw [← hvf, rdFix, hke, if_neg (by simp)]
    split
    · simp
    · simp
  have hwm : IntKind.i64.wrap (mo : Int) = (mo : Int) := IntWalk.i64_in _ ⟨by omega, by omega⟩
  have hws : IntKind.i64.wrap (sz : Int) = (sz : Int) := IntWalk.i64_in _ ⟨by omega, by omega⟩
  have HR3 := Lib.hid hr3
  have HKE := Lib.hid hke
  have HKF := Lib.hid hkf
  have HVF := Lib.hid hvf
  have HKL := Lib.hid hkl2
  clear hr hr3 hke hkf hkf2 hvf hkl2
  go_upto_region 4 with (first
    | (go_at_call 48; refine CE5.out.mono ?_; rintro e6 w6 ⟨rfl, rfl⟩)
    | (go_at_call 31; refine CL0.out.mono ?_; rintro e7 w7 ⟨rfl, d7, rfl⟩)
    | (go_at_call 31; refine (CLd.out _).mono ?_; rintro e8 w8 ⟨rfl, d8, rfl⟩))
  have r8 := HR5.out.drewN d8
  have k8 : Rb (w6.drewN d8) (w6.drewN d8).heap.size Ak key := HK5.out
  have b8 : Bk (w6.drewN d8) rb 29 #[.slice none 0 0, .int .u64 0, .int .i64 0, .slice none 0 0] := HBK5.out
  have g8 := only_drewN HGW5.out d8
  obtain ⟨w8, hw8⟩ : ∃ w8, w6.drewN d8 = w8 := ⟨_, rfl⟩
  rw [hw8] at r8 k8 b8 g8 ⊢
  clear hw8
  have hal8 : Below w8.heap.size w8 (w8.alloc (.cells #[.slice none 0 0, .int .u64 ((tg : Int) / 4), .int .i64 ((tg : Int) % 4), .slice none 0 0] 29)) := (Below.refl _ w8).alloc (Nat.le_refl _) _
  have bt8 := Bk.new w8 29 #[.slice none 0 0, .int .u64 ((tg : Int) / 4), .int .i64 ((tg : Int) % 4), .slice none 0 0]
  have r9 := r8.below hal8
  have k9 := k8.belowS hal8
  have b9 := b8.below hal8 b8.lt
  have g9 : w.grownBy (w8.alloc (.cells #[.slice none 0 0, .int .u64 ((tg : Int) / 4), .int .i64 ((tg : Int) % 4), .slice none 0 0] 29)) (some g) := grown_row g8 ⟨hal8.os, hal8.tape, hal8.output, hal8.size, fun k hk _ => hal8.block k hk⟩ (.inl rfl)
  obtain ⟨w9, hw9⟩ : ∃ w9, w8.alloc (.cells #[.slice none 0 0, .int .u64 ((tg : Int) / 4), .int .i64 ((tg : Int) % 4), .slice none 0 0] 29) = w9 := ⟨_, rfl⟩
  rw [hw9] at r9 k9 b9 g9 bt8
  obtain ⟨eb, heb⟩ : ∃ eb, w8.heap.size = eb := ⟨_, rfl⟩
  have hrbe : rb < eb := by rw [← heb]; exact b8.lt
  have hge : g < eb := by rw [← heb]; exact r8.blk.lt
  rw [heb] at bt8
  have HW9 := Lib.hid hw9
  have HEB := Lib.hid heb
  have hAe : ∀ a, A = some a → (some eb : Option Nat) ≠ some a.block := fun a ha e => by have := hAa a ha; have := Option.some.inj e; have := HRB.out; omega
  clear hw9 heb hal8 r8 k8 b8 g8
  go_upto_region 5 with fail
  rw [HW9.out, HEB.out]
  have hwe := HRB.out
  have cF : Calls Try.prog 49 #[.pointer (some ⟨g, 0, none⟩), .int .i64 (mo : Nat)] w9 (BytPost w9 g A c zs kf.1 kf.2.1 kf.2.2) := by
    have := rdrFixed (n := mo) w9 r9 (by omega) (by have := HBND.out; omega)
    rwa [HKF.out] at this
  have CF := Lib.hid cF
  have HK9 := Lib.hid k9
  have HB9 := Lib.hid b9
  have HT9 := Lib.hid bt8
  have HG9 := Lib.hid g9
  have hcli := blkClip (A := Ak) (n := n) (c := ck) w9 (by have := HBND.out; omega)
  have HCLI := Lib.hid hcli
  have hni : (n : Int) ≤ (ck : Int) := by have := HBND.out; omega
  clear cF k9 b9 bt8 g9 r9 hcli
  go_wp2_with fail
  refine HCLI.out.mono ?_
  rintro e10 w10 ⟨rfl, hw10⟩
  subst hw10
  go_wp2_with fail
  refine CF.out.mono ?_
  rintro e11 w11 ⟨A11, c11, rfl, r11, g11, h11, hl11, hn11, hz11⟩
  have k11 := Rb.beside HK9.out g11 (fun _ a ha e => (hkg a ha).2 (Option.some.inj e).symm)
  have b11 := HB9.out.grown g11 (fun e => hrg (Option.some.inj e))
  have t11 := HT9.out.grown g11 (fun e => by have := Option.some.inj e; omega)
  have g11' := grown_row HG9.out g11 (.inl rfl)
  have hkt : (key.take n).length = n := by rw [List.length_take, HN.out]; have := HBND.out; omega
  have hkm : n + kf.1.length ≤ 140737488355328 := by have := HKL.out; have h0 := HBND.out; omega
  have HHH := Lib.hid h11
  have HKT := Lib.hid (Rb.take k11 n)
  have HL11 := Lib.hid hl11
  clear h11 k11 hl11
  go_upto_region 6 with (first | (at_builtin; go_loud (refine wpList_appClip _ rfl (.tmp 53) (.tmp 57) rfl w11.heap.size Ak n (key.take n) rfl hkt HKT.out (Nat.le_refl _) w11.heap.size A11 kf.1.length c11 kf.1 rfl rfl HHH.out hkm ?_); intro A12 c12 w12 h12 hb12 hl12 hm12 hz12 ha12; have t12 := t11.below hb12 t11.lt; have ct0 : w12.cell? ⟨eb, 0, none⟩ = some (.slice none 0 0) := t12.cell 0; have ft0 : w12.frozen? ⟨eb, 0, none⟩ = false := t12.frozen 0))
  have hs11 : w.heap.size ≤ w11.heap.size := g11'.size
  have he11 : eb < w11.heap.size := t11.lt
  have r12 := r11.below hb12
  have b12 := b11.below hb12 b11.lt
  have g12 : w.grownBy w12 (some g) := grown_row g11' ⟨hb12.os, hb12.tape, hb12.output, hb12.size, fun k hk _ => hb12.block k hk⟩ (.inl rfl)
  have hst : w12.grownBy (w12.setCell ⟨eb, 0, none⟩ (.slice A12 (n + kf.1.length) c12)) (some eb) := only_set (World.grownBy.refl _ _) _ _
  have t13 := t12.set 0 (.slice A12 (n + kf.1.length) c12)
  have r13 := r12.keep hst (fun e => by have := Option.some.inj e; omega) hAe
  have b13 := b12.grown hst (fun e => by have := Option.some.inj e; omega)
  have hA12 : ∀ a, A12 = some a → a.block ≠ g ∧ a.block ≠ eb ∧ (Ak = some a ∨ w.heap.size ≤ a.block) ∧ a.block < w12.heap.size ∧ a.block ≠ rb := fun a ha => by
    rcases ha12 a ha with h1 | ⟨h1, h2⟩
    · have h3 := hkg a h1
      have h4 := hb12.size
      exact ⟨h3.2, by omega, .inl h1, by omega, by omega⟩
    · exact ⟨by omega, by omega, .inr (by omega), h2, by omega⟩
  have h13 := Rb.beside h12 hst (fun _ a ha e => (hA12 a ha).2.1 (Option.some.inj e).symm)
  have g13 := grown_fresh g12 hst (by omega)
  have hs13 : w12.heap.size ≤ (w12.setCell ⟨eb, 0, none⟩ (.slice A12 (n + kf.1.length) c12)).heap.size := hst.size
  obtain ⟨w13, hw13⟩ : ∃ w13, w12.setCell ⟨eb, 0, none⟩ (.slice A12 (n + kf.1.length) c12) = w13 := ⟨_, rfl⟩
  rw [hw13] at t13 r13 b13 h13 g13 hs13 ⊢
  have cF2 : Calls Try.prog 49 #[.pointer (some ⟨g, 0, none⟩), .int .i64 (sz : Nat)] w13 (BytPost w13 g A c zs vf.1 vf.2.1 vf.2.2) := by
    have := rdrFixed (n := sz) w13 r13 (by rw [HKE.out]; omega) (by have := HBND.out; omega)
    rwa [HVF.out] at this
  have CF2 := Lib.hid cF2
  have HHA := Lib.hid hA12
  have H13 := Lib.hid h13
  have HT13 := Lib.hid t13
  have HB13 := Lib.hid b13
  have HG13 := Lib.hid g13
  have HL12 := Lib.hid hl12
  have HZ12 := Lib.hid hz12
  have hb12s := hb12.size
  have he13 : eb < w13.heap.size := t13.lt
  clear cF2 hA12 h13 t13 b13 g13 hw13 hst r12 r13 b12 g12 h12 hb12 hl12 hz12 ha12 hm12 t12 ct0 ft0 t11 b11 g11 g11' r11 hn11 hz11
  go_wp2_with fail
  refine CF2.out.mono ?_
  rintro e14 w14 ⟨A14, c14, rfl, r14, g14, h14, hl14, hn14, hz14⟩
  have t14 := HT13.out.grown g14 (fun e => by have := Option.some.inj e; omega)
  have b14 := HB13.out.grown g14 (fun e => hrg (Option.some.inj e))
  have h14a := Rb.beside H13.out g14 (fun _ a ha e => (HHA.out a ha).1 (Option.some.inj e).symm)
  have ct3 : w14.cell? ⟨eb, 3, none⟩ = some (.slice none 0 0) := t14.cell 3
  have ft3 : w14.frozen? ⟨eb, 3, none⟩ = false := t14.frozen 3
  have g14' := grown_row HG13.out g14 (.inl rfl)
  have hst : w14.grownBy (w14.setCell ⟨eb, 3, none⟩ (.slice A14 vf.1.length c14)) (some eb) := only_set (World.grownBy.refl _ _) _ _
  have t15 := t14.set 3 (.slice A14 vf.1.length c14)
  have r15 := r14.keep hst (fun e => by have := Option.some.inj e; omega) hAe
  have b15 := b14.grown hst (fun e => by have := Option.some.inj e; omega)
  have h15 := Rb.beside h14a hst (fun _ a ha e => (HHA.out a ha).2.1 (Option.some.inj e).symm)
  have h15v := Rb.beside h14 hst (fun _ a ha e => by have := hn14 a ha; have := Option.some.inj e; omega)
  have g15 := grown_fresh g14' hst (by omega)
  have hs15 : w14.heap.size ≤ (w14.setCell ⟨eb, 3, none⟩ (.slice A14 vf.1.length c14)).heap.size := hst.size
  have hs14 : w13.heap.size ≤ w14.heap.size := g14.size
  have HST := Lib.hid hst
  clear r14 t14 b14 h14a h14 g14 g14' hst
  go_upto_region 7 with fail
  obtain ⟨w15, hw15⟩ : ∃ w15, w14.setCell ⟨eb, 3, none⟩ (.slice A14 vf.1.length c14) = w15 := ⟨_, rfl⟩
  rw [hw15] at t15 r15 b15 h15 h15v g15 hs15 ⊢
  have tF : Bk w15 eb 29 #[.slice A12 (n + kf.1.length) c12, .int .u64 ((tg : Int) / 4), .int .i64 ((tg : Int) % 4), .slice A14 vf.1.length c14] := t15
  obtain ⟨F, hF⟩ : ∃ F : Array Value, #[.slice A12 (n + kf.1.length) c12, .int .u64 ((tg : Int) / 4), .int .i64 ((tg : Int) % 4), .slice A14 vf.1.length c14] = F := ⟨_, rfl⟩
  have hFs : F.size = 4 := by rw [← hF]; rfl
  have hF1 : F.all (·.oneCell') = true := by rw [← hF]; simp [Value.oneCell']
  have hFi : (Try.prog.info? 29).map (·.size) = some F.size := by rw [hFs]; rfl
  rw [hF] at tF
  have la : (loadK 29 ⟨eb, 0, none⟩).run Try.prog w15.drew = .ok (.agg F) w15.drew := run_loadVar_row _ eb _ _ F (0, 0) _ tF Try.underlying29 rfl hFi
  have hgs := grown_setRow w15.drew rb F
  have r16 : Rdr w15.drew g A c zs vf.2.1 vf.2.2 := r15.drewN 1
  have r17 := r16.keep hgs (fun e => hrg (Option.some.inj e)) hAr
  have CE0 := Lib.hid (rdrErr _ r16)
  have CE1 := Lib.hid (rdrErr _ r17)
  have h17 := Rb.beside (show Rb w15.drew w15.drew.heap.size A12 (key.take n ++ kf.1) from h15) hgs (fun _ a ha e => (HHA.out a ha).2.2.2.2 (Option.some.inj e).symm)
  have h17v := Rb.beside (show Rb w15.drew w15.drew.heap.size A14 vf.1 from h15v) hgs (fun _ a ha e => by have := hn14 a ha; have := Option.some.inj e; omega)
  have g17 := grown_fresh (only_drewN g15 1) hgs (by omega)
  have hs17 : w15.heap.size ≤ (w15.drew.setRow rb F).heap.size := hgs.size
  have hee : ((vf.2.2 : Int) == 0) = decide (vf.2.2 = 0) := by
    by_cases h0 : vf.2.2 = 0
    · simp [h0]
    · rw [decide_eq_false h0, beq_eq_false_iff_ne]; omega
  have hpost : EntPost w g A c zs Ak r (.returned (.tuple #[.agg F, .bool ((vf.2.2 : Int) == 0)])) (w15.drew.setRow rb F) := by
    rw [HR3.out]
    have hkl : (key.take n ++ kf.1).length = n + kf.1.length := by rw [List.length_append, hkt]
    refine ⟨A12, c12, A14, c14, ?_, r17, g17, h17, by rw [hkl]; exact HL12.out, h17v, hl14, fun e => ?_, fun e => (hz14 e).2, fun a ha => ⟨(HHA.out a ha).2.2.1, ?_⟩, fun a ha => ?_⟩
    · rw [hkl, hee, ← hF]
      simp
    · obtain ⟨h1, -, h3⟩ := HZ12.out e
      have h4 : key = [] := nil_of HK9.out h1
      have h5 := HN.out
      have h6 := HBND.out
      rw [h4] at h5
      simp at h5
      omega
    · have h1 := (HHA.out a ha).2.2.2.1
      omega
    · have h1 := hn14 a ha
      have h2 := HRB.out
      omega
  have HPOST := Lib.hid hpost
  have HB15 := Lib.hid b15
  have HLA := Lib.hid la
  have HLA2 : Hid ((loadK 29 ⟨eb, 0, none⟩).run Try.prog (w15.drew.setRow rb F) = .ok (.agg F) (w15.drew.setRow rb F)) := Lib.hid (run_loadVar_row _ eb _ _ F (0, 0) _ ((show Bk w15.drew eb 29 F from tF).grown (grown_setRow w15.drew rb F) (fun e => by have := Option.some.inj e; omega)) Try.underlying29 rfl hFi)
  clear hpost hee g17 h17 h17v r17 r16 hgs hs17 tF b15 r15 t15 h15 h15v g15 hs15
  have la1 := HLA.out
  have la2 := HLA2.out
  have hsto : (storeCells ⟨rb, 0, none⟩ F.toList).run Try.prog w15.drew = .ok () (w15.drew.setRow rb F) := by
    have h := run_storeVar_row (P := Try.prog) w15.drew rb 29 29 _ F (show w15.drew.heap[rb]? = _ from HB15.out) hFi (by rw [hFs]; rfl) hF1
    have hi4 : ∃ i0, Try.prog.info? 29 = some i0 ∧ i0.size = 4 := by
      cases hq : Try.prog.info? 29 with
      | none => rw [hq] at hFi; simp at hFi
      | some i0 => exact ⟨i0, rfl, by rw [hq, hFs] at hFi; simpa using hFi⟩
    obtain ⟨i0, hi0, hi1⟩ := hi4
    simpa [storeVar, sizeOf, typeInfo, hi0, hi1, Value.cells, hFs] using h
  go_region_held3 (fun w' => (loadK 29 ⟨eb, 0, none⟩).run Try.prog w' = .ok (.agg F) w') (go_keep) (first
    | (go_at_call 48; first | ((with_reducible refine CE0.out.mono ?_); rintro e16 w16 ⟨rfl, hw16⟩; subst hw16) | ((with_reducible refine CE1.out.mono ?_); rintro e16 w16 ⟨rfl, hw16⟩; subst hw16))
    | (refine step_store_row (by rfl) 29 (.tmp 4) (.tmp 65) (by rfl) rb F (by rfl) (by rfl) 29 _ (by exact HB15.out) hFi (by rw [hFs]; rfl) hF1 ?_)
    | fail)
  all_goals go_wp2_with fail
  all_goals refine bodyPost_ret (results_cell_row_tmp rfl _ _ rb 29 F _ rfl (by exact setRow_heap _ rb _ F _ (0, 0) HB15.out) Try.underlying29 rfl hFi) rfl ?_
  all_goals exact HPOST.out
end Go.Proofs.Ytleghbdkjdpilaa
