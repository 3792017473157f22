/- Texts of the proof of VfsKeepsSaid, joined: VgT AcI VfsKeeps VfsKeepsP. -/
import Derived.Test.YtdjmmdhjjdnbdaaJVfsKeeps12
import Derived.Test.YtdjmmdhjjdnbdaaJVfsKeeps3
import Derived.Deep.Slices
import Derived.Test.YtdjmmdhjjdnbdaaJVfsKeeps2
/- Layer 4: a crash told by its state, names of none and one. -/
namespace Go.Proofs.Ytdjmmdhjjdnbdaa
open Go.RowKit

/-- A crash told by its state. -/
theorem SeCrash.is {w0 W w' : World} {K : Nat → Prop} {F k : Nat} {S T : VSt} {n : Int} {keep : List Int} {e : Ending} {L0 : List (ByteArray × Nat)} (h : SeCrash w0 W K F k S n keep e w') (hL : S.dirN (VSt.modulo n S.chg.length) = L0) (h1 : L0.length ≤ 1) (hT : S.crash n keep L0 = T) :
    e = .returned (.int .i64 0) ∧ Se w0 w' (Kn K W.heap.size w'.heap.size) F T (k + 1) ∧ FrK W w' K := by
  obtain ⟨L, h2, -, h3⟩ := h
  rw [hL] at h2
  have hl : L = L0 := by
    match L0, h1 with
    | [], _ => exact List.perm_nil.1 h2
    | [x], _ => exact List.perm_singleton.1 h2
  subst hl
  rw [hT] at h3
  exact h3
theorem NamesPost.nil {w w' : World} {L : List (ByteArray × Nat)} {e : Ending} (h : NamesPost w L e w') (hL : L = []) : ∃ A c, e = .returned (.slice A 0 c) ∧ Below w.heap.size w w' := by
  obtain ⟨A, c, l, rfl, -, h2, -, -, h3⟩ := h
  subst hL
  have := List.perm_nil.1 h2
  subst this
  exact ⟨A, c, rfl, h3⟩
theorem NamesPost.one {w w' : World} {L : List (ByteArray × Nat)} {e : Ending} {s : ByteArray} {i : Nat} (h : NamesPost w L e w') (hL : L = [(s, i)]) : ∃ A c, e = .returned (.slice A 1 c) ∧ Rd w' w'.heap.size A [strV s] ∧ Below w.heap.size w w' := by
  obtain ⟨A, c, l, rfl, -, h2, h4, -, h3⟩ := h
  subst hL
  have := List.perm_singleton.1 h2
  subst this
  exact ⟨A, c, rfl, h4, h3⟩
end Go.Proofs.Ytdjmmdhjjdnbdaa

/- Layer 4: what comes in: a call (the law's Act), and a list of them. -/
namespace Go.Proofs.Ytdjmmdhjjdnbdaa
open Go.ChangeShapes Go.WideShapes Go.ChangeAt Go.RowKit

theorem open_fBv {H : Type} {enc : TypeId × Value → H} {W : World} {base : Nat} {held : Bool} {v : Value} {fuel : Nat} {x : DataW H × List MemPlace}
    (h : DataW.trod enc Try.prog W base (fun _ => true) held fuel 24 [v] = some x) : ∃ A n c zs, v = .slice A n c ∧ InB W A n c zs := by
  rcases open_ints Try.underlying24 Try.underlying5 (by kernel_rfl) h with ⟨hcs, _⟩ | ⟨a, l, c, zs, hcs, _, hl, hm, hz, _, hcell, hwz⟩
  · simp at hcs
    subst hcs
    obtain ⟨zs, hi⟩ := open_inB (enc := enc) (d := x.1) (p := x.2) ⟨fuel, h⟩
    exact ⟨_, _, _, zs, rfl, hi⟩
  · simp at hcs
    subst hcs
    obtain ⟨zs, hi⟩ := open_inB (enc := enc) (d := x.1) (p := x.2) ⟨fuel, h⟩
    exact ⟨_, _, _, zs, rfl, hi⟩
theorem rd_of_cellsV {w : World} {k : IntKind} {A : Option Addr} {zs : List Int} {L : Nat} (hn : A = none → zs.length = 0) (hc : ∀ a, A = some a → ∀ c, c < zs.length → w.cell? (a.add c) = some (.int k (zs.getD c 0))) : Rd w w.heap.size A ((zs.take L).map (Value.int k)) := by
  intro hne
  have hpos : 0 < zs.length := by
    rcases Nat.eq_zero_or_pos zs.length with h0 | h0
    · rw [List.eq_nil_of_length_eq_zero h0] at hne; simp at hne
    · exact h0
  cases A with
  | none => have := hn rfl; omega
  | some a =>
    obtain ⟨b, off, spot⟩ := a
    have h0 := hc _ rfl 0 hpos
    have hspot : spot = none := by simpa [Addr.add] using World.cell?_spot h0
    subst hspot
    refine ⟨b, off, rfl, World.block_lt_of_cell? w ⟨b, off, none⟩ (by simpa [Addr.add] using h0), fun j u hu => ?_⟩
    rw [List.map_take, List.getElem?_take] at hu
    split at hu
    · have hj : j < zs.length := by
        have := (List.getElem?_eq_some_iff.1 hu).1
        simpa using this
      have h2 := hc _ rfl j hj
      rw [Addr.add_lit] at h2
      rw [h2, ← hu]
      simp [List.getD, hj]
    · cases hu
/-- An int of a machine. -/
def I64 (x : Int) : Prop := -9223372036854775808 ≤ x ∧ x ≤ 9223372036854775807
theorem i64_wf {x : Int} (h : (Lit.int .i64 x).wf = true) : I64 x := by
  unfold I64
  simp [Lit.wf, IntKind.min, IntKind.max, IntKind.signed, IntKind.bits] at h
  omega
/-- A slice of ints that came in. -/
structure InIv (w : World) (A : Option Addr) (n c : Nat) (zs : List Int) : Prop where
  rd : Rd w w.heap.size A (zs.map intV)
  len : zs.length = n
  cap : n ≤ c
  max : c ≤ maxLen
  wf : ∀ x ∈ zs, I64 x
theorem open_fIv {H : Type} {enc : TypeId × Value → H} {W : World} {base : Nat} {held : Bool} {v : Value} {fuel : Nat} {x : DataW H × List MemPlace}
    (h : DataW.trod enc Try.prog W base (fun _ => true) held fuel 34 [v] = some x) : ∃ A n c zs, v = .slice A n c ∧ InIv W A n c zs := by
  rcases open_ints Try.underlying34 Try.underlying3 (by kernel_rfl) h with ⟨hcs, _⟩ | ⟨a, l, c, zs, hcs, _, hl, hm, hz, _, hcell, hwz⟩
  · simp at hcs
    subst hcs
    exact ⟨none, 0, 0, [], rfl, Rd.nil, rfl, Nat.le_refl _, by simp [maxLen], fun x hx => by simp at hx⟩
  · simp at hcs
    subst hcs
    have hz : zs.length = c := by simpa using hz
    exact ⟨_, _, _, zs.take l, rfl, rd_of_cellsV (fun e => by cases e) (fun a e c hc => by cases e; exact hcell c hc), by simp; omega, hl, hm, fun y hy => i64_wf (hwz y (List.mem_of_mem_take hy))⟩
/-- A call of the law's script. -/
structure VAct where
  kind : Int
  a : ByteArray
  c : ByteArray
  b : List Int
  n : Int
  m : Int
  e : Int
  keep : List Int
/-- A call, and where its slices lie. -/
structure VAc where
  x : VAct
  Ab : Option Addr
  cb : Nat
  Ak : Option Addr
  ck : Nat
def acC (z : VAc) : List Value := [.int .i64 z.x.kind, .string z.x.a, .string z.x.c, .slice z.Ab z.x.b.length z.cb, .int .i64 z.x.n, .int .i64 z.x.m, .int .i64 z.x.e, .slice z.Ak z.x.keep.length z.ck]
/-- What is known of a call that came in. -/
structure AcOk (w : World) (B : Nat) (z : VAc) : Prop where
  b : Rb w B z.Ab z.x.b
  byt : Byt z.x.b
  k : Rd w B z.Ak (z.x.keep.map intV)
  kw : ∀ x ∈ z.x.keep, I64 x
  a : z.x.a.size ≤ maxLen
  c : z.x.c.size ≤ maxLen
  kind : I64 z.x.kind
  n : I64 z.x.n
  m : I64 z.x.m
  e : I64 z.x.e
  bl : z.x.b.length ≤ maxLen
  kl : z.x.keep.length ≤ maxLen
  bc : z.x.b.length ≤ z.cb
  kc : z.x.keep.length ≤ z.ck
set_option maxRecDepth 100000 in
theorem open_acCells {H : Type} {enc : TypeId × Value → H} {W : World} {base : Nat} {held : Bool} {v0 v1 v2 v3 v4 v5 v6 v7 : Value} {fuel : Nat} {x : DataW H × List MemPlace}
    (h : DataW.trod enc Try.prog W base (fun _ => true) held fuel 53 [v0, v1, v2, v3, v4, v5, v6, v7] = some x) :
    ∃ z : VAc, [v0, v1, v2, v3, v4, v5, v6, v7] = acC z ∧ AcOk W W.heap.size z := by
  obtain ⟨xs, n, _, hx, hlen, hyl, hf⟩ := DataW.trod_struct Try.underlying53 h
  match xs, hyl with
  | [y0, y1, y2, y3, y4, y5, y6, y7], _ =>
    have cI : Try.prog.cellsOf 3 = 1 := by kernel_rfl
    have cS : Try.prog.cellsOf 9 = 1 := by kernel_rfl
    have cB : Try.prog.cellsOf 24 = 1 := by kernel_rfl
    have cE : Try.prog.cellsOf 26 = 1 := by kernel_rfl
    have cK : Try.prog.cellsOf 34 = 1 := by kernel_rfl
    have h0 : DataW.trod enc Try.prog W base (fun _ => true) held n 3 (([v0, v1, v2, v3, v4, v5, v6, v7].drop 0).take (Try.prog.cellsOf 3)) = some y0 := hf 0 _ rfl
    have h1 : DataW.trod enc Try.prog W base (fun _ => true) held n 9 (([v0, v1, v2, v3, v4, v5, v6, v7].drop 1).take (Try.prog.cellsOf 9)) = some y1 := hf 1 _ rfl
    have h2 : DataW.trod enc Try.prog W base (fun _ => true) held n 9 (([v0, v1, v2, v3, v4, v5, v6, v7].drop 2).take (Try.prog.cellsOf 9)) = some y2 := hf 2 _ rfl
    have h3 : DataW.trod enc Try.prog W base (fun _ => true) held n 24 (([v0, v1, v2, v3, v4, v5, v6, v7].drop 3).take (Try.prog.cellsOf 24)) = some y3 := hf 3 _ rfl
    have h4 : DataW.trod enc Try.prog W base (fun _ => true) held n 3 (([v0, v1, v2, v3, v4, v5, v6, v7].drop 4).take (Try.prog.cellsOf 3)) = some y4 := hf 4 _ rfl
    have h5 : DataW.trod enc Try.prog W base (fun _ => true) held n 3 (([v0, v1, v2, v3, v4, v5, v6, v7].drop 5).take (Try.prog.cellsOf 3)) = some y5 := hf 5 _ rfl
    have h6 : DataW.trod enc Try.prog W base (fun _ => true) held n 26 (([v0, v1, v2, v3, v4, v5, v6, v7].drop 6).take (Try.prog.cellsOf 26)) = some y6 := hf 6 _ rfl
    have h7 : DataW.trod enc Try.prog W base (fun _ => true) held n 34 (([v0, v1, v2, v3, v4, v5, v6, v7].drop 7).take (Try.prog.cellsOf 34)) = some y7 := hf 7 _ rfl
    rw [cI] at h0 h4 h5
    rw [cS] at h1 h2
    rw [cB] at h3
    rw [cE] at h6
    rw [cK] at h7
    simp only [List.drop_zero, List.drop_succ_cons, List.take_succ_cons, List.take_zero] at h0 h1 h2 h3 h4 h5 h6 h7
    obtain ⟨k0, e0, -, w0⟩ := DataW.trod_int Try.underlying3 h0
    obtain ⟨k1, e1, -, w1⟩ := DataW.trod_string Try.underlying9 h1
    obtain ⟨k2, e2, -, w2⟩ := DataW.trod_string Try.underlying9 h2
    obtain ⟨A3, n3, c3, z3, e3, i3⟩ := open_fBv h3
    obtain ⟨k4, e4, -, w4⟩ := DataW.trod_int Try.underlying3 h4
    obtain ⟨k5, e5, -, w5⟩ := DataW.trod_int Try.underlying3 h5
    obtain ⟨k6, e6, -, w6⟩ := DataW.trod_int (k := .i64) (by kernel_rfl) h6
    obtain ⟨A7, n7, c7, z7, e7, i7⟩ := open_fIv h7
    simp at e0 e1 e2 e4 e5 e6
    subst e0 e1 e2 e3 e4 e5 e6 e7
    have l3 := i3.len
    have l7 := i7.len
    have q3 := i3.cap
    have q7 := i7.cap
    have m3 := i3.max
    have m7 := i7.max
    refine ⟨⟨⟨k0, k1, k2, z3, k4, k5, k6, z7⟩, A3, c3, A7, c7⟩, by rw [acC]; simp only [l3, l7], ⟨i3.rd, i3.byt, i7.rd, i7.wf, w1, w2, i64_wf w0, i64_wf w4, i64_wf w5, i64_wf w6, by show z3.length ≤ _; omega, by show z7.length ≤ _; omega, by show z3.length ≤ c3; omega, by show z7.length ≤ c7; omega⟩⟩
theorem eight {v : Array Value} (h : v.size = 8) : ∃ v0 v1 v2 v3 v4 v5 v6 v7, v = #[v0, v1, v2, v3, v4, v5, v6, v7] := by
  obtain ⟨l⟩ := v
  simp at h
  match l, h with
  | [v0, v1, v2, v3, v4, v5, v6, v7], _ => exact ⟨v0, v1, v2, v3, v4, v5, v6, v7, rfl⟩
/-- A call as a value. -/
def acV (z : VAc) : Value := .agg (acC z).toArray
set_option maxRecDepth 100000 in
theorem open_inAct {H : Type} {enc : TypeId × Value → H} {W : World} {base b0 : Nat} {r : Reach} {held : Bool} {v : Value} {d : DataW H} {p : List MemPlace} (hv : Value.okWide Try.prog W r b0 53 v)
    (h : DataW.Trod enc Try.prog W base (fun _ => true) held 53 v d p) : ∃ z : VAc, v = acV z ∧ AcOk W W.heap.size z := by
  obtain ⟨cs, rfl, hsz⟩ := okWide_struct Try.underlying53 hv
  obtain ⟨v0, v1, v2, v3, v4, v5, v6, v7, rfl⟩ := eight (hsz.trans (by kernel_rfl))
  obtain ⟨fuel, hf⟩ := h
  have h8 : DataW.trod enc Try.prog W base (fun _ => true) held fuel 53 [v0, v1, v2, v3, v4, v5, v6, v7] = some (d, p) := hf
  obtain ⟨z, hz, hok⟩ := open_acCells h8
  exact ⟨z, by rw [acV, ← hz], hok⟩
end Go.Proofs.Ytdjmmdhjjdnbdaa

/- The statement VfsKeeps: what was synced is there behind every crash, and of what was not a first part. The walk. -/
namespace Go.Proofs.Ytdjmmdhjjdnbdaa
open Go.RowKit

theorem kp_ok (x : Int) (n : Nat) : ((0 : Nat) : Int) = 0 := rfl
set_option maxRecDepth 100000 in
theorem run_slH (w : World) (a : Option Addr) (n c k : Nat) (hk : k ≤ c) (hz : Option.map (fun x : Addr => x.add 0) a = a) :
    (Instr.slice 24 (.slice a n c) none (some (.int .i64 (k : Nat))) none).run Try.prog w = .ok (.slice a k c) w := by
  have h1 := run_slice_h (P := Try.prog) w 24 a n c Try.underlying24 .i64 (k : Nat) (by omega) (by omega)
  rw [h1]
  have hs : (sizeOf (Try.prog.elem 24)).run Try.prog w = .ok 1 w := by kernel_rfl
  rw [hs]
  simp [Result.andThen, sliced, hz]
theorem add_zero_map (a : Option Addr) : Option.map (fun x : Addr => x.add 0) a = a := by
  cases a with
  | none => rfl
  | some x =>
    obtain ⟨b, off, spot⟩ := x
    cases spot <;> simp [Addr.add]
theorem kp_again (xs : List Int) (s o : Nat) (hs : s = xs.length) (dir keep : Int) : (kp xs s o true).crash dir [keep] [(tX, 0)] = kp xs s o true := by
  subst hs
  have h := kp_crash xs [] o true dir keep rfl
  have hm := modulo_le keep 0
  simp only [List.append_nil, List.take_nil, List.length_nil] at h
  rw [h, show VSt.modulo keep 0 = 0 by omega]
  rfl
theorem step_appW {w : World} {ops : Array Oper} {o : Oper} {a : Act} {K : Act → World → Prop} {Q : Exit → Act → World → Prop} {E : Prop} (hw : Region.wanted o (yielded ops a.tmps) = true) (s x : Operand)
    (ho : o.op = .call { callee := .builtin .append, args := #[s, x], argTypes := #[24, 24] })
    (base : Nat) (v : Value) (n : Nat) (xs : List Int) (hs : a.eval s = v) (hown : w.ownsRow base 5 1 v n (bv xs))
    (B : Nat) (A : Option Addr) (m c : Nat) (news : List Int) (hx : a.eval x = .slice A m c) (hl : news.length = m) (hr : Rd w B A (bv news))
    (hbytes : n + m ≤ 140737488355328) (hbase : base ≤ w.heap.size)
    (h : ∀ A' c' w', w'.ownsRow base 5 1 (.slice A' (n + m) c') (n + m) (bv (xs ++ news)) → w.grownBy w' v.ownBlock → K (a.put o.dst (.slice A' (n + m) c')) w') :
    if Region.wanted o (yielded ops a.tmps) = true then Oper.wp Try.prog o a w K Q else E := by
  rw [if_pos hw]
  obtain ⟨i0, hi0, hz0, hz1, hz2⟩ := info_parts (show (Try.prog.info? 5).map (fun i => (i.zero, i.size, i.bytes)) = some (some (.int .u8 0), 1, 1) from by kernel_rfl)
  refine wp_app w s x _ ho base 5 i0 _ 1 1 Try.underlying24 hi0 hz0 hz1 hz2 rfl (by omega) v n (bv xs) hs hown B A m c (bv news) hx (by rw [bv_length]; omega) hr (bv_one news) (by simp only [maxLen]; omega) (by omega) hbase ?_
  intro A' c' w' h1 h2 h3 h4
  rw [← bv_append] at h1
  exact h A' c' w' h1 h2
theorem App.ownLo {base size n m : Nat} {e : TypeId} {w w' : World} {A : Option Addr} {c : Nat} {xs : List Value} (h : App base e size w (.slice none 0 0) w' (.slice A m c) n xs) (g : Nat) (hg : (Value.slice A m c).ownBlock = some g) : w.heap.size ≤ g := by
  rcases h.block with hb | ⟨k, hk, hl⟩
  · rw [hb] at hg
    simp [Value.ownBlock] at hg
  · rw [hk] at hg
    injection hg with hg
    omega
theorem Below.of_grownBy {w w' : World} {B : Nat} {row : Option Nat} (h : w.grownBy w' row) (hr : ∀ g, row = some g → B ≤ g) (hB : B ≤ w.heap.size) : Below B w w' :=
  ⟨h.os, h.tape, h.output, h.size, fun k hk => h.block k (by omega) (fun e => by have := hr k e.symm; omega)⟩
theorem eqb_refl (xs : List Int) : eqb xs xs = true := by simp [eqb]
theorem keepsJoin {w11 w12 w13 : World} {A3 A4 A5 : Option Addr} {c4 c5 n1 n : Nat} {zs a ys : List Int} (hr : Rb w11 w11.heap.size A3 zs) (happ : App w11.drew.heap.size 5 1 w11.drew (.slice none 0 0) w12 (.slice A4 n1 c4) n1 (bv a)) (hgr : w12.grownBy w13 (Value.slice A4 n1 c4).ownBlock) (hown : w13.ownsRow w11.heap.size 5 1 (.slice A5 n c5) n (bv ys)) :
    Rb w13 w11.heap.size A3 zs ∧ Rb w13 w13.heap.size A5 ys ∧ Below w11.heap.size w11 w13 := by
  have hlow := happ.ownLo
  have hs : w11.heap.size ≤ w12.heap.size := happ.below0.size
  have hb : Below w11.heap.size w11 w13 := (Below.drew (Below.refl _ w11)).trans (happ.below0.trans (Below.of_grownBy hgr hlow hs))
  exact ⟨hr.below hb, Rd.of_own hown, hb⟩
theorem Se.later {w0 W : World} {K : Nat → Prop} {F k : Nat} {S : VSt} (h : Se w0 W K F S k) {w : World} (hb : Below w.heap.size w w0) : Below w.heap.size w W := hb.trans (h.bel.mono hb.size)
/-- A slice of bytes outside the file system's blocks. -/
theorem Rb.out {W w' : World} {K : Nat → Prop} {A : Option Addr} {zs : List Int} (h : Rb W W.heap.size A zs) (hf : FrK W w' K) (hk : ∀ a, A = some a → ¬K a.block) : Rb w' w'.heap.size A zs := (Rd.frK h hf hk (Nat.le_refl _)).more hf.size
set_option maxRecDepth 100000 in
set_option maxHeartbeats 16000000 in
theorem vfsKeeps_walk (A1 : Option Addr) (n1 c1 : Nat) (a : List Int) (A2 : Option Addr) (n2 c2 : Nat) (b : List Int) (dir keep : Int) (named : Bool) (w : World) (ha : InB w A1 n1 c1 a) (hb : InB w A2 n2 c2 b) (hdir : I64 dir) (hkeep : I64 keep) :
    Calls Try.prog 4 #[.slice A1 n1 c1, .slice A2 n2 c2, .int .i64 dir, .int .i64 keep, .bool named] w fun e w' => e = .returned (.bool true) ∧ Below w.heap.size w w' := by
  have hra := ha.rd
  have hrb := hb.rd
  have hla := ha.len
  have hlb := hb.len
  have hca := ha.cap
  have hcb := hb.cap
  have hba := ha.byt
  have hbb := hb.byt
  have hma := ha.max
  have hmb := hb.max
  unfold maxLen at hma hmb
  obtain ⟨hd1, hd2⟩ := hdir
  obtain ⟨hk1, hk2⟩ := hkeep
  have HRA := Lib.hid hra
  have HRB := Lib.hid hrb
  have HLA := Lib.hid hla
  have HLB := Lib.hid hlb
  have HBA := Lib.hid hba
  have HBB := Lib.hid hbb
  have HAZ := Lib.hid (add_zero_map A2)
  clear ha hb hra hrb hla hlb hba hbb
  by_cases hlong : 300 < n1 ∨ 300 < n2
  · by_cases h1 : 300 < n1
    · have e1 : decide ((n1 : Int) > 300) = true := by simp; omega
      go_enter Try.func4, Try.ntmps4
      go_wp2_with fail
      refine (vfLives w).mono ?_
      rintro e w1 ⟨rfl, hb1⟩
      go_wp2_with fail
      go_ret
      exact ⟨rfl, hb1⟩
    · have e1 : decide ((n1 : Int) > 300) = false := by simp; omega
      have e2 : decide ((n2 : Int) > 300) = true := by simp; omega
      go_enter Try.func4, Try.ntmps4
      go_wp2_with fail
      refine (vfLives w).mono ?_
      rintro e w1 ⟨rfl, hb1⟩
      go_wp2_with fail
      go_ret
      exact ⟨rfl, hb1⟩
  · have e1 : decide ((n1 : Int) > 300) = false := by simp; omega
    have e2 : decide ((n2 : Int) > 300) = false := by simp; omega
    have q1 : n1 ≤ 300 := by omega
    have q2 : n2 ≤ 300 := by omega
    clear hlong

    cases named with
    | true =>
      go_enter Try.func4, Try.ntmps4
      go_wp2_with fail
      refine (vfLives w).mono ?_
      rintro e w1 ⟨rfl, hb1⟩
      have HB1 := Lib.hid hb1
      clear hb1
      go_wp2_with fail
      refine (seNew w1 10000 (by omega)).mono ?_
      rintro e w2 ⟨F, rfl, s⟩
      have c := (seCreate s (by omega) tX (by decide)).mono fun e w' h => h.is kp_new (x := 0) rfl
      have C := Lib.hid c
      clear c s
      go_wp2_with fail
      refine C.out.mono ?_
      rintro e w3 ⟨rfl, s, -⟩
      clear C
      have hr := HRA.out.below (s.later HB1.out)
      have co := kitOwn (c := c1) w3 hr (s.later HB1.out).size (by rw [HLA.out]; omega) HLA.out
      have CO := Lib.hid co
      clear co hr
      go_wp2_with fail
      refine CO.out.mono ?_
      rintro e w4 ⟨A', c', rfl, happ, -⟩
      clear CO
      have hr := happ.rd
      have hnk : ∀ x, A' = some x → ¬Kn (Kn Kno w1.heap.size w2.heap.size) w2.heap.size w3.heap.size x.block := fun x hx e => by
        have h1 := (happ.lo x hx).1
        have h2 := (s.kLo e).2
        omega
      replace s := s.below happ.below0
      have c := (seAppend (c := c') (zs := a) s (by omega) tX (by decide) hr HBA.out hnk HLA.out (Nat.le_refl _) q1).mono fun e w' h => h.is (kp_append [] a 0 1 false (by rw [HLA.out]; simp; omega)) (x := 0) rfl
      have C := Lib.hid c
      clear c s hr hnk happ
      go_wp2_with fail
      refine C.out.mono ?_
      rintro e w5 ⟨rfl, s, -⟩
      clear C
      rw [List.nil_append] at s
      have c := (seSync s (by omega) tX (by decide)).mono fun e w' h => h.is (kp_sync a 0 2 false) (x := 0) rfl
      have C := Lib.hid c
      clear c s
      go_wp2_with fail
      refine C.out.mono ?_
      rintro e w6 ⟨rfl, s, -⟩
      clear C
      generalize Kn (Kn (Kn (Kn Kno w1.heap.size w2.heap.size) w2.heap.size w3.heap.size) w4.heap.size w5.heap.size) w5.heap.size w6.heap.size = K6 at s
      have c := (seSyncDir s (by omega)).mono fun e w' h => h.is (kp_syncDir a a.length 3 false) (x := 0) rfl
      have C := Lib.hid c
      clear c s
      go_wp2_with fail
      refine C.out.mono ?_
      rintro e w7 ⟨rfl, s, -⟩
      clear C
      generalize Kn K6 w6.heap.size w7.heap.size = K7 at s
      have hr := HRB.out.below (s.later HB1.out)
      have co := kitOwn (c := c2) w7 hr (s.later HB1.out).size (by rw [HLB.out]; omega) HLB.out
      have CO := Lib.hid co
      clear co hr
      go_wp2_with fail
      refine CO.out.mono ?_
      rintro e w8 ⟨A', c', rfl, happ, -⟩
      clear CO
      have hr := happ.rd
      have hnk : ∀ x, A' = some x → ¬K7 x.block := fun x hx e => by
        have h1 := (happ.lo x hx).1
        have h2 := (s.kLo e).2
        omega
      replace s := s.below happ.below0
      have c := (seAppend (c := c') (zs := b) s (by omega) tX (by decide) hr HBB.out hnk HLB.out (Nat.le_refl _) q2).mono fun e w' h => h.is (kp_append a b a.length 4 true (by rw [HLA.out, HLB.out]; omega)) (x := 0) rfl
      have C := Lib.hid c
      clear c s hr hnk happ
      go_wp2_with fail
      refine C.out.mono ?_
      rintro e w9 ⟨rfl, s, -⟩
      clear C
      generalize Kn K7 w8.heap.size w9.heap.size = K9 at s
      have hr : Rd (w9.alloc (.cells #[.int .i64 keep] 3)) (w9.heap.size + 1) (some ⟨w9.heap.size, 0, none⟩) ([keep].map intV) := Rd.lit w9 #[.int .i64 keep] 3
      have hnk := s.new rfl
      replace s := s.alloc (.cells #[.int .i64 keep] 3)
      have c := seCrash (ck := 1) (nk := 1) (keep := [keep]) s (by omega) dir hd1 hd2 hr (by simp) rfl hnk (fun x hx => by simp at hx; omega) (by omega)
      have hin : kpIn true dir = true := rfl
      have c := c.mono fun e w' h => h.is (L0 := [(tX, 0)]) ((kp_dir (a ++ b) a.length 5 true dir).trans (by rw [hin]; rfl)) (by decide) (kp_crash a b 5 true dir keep hin)
      have C := Lib.hid c
      clear c s hr hnk
      obtain ⟨km, hkm⟩ : ∃ km, VSt.modulo keep b.length = km := ⟨_, rfl⟩
      rw [hkm] at C
      have hkl : km ≤ n2 := by rw [← hkm, ← HLB.out]; exact modulo_le keep _
      have HKM := Lib.hid hkm
      clear hkm
      go_wp2_with fail
      refine C.out.mono ?_
      rintro e w10 ⟨rfl, s, -⟩
      clear C
      generalize Kn K9 (w9.alloc _).heap.size w10.heap.size = K10 at s
      have hgl : (a ++ b.take km).length = n1 + km := by rw [List.length_append, List.length_take, HLA.out, HLB.out]; omega
      obtain ⟨g, hg⟩ : ∃ g, g = a ++ b.take km := ⟨_, rfl⟩
      rw [← hg] at s hgl
      have HG := Lib.hid hg
      clear hg
      have c := (seRead s (by omega) tX (by decide) 0 1048576)
      rw [kp_read g _ _ _ (by rw [hgl]; omega)] at c
      have C := Lib.hid c
      have HGL := Lib.hid hgl
      clear c hgl
      by_cases hkp : 0 < keep
      · have d1 : decide (keep > 0) = true := by simpa using hkp
        have hkv : keep % ((n2 : Int) + 1) = (km : Int) := by
          have h1 := HKM.out
          unfold VSt.modulo at h1
          rw [if_neg (by omega), HLB.out] at h1
          have := Int.emod_nonneg keep (show (n2 : Int) + 1 ≠ 0 by omega)
          omega
        go_wp2_with fail
        refine C.out.mono ?_
        rintro e w11 ⟨A3, c3, rfl, hr3, hlo3, s2, hf3⟩
        clear C
        have hnk3 : ∀ x, A3 = some x → ¬K10 x.block := fun x hx e => by
          have h1 := hlo3 x hx
          have h2 := (s.kLo e).2
          omega
        have hl3 : w10.heap.size ≤ w11.heap.size := hf3.size
        have hbw := s2.later HB1.out
        have hra := HRA.out.below hbw
        have co := kitOwn (c := c1) w11.drew (Rd.drew hra) hbw.size (by rw [HLA.out]; omega) HLA.out
        have hsl : ∀ W, (Instr.slice 24 (.slice A2 n2 c2) none (some (.int .i64 ((km : Nat)))) none).run Try.prog W = .ok (.slice A2 km c2) W := fun W => run_slH W A2 n2 c2 km (by omega) HAZ.out
        have CO := Lib.hid co
        have hrb := HRB.out.below hbw
        have HRB2 := Lib.hid hrb
        have HR3 := Lib.hid hr3
        have S2 := Lib.hid s2
        have HBW := Lib.hid hbw
        have hnf3 : ∀ x, A3 = some x → ¬Kis F x.block := fun x hx e => by
          have e : x.block = F := e
          obtain ⟨m, hv⟩ := s2.vf
          exact hnk3 x hx (e ▸ hv.kF)
        clear co hra hrb hr3 s s2 hf3 hbw hlo3
        go_wp2_with fail
        go_region_held3 (fun _ => True) (trivial) (first
          | (go_at_call 14; refine CO.out.mono ?_; rintro e w12 ⟨A4, c4, rfl, happ, -⟩)
          | (go_at_call 21; refine CB.out.mono ?_; rintro e w14 ⟨rfl, m14, rfl⟩)
          | (refine step_appW (by rfl) _ _ (by rfl) w11.heap.size _ n1 a (by rfl) happ.own w.heap.size A2 km c2 (b.take km) (by rfl) (by rw [List.length_take, HLB.out]; omega) (Rb.take (Rd.below (Rd.drew HRB2.out) (happ.below0.mono HBW.out.size)) km) (by omega) happ.below0.size ?_; intro A5 c5 w13 hown5 hgr5; obtain ⟨hg3, ho5, hb5⟩ := keepsJoin HR3.out happ hgr5 hown5; have cb := kitBytes (c := c3) (c' := c5) w13 hg3 ho5 (by rw [HGL.out]; unfold maxLen; omega) (by rw [← HG.out, HGL.out]; unfold maxLen; omega) rfl (by rw [← HG.out, HGL.out]); rw [HG.out, eqb_refl, ← HG.out] at cb; have CB := Lib.hid cb; clear cb))
        clear HR3 happ hown5 hgr5 ho5 CB CO HRB2
        have s3 := (S2.out.below hb5).drewN m14
        have hle : w11.heap.size ≤ w13.heap.size := hb5.size
        have hr : Rd ((w13.drewN m14).alloc (.cells #[.int .i64 keep] 3)) (w13.heap.size + 1) (some ⟨w13.heap.size, 0, none⟩) ([keep].map intV) := Rd.lit (w13.drewN m14) #[.int .i64 keep] 3
        have hnk := s3.new rfl
        have hga := Rd.alloc (Rd.drewN hg3 m14) hle (.cells #[.int .i64 keep] 3)
        replace s3 := s3.alloc (.cells #[.int .i64 keep] 3)
        have hle2 : w11.heap.size ≤ ((w13.drewN m14).alloc (.cells #[.int .i64 keep] 3)).heap.size := by
          have : ((w13.drewN m14).alloc (.cells #[.int .i64 keep] 3)).heap.size = w13.heap.size + 1 := by simp
          omega
        have c := (seCrash (ck := 1) (nk := 1) (keep := [keep]) s3 (by omega) dir hd1 hd2 hr (by simp) rfl hnk (fun x hx => by simp at hx; omega) (by omega)).mono fun e w' h => h.is (L0 := [(tX, 0)]) ((kp_dir g _ _ true dir).trans rfl) (by decide) (kp_again g _ _ (by rw [HGL.out, HLA.out]) dir keep)
        have C := Lib.hid c
        have HGA := Lib.hid hga
        clear c s3 hr hnk hga hg3 hb5 S2
        go_wp2_with fail
        refine C.out.mono ?_
        rintro e w15 ⟨rfl, s4, hf4⟩
        clear C
        have hgb := Rd.frK HGA.out hf4 hnk3 hle2
        have hle3 : w11.heap.size ≤ w15.heap.size := Nat.le_trans hle2 hf4.size
        clear HGA hf4 hle2 hnk3
        have c := (seRead s4 (by omega) tX (by decide) 0 1048576)
        rw [kp_read g _ _ _ (by rw [HGL.out]; omega)] at c
        have C := Lib.hid c
        have HGB := Lib.hid hgb
        clear c s4 hgb
        go_wp2_with fail
        refine C.out.mono ?_
        rintro e w16 ⟨A6, c6, rfl, hr6, -, s5, hf6⟩
        clear C
        have hgc := Rd.frK HGB.out hf6 hnf3 hle3
        have cb := kitBytes (c := c3) (c' := c6) w16 hgc hr6 (by rw [HGL.out]; unfold maxLen; omega) (by rw [HGL.out]; unfold maxLen; omega) rfl rfl
        rw [eqb_refl] at cb
        have CB := Lib.hid cb
        have hfin := s5.later HB1.out
        clear cb s5 hgc hr6 hf6 HGB hnf3
        go_wp2_with fail
        refine CB.out.mono ?_
        rintro e w17 ⟨rfl, m17, rfl⟩
        go_wp2_with fail
        go_ret
        exact ⟨rfl, below_drewN hfin m17⟩
      · have d1 : decide (keep > 0) = false := by simpa using hkp
        have hk0 : km = 0 := by
          have h1 := HKM.out
          unfold VSt.modulo at h1
          split at h1
          · omega
          · have : keep = 0 := by omega
            rw [this] at h1
            simpa using h1.symm
        subst hk0
        go_wp2_with fail
        refine C.out.mono ?_
        rintro e w11 ⟨A3, c3, rfl, hr3, hlo3, s2, hf3⟩
        clear C
        have hnk3 : ∀ x, A3 = some x → ¬K10 x.block := fun x hx e => by
          have h1 := hlo3 x hx
          have h2 := (s.kLo e).2
          omega
        have hl3 : w10.heap.size ≤ w11.heap.size := hf3.size
        have hbw := s2.later HB1.out
        have hra := HRA.out.below hbw
        have co := kitOwn (c := c1) w11.drew (Rd.drew hra) hbw.size (by rw [HLA.out]; omega) HLA.out
        have hsl : ∀ W, (Instr.slice 24 (.slice A2 n2 c2) none (some (.int .i64 (0))) none).run Try.prog W = .ok (.slice A2 0 c2) W := fun W => by have := run_slH W A2 n2 c2 0 (by omega) HAZ.out; exact this
        have CO := Lib.hid co
        have hrb := HRB.out.below hbw
        have HRB2 := Lib.hid hrb
        have HR3 := Lib.hid hr3
        have S2 := Lib.hid s2
        have HBW := Lib.hid hbw
        have hnf3 : ∀ x, A3 = some x → ¬Kis F x.block := fun x hx e => by
          have e : x.block = F := e
          obtain ⟨m, hv⟩ := s2.vf
          exact hnk3 x hx (e ▸ hv.kF)
        clear co hra hrb hr3 s s2 hf3 hbw hlo3
        go_wp2_with fail
        go_region_held3 (fun _ => True) (trivial) (first
          | (go_at_call 14; refine CO.out.mono ?_; rintro e w12 ⟨A4, c4, rfl, happ, -⟩)
          | (go_at_call 21; refine CB.out.mono ?_; rintro e w14 ⟨rfl, m14, rfl⟩)
          | (refine step_appW (by rfl) _ _ (by rfl) w11.heap.size _ n1 a (by rfl) happ.own w.heap.size A2 0 c2 (b.take 0) (by rfl) (by rw [List.length_take, HLB.out]; omega) (Rb.take (Rd.below (Rd.drew HRB2.out) (happ.below0.mono HBW.out.size)) 0) (by omega) happ.below0.size ?_; intro A5 c5 w13 hown5 hgr5; obtain ⟨hg3, ho5, hb5⟩ := keepsJoin HR3.out happ hgr5 hown5; have cb := kitBytes (c := c3) (c' := c5) w13 hg3 ho5 (by rw [HGL.out]; unfold maxLen; omega) (by rw [← HG.out, HGL.out]; unfold maxLen; omega) rfl (by rw [← HG.out, HGL.out]); rw [HG.out, eqb_refl, ← HG.out] at cb; have CB := Lib.hid cb; clear cb))
        clear HR3 happ hown5 hgr5 ho5 CB CO HRB2
        have s3 := (S2.out.below hb5).drewN m14
        have hle : w11.heap.size ≤ w13.heap.size := hb5.size
        have hr : Rd ((w13.drewN m14).alloc (.cells #[.int .i64 keep] 3)) (w13.heap.size + 1) (some ⟨w13.heap.size, 0, none⟩) ([keep].map intV) := Rd.lit (w13.drewN m14) #[.int .i64 keep] 3
        have hnk := s3.new rfl
        have hga := Rd.alloc (Rd.drewN hg3 m14) hle (.cells #[.int .i64 keep] 3)
        replace s3 := s3.alloc (.cells #[.int .i64 keep] 3)
        have hle2 : w11.heap.size ≤ ((w13.drewN m14).alloc (.cells #[.int .i64 keep] 3)).heap.size := by
          have : ((w13.drewN m14).alloc (.cells #[.int .i64 keep] 3)).heap.size = w13.heap.size + 1 := by simp
          omega
        have c := (seCrash (ck := 1) (nk := 1) (keep := [keep]) s3 (by omega) dir hd1 hd2 hr (by simp) rfl hnk (fun x hx => by simp at hx; omega) (by omega)).mono fun e w' h => h.is (L0 := [(tX, 0)]) ((kp_dir g _ _ true dir).trans rfl) (by decide) (kp_again g _ _ (by rw [HGL.out, HLA.out]) dir keep)
        have C := Lib.hid c
        have HGA := Lib.hid hga
        clear c s3 hr hnk hga hg3 hb5 S2
        go_wp2_with fail
        refine C.out.mono ?_
        rintro e w15 ⟨rfl, s4, hf4⟩
        clear C
        have hgb := Rd.frK HGA.out hf4 hnk3 hle2
        have hle3 : w11.heap.size ≤ w15.heap.size := Nat.le_trans hle2 hf4.size
        clear HGA hf4 hle2 hnk3
        have c := (seRead s4 (by omega) tX (by decide) 0 1048576)
        rw [kp_read g _ _ _ (by rw [HGL.out]; omega)] at c
        have C := Lib.hid c
        have HGB := Lib.hid hgb
        clear c s4 hgb
        go_wp2_with fail
        refine C.out.mono ?_
        rintro e w16 ⟨A6, c6, rfl, hr6, -, s5, hf6⟩
        clear C
        have hgc := Rd.frK HGB.out hf6 hnf3 hle3
        have cb := kitBytes (c := c3) (c' := c6) w16 hgc hr6 (by rw [HGL.out]; unfold maxLen; omega) (by rw [HGL.out]; unfold maxLen; omega) rfl rfl
        rw [eqb_refl] at cb
        have CB := Lib.hid cb
        have hfin := s5.later HB1.out
        clear cb s5 hgc hr6 hf6 HGB hnf3
        go_wp2_with fail
        refine CB.out.mono ?_
        rintro e w17 ⟨rfl, m17, rfl⟩
        go_wp2_with fail
        go_ret
        exact ⟨rfl, below_drewN hfin m17⟩
    | false =>
      by_cases hz : dir ≤ 0
      · have hin : kpIn false dir = false := by
          have : VSt.modulo dir 1 = 0 := by
            unfold VSt.modulo
            split
            · rfl
            · have : dir = 0 := by omega
              rw [this]
              rfl
          unfold kpIn
          rw [this]
          rfl
        have d3 : decide (dir ≤ 0) = true := decide_eq_true hz
        go_enter Try.func4, Try.ntmps4
        go_wp2_with fail
        refine (vfLives w).mono ?_
        rintro e w1 ⟨rfl, hb1⟩
        have HB1 := Lib.hid hb1
        clear hb1
        go_wp2_with fail
        refine (seNew w1 10000 (by omega)).mono ?_
        rintro e w2 ⟨F, rfl, s⟩
        have c := (seCreate s (by omega) tX (by decide)).mono fun e w' h => h.is kp_new (x := 0) rfl
        have C := Lib.hid c
        clear c s
        go_wp2_with fail
        refine C.out.mono ?_
        rintro e w3 ⟨rfl, s, -⟩
        clear C
        have hr := HRA.out.below (s.later HB1.out)
        have co := kitOwn (c := c1) w3 hr (s.later HB1.out).size (by rw [HLA.out]; omega) HLA.out
        have CO := Lib.hid co
        clear co hr
        go_wp2_with fail
        refine CO.out.mono ?_
        rintro e w4 ⟨A', c', rfl, happ, -⟩
        clear CO
        have hr := happ.rd
        have hnk : ∀ x, A' = some x → ¬Kn (Kn Kno w1.heap.size w2.heap.size) w2.heap.size w3.heap.size x.block := fun x hx e => by
          have h1 := (happ.lo x hx).1
          have h2 := (s.kLo e).2
          omega
        replace s := s.below happ.below0
        have c := (seAppend (c := c') (zs := a) s (by omega) tX (by decide) hr HBA.out hnk HLA.out (Nat.le_refl _) q1).mono fun e w' h => h.is (kp_append [] a 0 1 false (by rw [HLA.out]; simp; omega)) (x := 0) rfl
        have C := Lib.hid c
        clear c s hr hnk happ
        go_wp2_with fail
        refine C.out.mono ?_
        rintro e w5 ⟨rfl, s, -⟩
        clear C
        rw [List.nil_append] at s
        have c := (seSync s (by omega) tX (by decide)).mono fun e w' h => h.is (kp_sync a 0 2 false) (x := 0) rfl
        have C := Lib.hid c
        clear c s
        go_wp2_with fail
        refine C.out.mono ?_
        rintro e w6 ⟨rfl, s, -⟩
        clear C
        generalize Kn (Kn (Kn (Kn Kno w1.heap.size w2.heap.size) w2.heap.size w3.heap.size) w4.heap.size w5.heap.size) w5.heap.size w6.heap.size = K6 at s
        have hr := HRB.out.below (s.later HB1.out)
        have co := kitOwn (c := c2) w6 hr (s.later HB1.out).size (by rw [HLB.out]; omega) HLB.out
        have CO := Lib.hid co
        clear co hr
        go_wp2_with fail
        refine CO.out.mono ?_
        rintro e w8 ⟨A', c', rfl, happ, -⟩
        clear CO
        have hr := happ.rd
        have hnk : ∀ x, A' = some x → ¬K6 x.block := fun x hx e => by
          have h1 := (happ.lo x hx).1
          have h2 := (s.kLo e).2
          omega
        replace s := s.below happ.below0
        have c := (seAppend (c := c') (zs := b) s (by omega) tX (by decide) hr HBB.out hnk HLB.out (Nat.le_refl _) q2).mono fun e w' h => h.is (kp_append a b a.length 3 false (by rw [HLA.out, HLB.out]; omega)) (x := 0) rfl
        have C := Lib.hid c
        clear c s hr hnk happ
        go_wp2_with fail
        refine C.out.mono ?_
        rintro e w9 ⟨rfl, s, -⟩
        clear C
        generalize Kn K6 w8.heap.size w9.heap.size = K9 at s
        have hr : Rd (w9.alloc (.cells #[.int .i64 keep] 3)) (w9.heap.size + 1) (some ⟨w9.heap.size, 0, none⟩) ([keep].map intV) := Rd.lit w9 #[.int .i64 keep] 3
        have hnk := s.new rfl
        replace s := s.alloc (.cells #[.int .i64 keep] 3)
        have c := seCrash (ck := 1) (nk := 1) (keep := [keep]) s (by omega) dir hd1 hd2 hr (by simp) rfl hnk (fun x hx => by simp at hx; omega) (by omega)
        have c := c.mono fun e w' h => h.is (L0 := []) ((kp_dir (a ++ b) a.length 4 false dir).trans (by rw [hin]; rfl)) (by decide) (kp_crash0 (a ++ b) a.length 4 dir hin [keep])
        have C := Lib.hid c
        clear c s hr hnk
        go_wp2_with fail
        refine C.out.mono ?_
        rintro e w10 ⟨rfl, s, -⟩
        clear C
        have cs := (seSize s tX).mono fun e w' h => And.intro (h.1.trans (show _ = Ending.returned (.int .i64 (-1)) from rfl)) h.2
        have cn := (seNames s (by omega)).mono fun e w' h => h.nil (show VSt.now _ = [] from rfl)
        have CS := Lib.hid cs
        have CN := Lib.hid cn
        have HS := Lib.hid (s.later HB1.out)
        clear cs cn s
        go_wp2_with fail
        refine CS.out.mono ?_
        rintro e w11 ⟨rfl, rfl⟩
        go_wp2_with fail
        refine CN.out.mono ?_
        rintro e w11 ⟨A3, c3, rfl, hb3⟩
        have hfin := HS.out.trans (hb3.mono HS.out.size)
        clear hb3
        go_wp2_with fail
        go_ret
        exact ⟨rfl, hfin⟩
      · have d3 : decide (dir ≤ 0) = false := decide_eq_false hz
        have hmd : (VSt.modulo dir 1 : Int) = dir % 2 := by
          unfold VSt.modulo
          rw [if_neg (by omega)]
          have : dir % (((1 : Nat) : Int) + 1) = dir % 2 := rfl
          omega
        by_cases hp : dir % 2 = 0
        · have hin : kpIn false dir = false := by
            unfold kpIn
            have : VSt.modulo dir 1 = 0 := by omega
            rw [this]
            rfl
          have d4 : (dir % 2 == 0) = true := by simpa using hp
          have hpos : 0 < dir := by omega
          clear hmd hp hz
          go_enter Try.func4, Try.ntmps4
          go_wp2_with fail
          refine (vfLives w).mono ?_
          rintro e w1 ⟨rfl, hb1⟩
          have HB1 := Lib.hid hb1
          clear hb1
          go_wp2_with fail
          refine (seNew w1 10000 (by omega)).mono ?_
          rintro e w2 ⟨F, rfl, s⟩
          have c := (seCreate s (by omega) tX (by decide)).mono fun e w' h => h.is kp_new (x := 0) rfl
          have C := Lib.hid c
          clear c s
          go_wp2_with fail
          refine C.out.mono ?_
          rintro e w3 ⟨rfl, s, -⟩
          clear C
          have hr := HRA.out.below (s.later HB1.out)
          have co := kitOwn (c := c1) w3 hr (s.later HB1.out).size (by rw [HLA.out]; omega) HLA.out
          have CO := Lib.hid co
          clear co hr
          go_wp2_with fail
          refine CO.out.mono ?_
          rintro e w4 ⟨A', c', rfl, happ, -⟩
          clear CO
          have hr := happ.rd
          have hnk : ∀ x, A' = some x → ¬Kn (Kn Kno w1.heap.size w2.heap.size) w2.heap.size w3.heap.size x.block := fun x hx e => by
            have h1 := (happ.lo x hx).1
            have h2 := (s.kLo e).2
            omega
          replace s := s.below happ.below0
          have c := (seAppend (c := c') (zs := a) s (by omega) tX (by decide) hr HBA.out hnk HLA.out (Nat.le_refl _) q1).mono fun e w' h => h.is (kp_append [] a 0 1 false (by rw [HLA.out]; simp; omega)) (x := 0) rfl
          have C := Lib.hid c
          clear c s hr hnk happ
          go_wp2_with fail
          refine C.out.mono ?_
          rintro e w5 ⟨rfl, s, -⟩
          clear C
          rw [List.nil_append] at s
          have c := (seSync s (by omega) tX (by decide)).mono fun e w' h => h.is (kp_sync a 0 2 false) (x := 0) rfl
          have C := Lib.hid c
          clear c s
          go_wp2_with fail
          refine C.out.mono ?_
          rintro e w6 ⟨rfl, s, -⟩
          clear C
          generalize Kn (Kn (Kn (Kn Kno w1.heap.size w2.heap.size) w2.heap.size w3.heap.size) w4.heap.size w5.heap.size) w5.heap.size w6.heap.size = K6 at s
          have hr := HRB.out.below (s.later HB1.out)
          have co := kitOwn (c := c2) w6 hr (s.later HB1.out).size (by rw [HLB.out]; omega) HLB.out
          have CO := Lib.hid co
          clear co hr
          go_wp2_with fail
          refine CO.out.mono ?_
          rintro e w8 ⟨A', c', rfl, happ, -⟩
          clear CO
          have hr := happ.rd
          have hnk : ∀ x, A' = some x → ¬K6 x.block := fun x hx e => by
            have h1 := (happ.lo x hx).1
            have h2 := (s.kLo e).2
            omega
          replace s := s.below happ.below0
          have c := (seAppend (c := c') (zs := b) s (by omega) tX (by decide) hr HBB.out hnk HLB.out (Nat.le_refl _) q2).mono fun e w' h => h.is (kp_append a b a.length 3 false (by rw [HLA.out, HLB.out]; omega)) (x := 0) rfl
          have C := Lib.hid c
          clear c s hr hnk happ
          go_wp2_with fail
          refine C.out.mono ?_
          rintro e w9 ⟨rfl, s, -⟩
          clear C
          generalize Kn K6 w8.heap.size w9.heap.size = K9 at s
          have hr : Rd (w9.alloc (.cells #[.int .i64 keep] 3)) (w9.heap.size + 1) (some ⟨w9.heap.size, 0, none⟩) ([keep].map intV) := Rd.lit w9 #[.int .i64 keep] 3
          have hnk := s.new rfl
          replace s := s.alloc (.cells #[.int .i64 keep] 3)
          have c := seCrash (ck := 1) (nk := 1) (keep := [keep]) s (by omega) dir hd1 hd2 hr (by simp) rfl hnk (fun x hx => by simp at hx; omega) (by omega)
          have c := c.mono fun e w' h => h.is (L0 := []) ((kp_dir (a ++ b) a.length 4 false dir).trans (by rw [hin]; rfl)) (by decide) (kp_crash0 (a ++ b) a.length 4 dir hin [keep])
          have C := Lib.hid c
          clear c s hr hnk
          go_wp2_with fail
          refine C.out.mono ?_
          rintro e w10 ⟨rfl, s, -⟩
          clear C
          have cs := (seSize s tX).mono fun e w' h => And.intro (h.1.trans (show _ = Ending.returned (.int .i64 (-1)) from rfl)) h.2
          have cn := (seNames s (by omega)).mono fun e w' h => h.nil (show VSt.now _ = [] from rfl)
          have CS := Lib.hid cs
          have CN := Lib.hid cn
          have HS := Lib.hid (s.later HB1.out)
          clear cs cn s
          go_wp2_with fail
          refine CS.out.mono ?_
          rintro e w11 ⟨rfl, rfl⟩
          go_wp2_with fail
          refine CN.out.mono ?_
          rintro e w11 ⟨A3, c3, rfl, hb3⟩
          have hfin := HS.out.trans (hb3.mono HS.out.size)
          clear hb3
          go_wp2_with fail
          go_ret
          exact ⟨rfl, hfin⟩
        · have hin : kpIn false dir = true := by
            unfold kpIn
            have : VSt.modulo dir 1 = 1 := by omega
            rw [this]
            rfl
          have d4 : (dir % 2 == 0) = false := by simpa using hp
          have hpos : 0 < dir := by omega
          clear hmd hp hz
          go_enter Try.func4, Try.ntmps4
          go_wp2_with fail
          refine (vfLives w).mono ?_
          rintro e w1 ⟨rfl, hb1⟩
          have HB1 := Lib.hid hb1
          clear hb1
          go_wp2_with fail
          refine (seNew w1 10000 (by omega)).mono ?_
          rintro e w2 ⟨F, rfl, s⟩
          have c := (seCreate s (by omega) tX (by decide)).mono fun e w' h => h.is kp_new (x := 0) rfl
          have C := Lib.hid c
          clear c s
          go_wp2_with fail
          refine C.out.mono ?_
          rintro e w3 ⟨rfl, s, -⟩
          clear C
          have hr := HRA.out.below (s.later HB1.out)
          have co := kitOwn (c := c1) w3 hr (s.later HB1.out).size (by rw [HLA.out]; omega) HLA.out
          have CO := Lib.hid co
          clear co hr
          go_wp2_with fail
          refine CO.out.mono ?_
          rintro e w4 ⟨A', c', rfl, happ, -⟩
          clear CO
          have hr := happ.rd
          have hnk : ∀ x, A' = some x → ¬Kn (Kn Kno w1.heap.size w2.heap.size) w2.heap.size w3.heap.size x.block := fun x hx e => by
            have h1 := (happ.lo x hx).1
            have h2 := (s.kLo e).2
            omega
          replace s := s.below happ.below0
          have c := (seAppend (c := c') (zs := a) s (by omega) tX (by decide) hr HBA.out hnk HLA.out (Nat.le_refl _) q1).mono fun e w' h => h.is (kp_append [] a 0 1 false (by rw [HLA.out]; simp; omega)) (x := 0) rfl
          have C := Lib.hid c
          clear c s hr hnk happ
          go_wp2_with fail
          refine C.out.mono ?_
          rintro e w5 ⟨rfl, s, -⟩
          clear C
          rw [List.nil_append] at s
          have c := (seSync s (by omega) tX (by decide)).mono fun e w' h => h.is (kp_sync a 0 2 false) (x := 0) rfl
          have C := Lib.hid c
          clear c s
          go_wp2_with fail
          refine C.out.mono ?_
          rintro e w6 ⟨rfl, s, -⟩
          clear C
          generalize Kn (Kn (Kn (Kn Kno w1.heap.size w2.heap.size) w2.heap.size w3.heap.size) w4.heap.size w5.heap.size) w5.heap.size w6.heap.size = K6 at s
          have hr := HRB.out.below (s.later HB1.out)
          have co := kitOwn (c := c2) w6 hr (s.later HB1.out).size (by rw [HLB.out]; omega) HLB.out
          have CO := Lib.hid co
          clear co hr
          go_wp2_with fail
          refine CO.out.mono ?_
          rintro e w8 ⟨A', c', rfl, happ, -⟩
          clear CO
          have hr := happ.rd
          have hnk : ∀ x, A' = some x → ¬K6 x.block := fun x hx e => by
            have h1 := (happ.lo x hx).1
            have h2 := (s.kLo e).2
            omega
          replace s := s.below happ.below0
          have c := (seAppend (c := c') (zs := b) s (by omega) tX (by decide) hr HBB.out hnk HLB.out (Nat.le_refl _) q2).mono fun e w' h => h.is (kp_append a b a.length 3 false (by rw [HLA.out, HLB.out]; omega)) (x := 0) rfl
          have C := Lib.hid c
          clear c s hr hnk happ
          go_wp2_with fail
          refine C.out.mono ?_
          rintro e w9 ⟨rfl, s, -⟩
          clear C
          generalize Kn K6 w8.heap.size w9.heap.size = K9 at s
          have hr : Rd (w9.alloc (.cells #[.int .i64 keep] 3)) (w9.heap.size + 1) (some ⟨w9.heap.size, 0, none⟩) ([keep].map intV) := Rd.lit w9 #[.int .i64 keep] 3
          have hnk := s.new rfl
          replace s := s.alloc (.cells #[.int .i64 keep] 3)
          have c := seCrash (ck := 1) (nk := 1) (keep := [keep]) s (by omega) dir hd1 hd2 hr (by simp) rfl hnk (fun x hx => by simp at hx; omega) (by omega)
          have c := c.mono fun e w' h => h.is (L0 := [(tX, 0)]) ((kp_dir (a ++ b) a.length 4 false dir).trans (by rw [hin]; rfl)) (by decide) (kp_crash a b 4 false dir keep hin)
          have C := Lib.hid c
          clear c s hr hnk
          obtain ⟨km, hkm⟩ : ∃ km, VSt.modulo keep b.length = km := ⟨_, rfl⟩
          rw [hkm] at C
          have hkl : km ≤ n2 := by rw [← hkm, ← HLB.out]; exact modulo_le keep _
          have HKM := Lib.hid hkm
          clear hkm
          go_wp2_with fail
          refine C.out.mono ?_
          rintro e w10 ⟨rfl, s, -⟩
          clear C
          generalize Kn K9 (w9.alloc _).heap.size w10.heap.size = K10 at s
          have hgl : (a ++ b.take km).length = n1 + km := by rw [List.length_append, List.length_take, HLA.out, HLB.out]; omega
          obtain ⟨g, hg⟩ : ∃ g, g = a ++ b.take km := ⟨_, rfl⟩
          rw [← hg] at s hgl
          have HG := Lib.hid hg
          clear hg
          have c := (seRead s (by omega) tX (by decide) 0 1048576)
          rw [kp_read g _ _ _ (by rw [hgl]; omega)] at c
          have C := Lib.hid c
          have HGL := Lib.hid hgl
          clear c hgl
          by_cases hkp : 0 < keep
          · have d1 : decide (keep > 0) = true := by simpa using hkp
            have hkv : keep % ((n2 : Int) + 1) = (km : Int) := by
              have h1 := HKM.out
              unfold VSt.modulo at h1
              rw [if_neg (by omega), HLB.out] at h1
              have := Int.emod_nonneg keep (show (n2 : Int) + 1 ≠ 0 by omega)
              omega
            go_wp2_with fail
            refine C.out.mono ?_
            rintro e w11 ⟨A3, c3, rfl, hr3, hlo3, s2, hf3⟩
            clear C
            have hnk3 : ∀ x, A3 = some x → ¬K10 x.block := fun x hx e => by
              have h1 := hlo3 x hx
              have h2 := (s.kLo e).2
              omega
            have hl3 : w10.heap.size ≤ w11.heap.size := hf3.size
            have hbw := s2.later HB1.out
            have hra := HRA.out.below hbw
            have co := kitOwn (c := c1) w11.drew (Rd.drew hra) hbw.size (by rw [HLA.out]; omega) HLA.out
            have hsl : ∀ W, (Instr.slice 24 (.slice A2 n2 c2) none (some (.int .i64 ((km : Nat)))) none).run Try.prog W = .ok (.slice A2 km c2) W := fun W => run_slH W A2 n2 c2 km (by omega) HAZ.out
            have CO := Lib.hid co
            have hrb := HRB.out.below hbw
            have HRB2 := Lib.hid hrb
            have HR3 := Lib.hid hr3
            have S2 := Lib.hid s2
            have HBW := Lib.hid hbw
            have hnf3 : ∀ x, A3 = some x → ¬Kis F x.block := fun x hx e => by
              have e : x.block = F := e
              obtain ⟨m, hv⟩ := s2.vf
              exact hnk3 x hx (e ▸ hv.kF)
            clear co hra hrb hr3 s s2 hf3 hbw hlo3
            go_wp2_with fail
            go_region_held3 (fun _ => True) (trivial) (first
              | (go_at_call 14; refine CO.out.mono ?_; rintro e w12 ⟨A4, c4, rfl, happ, -⟩)
              | (go_at_call 21; refine CB.out.mono ?_; rintro e w14 ⟨rfl, m14, rfl⟩)
              | (refine step_appW (by rfl) _ _ (by rfl) w11.heap.size _ n1 a (by rfl) happ.own w.heap.size A2 km c2 (b.take km) (by rfl) (by rw [List.length_take, HLB.out]; omega) (Rb.take (Rd.below (Rd.drew HRB2.out) (happ.below0.mono HBW.out.size)) km) (by omega) happ.below0.size ?_; intro A5 c5 w13 hown5 hgr5; obtain ⟨hg3, ho5, hb5⟩ := keepsJoin HR3.out happ hgr5 hown5; have cb := kitBytes (c := c3) (c' := c5) w13 hg3 ho5 (by rw [HGL.out]; unfold maxLen; omega) (by rw [← HG.out, HGL.out]; unfold maxLen; omega) rfl (by rw [← HG.out, HGL.out]); rw [HG.out, eqb_refl, ← HG.out] at cb; have CB := Lib.hid cb; clear cb))
            clear HR3 happ hown5 hgr5 ho5 CB CO HRB2
            have s3 := (S2.out.below hb5).drewN m14
            have hle : w11.heap.size ≤ w13.heap.size := hb5.size
            have hr : Rd ((w13.drewN m14).alloc (.cells #[.int .i64 keep] 3)) (w13.heap.size + 1) (some ⟨w13.heap.size, 0, none⟩) ([keep].map intV) := Rd.lit (w13.drewN m14) #[.int .i64 keep] 3
            have hnk := s3.new rfl
            have hga := Rd.alloc (Rd.drewN hg3 m14) hle (.cells #[.int .i64 keep] 3)
            replace s3 := s3.alloc (.cells #[.int .i64 keep] 3)
            have hle2 : w11.heap.size ≤ ((w13.drewN m14).alloc (.cells #[.int .i64 keep] 3)).heap.size := by
              have : ((w13.drewN m14).alloc (.cells #[.int .i64 keep] 3)).heap.size = w13.heap.size + 1 := by simp
              omega
            have c := (seCrash (ck := 1) (nk := 1) (keep := [keep]) s3 (by omega) dir hd1 hd2 hr (by simp) rfl hnk (fun x hx => by simp at hx; omega) (by omega)).mono fun e w' h => h.is (L0 := [(tX, 0)]) ((kp_dir g _ _ true dir).trans rfl) (by decide) (kp_again g _ _ (by rw [HGL.out, HLA.out]) dir keep)
            have C := Lib.hid c
            have HGA := Lib.hid hga
            clear c s3 hr hnk hga hg3 hb5 S2
            go_wp2_with fail
            refine C.out.mono ?_
            rintro e w15 ⟨rfl, s4, hf4⟩
            clear C
            have hgb := Rd.frK HGA.out hf4 hnk3 hle2
            have hle3 : w11.heap.size ≤ w15.heap.size := Nat.le_trans hle2 hf4.size
            clear HGA hf4 hle2 hnk3
            have c := (seRead s4 (by omega) tX (by decide) 0 1048576)
            rw [kp_read g _ _ _ (by rw [HGL.out]; omega)] at c
            have C := Lib.hid c
            have HGB := Lib.hid hgb
            clear c s4 hgb
            go_wp2_with fail
            refine C.out.mono ?_
            rintro e w16 ⟨A6, c6, rfl, hr6, -, s5, hf6⟩
            clear C
            have hgc := Rd.frK HGB.out hf6 hnf3 hle3
            have cb := kitBytes (c := c3) (c' := c6) w16 hgc hr6 (by rw [HGL.out]; unfold maxLen; omega) (by rw [HGL.out]; unfold maxLen; omega) rfl rfl
            rw [eqb_refl] at cb
            have CB := Lib.hid cb
            have hfin := s5.later HB1.out
            clear cb s5 hgc hr6 hf6 HGB hnf3
            go_wp2_with fail
            refine CB.out.mono ?_
            rintro e w17 ⟨rfl, m17, rfl⟩
            go_wp2_with fail
            go_ret
            exact ⟨rfl, below_drewN hfin m17⟩
          · have d1 : decide (keep > 0) = false := by simpa using hkp
            have hk0 : km = 0 := by
              have h1 := HKM.out
              unfold VSt.modulo at h1
              split at h1
              · omega
              · have : keep = 0 := by omega
                rw [this] at h1
                simpa using h1.symm
            subst hk0
            go_wp2_with fail
            refine C.out.mono ?_
            rintro e w11 ⟨A3, c3, rfl, hr3, hlo3, s2, hf3⟩
            clear C
            have hnk3 : ∀ x, A3 = some x → ¬K10 x.block := fun x hx e => by
              have h1 := hlo3 x hx
              have h2 := (s.kLo e).2
              omega
            have hl3 : w10.heap.size ≤ w11.heap.size := hf3.size
            have hbw := s2.later HB1.out
            have hra := HRA.out.below hbw
            have co := kitOwn (c := c1) w11.drew (Rd.drew hra) hbw.size (by rw [HLA.out]; omega) HLA.out
            have hsl : ∀ W, (Instr.slice 24 (.slice A2 n2 c2) none (some (.int .i64 (0))) none).run Try.prog W = .ok (.slice A2 0 c2) W := fun W => by have := run_slH W A2 n2 c2 0 (by omega) HAZ.out; exact this
            have CO := Lib.hid co
            have hrb := HRB.out.below hbw
            have HRB2 := Lib.hid hrb
            have HR3 := Lib.hid hr3
            have S2 := Lib.hid s2
            have HBW := Lib.hid hbw
            have hnf3 : ∀ x, A3 = some x → ¬Kis F x.block := fun x hx e => by
              have e : x.block = F := e
              obtain ⟨m, hv⟩ := s2.vf
              exact hnk3 x hx (e ▸ hv.kF)
            clear co hra hrb hr3 s s2 hf3 hbw hlo3
            go_wp2_with fail
            go_region_held3 (fun _ => True) (trivial) (first
              | (go_at_call 14; refine CO.out.mono ?_; rintro e w12 ⟨A4, c4, rfl, happ, -⟩)
              | (go_at_call 21; refine CB.out.mono ?_; rintro e w14 ⟨rfl, m14, rfl⟩)
              | (refine step_appW (by rfl) _ _ (by rfl) w11.heap.size _ n1 a (by rfl) happ.own w.heap.size A2 0 c2 (b.take 0) (by rfl) (by rw [List.length_take, HLB.out]; omega) (Rb.take (Rd.below (Rd.drew HRB2.out) (happ.below0.mono HBW.out.size)) 0) (by omega) happ.below0.size ?_; intro A5 c5 w13 hown5 hgr5; obtain ⟨hg3, ho5, hb5⟩ := keepsJoin HR3.out happ hgr5 hown5; have cb := kitBytes (c := c3) (c' := c5) w13 hg3 ho5 (by rw [HGL.out]; unfold maxLen; omega) (by rw [← HG.out, HGL.out]; unfold maxLen; omega) rfl (by rw [← HG.out, HGL.out]); rw [HG.out, eqb_refl, ← HG.out] at cb; have CB := Lib.hid cb; clear cb))
            clear HR3 happ hown5 hgr5 ho5 CB CO HRB2
            have s3 := (S2.out.below hb5).drewN m14
            have hle : w11.heap.size ≤ w13.heap.size := hb5.size
            have hr : Rd ((w13.drewN m14).alloc (.cells #[.int .i64 keep] 3)) (w13.heap.size + 1) (some ⟨w13.heap.size, 0, none⟩) ([keep].map intV) := Rd.lit (w13.drewN m14) #[.int .i64 keep] 3
            have hnk := s3.new rfl
            have hga := Rd.alloc (Rd.drewN hg3 m14) hle (.cells #[.int .i64 keep] 3)
            replace s3 := s3.alloc (.cells #[.int .i64 keep] 3)
            have hle2 : w11.heap.size ≤ ((w13.drewN m14).alloc (.cells #[.int .i64 keep] 3)).heap.size := by
              have : ((w13.drewN m14).alloc (.cells #[.int .i64 keep] 3)).heap.size = w13.heap.size + 1 := by simp
              omega
            have c := (seCrash (ck := 1) (nk := 1) (keep := [keep]) s3 (by omega) dir hd1 hd2 hr (by simp) rfl hnk (fun x hx => by simp at hx; omega) (by omega)).mono fun e w' h => h.is (L0 := [(tX, 0)]) ((kp_dir g _ _ true dir).trans rfl) (by decide) (kp_again g _ _ (by rw [HGL.out, HLA.out]) dir keep)
            have C := Lib.hid c
            have HGA := Lib.hid hga
            clear c s3 hr hnk hga hg3 hb5 S2
            go_wp2_with fail
            refine C.out.mono ?_
            rintro e w15 ⟨rfl, s4, hf4⟩
            clear C
            have hgb := Rd.frK HGA.out hf4 hnk3 hle2
            have hle3 : w11.heap.size ≤ w15.heap.size := Nat.le_trans hle2 hf4.size
            clear HGA hf4 hle2 hnk3
            have c := (seRead s4 (by omega) tX (by decide) 0 1048576)
            rw [kp_read g _ _ _ (by rw [HGL.out]; omega)] at c
            have C := Lib.hid c
            have HGB := Lib.hid hgb
            clear c s4 hgb
            go_wp2_with fail
            refine C.out.mono ?_
            rintro e w16 ⟨A6, c6, rfl, hr6, -, s5, hf6⟩
            clear C
            have hgc := Rd.frK HGB.out hf6 hnf3 hle3
            have cb := kitBytes (c := c3) (c' := c6) w16 hgc hr6 (by rw [HGL.out]; unfold maxLen; omega) (by rw [HGL.out]; unfold maxLen; omega) rfl rfl
            rw [eqb_refl] at cb
            have CB := Lib.hid cb
            have hfin := s5.later HB1.out
            clear cb s5 hgc hr6 hf6 HGB hnf3
            go_wp2_with fail
            refine CB.out.mono ?_
            rintro e w17 ⟨rfl, m17, rfl⟩
            go_wp2_with fail
            go_ret
            exact ⟨rfl, below_drewN hfin m17⟩
end Go.Proofs.Ytdjmmdhjjdnbdaa

/- The statement VfsKeeps, out of its walk. -/
namespace Go.Proofs.Ytdjmmdhjjdnbdaa
open Go.ChangeShapes Go.WideShapes Go.ChangeAt Go.RowKit
open Go.ChangeMaps (open_string shut_string)

set_option maxRecDepth 100000 in
theorem vfsKeeps_lifted (os : Os) (started : os.Started) (H : Type) (enc : TypeId × Value → H) :
    ReturnsInHanded {} Try.checked os 4 .any (Rows.vfsKeepsSpec.pre6 enc Try.prog Try.f4 Rows.vfsKeepsRow.domain false) (Rows.vfsKeepsSpec.post enc Try.prog Try.f4 false true false false) := by
  refine returnsInHanded_of_change (C := Try.checked) ownKnob_none started (by kernel_rfl) Try.func4
    (ChangeSpec.witness6 (enc := enc) (C := Try.checked) false ⟨#[], #[.slice none 0 0, .slice none 0 0, .int .i64 0, .int .i64 0, .bool false], []⟩ 8 (by kernel_rfl) (by kernel_rfl) (by kernel_rfl) (by kernel_rfl)) ?_
  intro W base args ds gs before hval0 hW _ _
  have hval : ∀ (j : Nat) t v, Try.f4.params[j]? = some t → args[j]? = some v → Value.okWide Try.prog W .any base t v := hval0
  have hW' := hW
  obtain ⟨p, q, hA0, hV, rfl, hfz, hnd⟩ := hW
  have hA : DataW.TrodAll enc Try.prog W 0 (fun _ => true) true Try.f4.params.toList args.toList ds p := hA0
  rw [Try.params4] at hA hval
  obtain ⟨v0, vs0, d0, ds0, p0, q0, hargs, rfl, rfl, h0, r0⟩ := trodAll_cons hA
  obtain ⟨v1, vs1, d1, ds1, p1, q1, rfl, rfl, rfl, h1, r1⟩ := trodAll_cons r0
  obtain ⟨v2, vs2, d2, ds2, p2, q2, rfl, rfl, rfl, h2, r2⟩ := trodAll_cons r1
  obtain ⟨v3, vs3, d3, ds3, p3, q3, rfl, rfl, rfl, h3, r3⟩ := trodAll_cons r2
  obtain ⟨v4, vs4, d4, ds4, p4, q4, rfl, rfl, rfl, h4, r4⟩ := trodAll_cons r3
  obtain ⟨rfl, rfl, rfl⟩ := trodAll_nil r4
  obtain rfl : args = #[v0, v1, v2, v3, v4] := by cases args; simp_all
  obtain ⟨rfl, rfl⟩ := trodVars_none hV
  obtain ⟨a0, len0, cap0, rfl⟩ := okWide_slice Try.underlying24 (hval 0 24 v0 rfl rfl)
  have k0 := h0
  have lt0 : ∀ x ∈ p0, x.block < W.heap.size := by obtain ⟨m, hm⟩ := k0; exact DataW.trod_lt m _ _ _ hm
  obtain ⟨z0, w0⟩ := open_inB h0
  obtain ⟨a1, len1, cap1, rfl⟩ := okWide_slice Try.underlying24 (hval 1 24 v1 rfl rfl)
  have k1 := h1
  have lt1 : ∀ x ∈ p1, x.block < W.heap.size := by obtain ⟨m, hm⟩ := k1; exact DataW.trod_lt m _ _ _ hm
  obtain ⟨z1, w1⟩ := open_inB h1
  obtain ⟨x2, rfl, rfl, rfl, w2⟩ := open_int Try.underlying3 (hval 2 3 v2 rfl rfl) h2
  obtain ⟨x3, rfl, rfl, rfl, w3⟩ := open_int Try.underlying3 (hval 3 3 v3 rfl rfl) h3
  obtain ⟨b4, rfl, rfl, rfl⟩ := open_bool Try.underlying4 (hval 4 4 v4 rfl rfl) h4
  clear hA0 hval0
  refine (vfsKeeps_walk a0 len0 cap0 z0 a1 len1 cap1 z1 x2 x3 b4 W w0 w1 (i64_wf w2) (i64_wf w3)).mono fun e W' ⟨he, bel⟩ => ?_
  subst he
  exact ⟨_, rfl, _, _, _, [], _, [], hW', trodAll_mk1 (shut_bool Try.underlying4 _), (trodAll_cons_mk (Below.trod laidOut (by kernel_rfl) (of_decide_eq_true (by kernel_rfl)) k0 bel lt0) (trodAll_cons_mk (Below.trod laidOut (by kernel_rfl) (of_decide_eq_true (by kernel_rfl)) k1 bel lt1) (trodAll_cons_mk (shut_int Try.underlying3 w2) (trodAll_cons_mk (shut_int Try.underlying3 w3) (trodAll_cons_mk (shut_bool Try.underlying4 b4) trodAll_mk0))))), rfl, bel.frame _, fun h => by cases h⟩

/-- VfsKeeps: for every input the law returns true, and what came in reads as it did. -/
theorem vfsKeeps_holds : Rows.VfsKeepsSaid :=
  OpenClaim.holds_of_wide 4 Try.f4 rfl rfl rfl rfl rfl rfl rfl ⟨rfl, rfl, rfl, rfl, rfl⟩ rfl rfl rfl rfl rfl (by kernel_rfl) Try.func4 (by kernel_rfl)
    (of_decide_eq_true (by kernel_rfl)) (by unfold Func.isWrapper; first | (rw [if_pos (by decide +kernel)]; kernel_rfl) | (rw [if_neg (by decide +kernel)]; exact ⟨rfl, rfl⟩))
    (fun os started H enc _ => vfsKeeps_lifted os started H enc)
#print axioms vfsKeeps_holds
end Go.Proofs.Ytdjmmdhjjdnbdaa
