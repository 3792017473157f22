/- Texts of the proof of VfsNilSaid, joined: VgR AcI VfsNil VfsNilP. -/
import Derived.Test.YtdjmmdhjjdnbdaaJVfsNil8
import Derived.Lib.SlBytesConst
import Derived.Test.YtdjmmdhjjdnbdaaJVfsNil7
import Derived.Deep.Slices
import Derived.Test.YtdjmmdhjjdnbdaaJVfsNil6
/- Layer 4: the examples that each statement asks first: 'lives' answers true. -/
namespace Go.Proofs.Ytdjmmdhjjdnbdaa
open Go.RowKit

theorem conv_const (w : World) (C : Array Value) (n c g : Nat) (hg : g = w.heap.size) :
    (convert 24 24 (.slice (some ⟨g, 0, none⟩) n c)).run Try.prog (w.alloc (.cells C 5)) = .ok (.slice (some ⟨g, 0, none⟩) n c) (w.alloc (.cells C 5 (C.size, C.size + 1))) := by
  subst hg
  exact Lib.run_convert_bytes_const w _ _ C n c Try.underlying24 Try.underlying5
theorem Rd.litm {w : World} {cs : Array Value} {t : TypeId} {fr : Nat × Nat} {g : Nat} (hg : w.heap.size = g) : Rd (w.alloc (.cells cs t fr)) (g + 1) (some ⟨g, 0, none⟩) cs.toList := fun _ => by
  subst hg
  exact ⟨w.heap.size, 0, rfl, by omega, fun j u hu => by
    rw [Nat.zero_add, World.cell?_alloc_mark]
    simpa using hu⟩
theorem SeP.is {w0 W w' : World} {K : Nat → Prop} {F k : Nat} {R : VSt × Nat} {T : VSt} {r : Nat} {x : Int} {e : Ending} (h : SeP w0 W K F k R e w') (hR : R = (T, r)) (hx : (r : Int) = x) : e = .returned (.int .i64 x) ∧ Se w0 w' (Kn K W.heap.size w'.heap.size) F T (k + 1) ∧ FrK W w' K := by
  subst hR
  subst hx
  exact h
theorem Se.new {w0 W : World} {K : Nat → Prop} {F k : Nat} {S : VSt} (h : Se w0 W K F S k) {g : Nat} (hg : W.heap.size = g) : ∀ a, some (⟨g, 0, none⟩ : Addr) = some a → ¬K a.block := fun a ha e => by
  have h1 := (h.kLo e).2
  cases ha
  simp only at h1
  omega
def tA : ByteArray := ⟨#[97]⟩
def tB : ByteArray := ⟨#[98]⟩
def lv0 : VSt := VSt.new 100
def lv1 : VSt := (lv0.create tA).1
def lv2 : VSt := lv1.syncDir.1
def lv3 : VSt := (lv2.append tA [120, 121]).1
def lv4 : VSt := (lv3.sync tA).1
def lv5 : VSt := (lv4.append tA [122]).1
def lv6 : VSt := lv5.crash 0 [1] [(tA, 0)]
def lv7 : VSt := (lv6.read tA 0 9).1
theorem lv_e1 : (lv0.create tA).2 = 0 := by decide +kernel
theorem lv_e2 : lv1.syncDir.2 = 0 := by decide +kernel
theorem lv_e3 : (lv2.append tA [120, 121]).2 = 0 := by decide +kernel
theorem lv_e4 : (lv3.sync tA).2 = 0 := by decide +kernel
theorem lv_e5 : (lv4.append tA [122]).2 = 0 := by decide +kernel
theorem lv_e6 : lv5.dirN (VSt.modulo 0 lv5.chg.length) = [(tA, 0)] := by decide +kernel
theorem lv_e7 : (lv6.read tA 0 9).2 = ([120, 121, 122], 0) := by decide +kernel
theorem lv_e8 : lv7.size tB = -1 := by decide +kernel
theorem lv_e9 : (lv7.create tA).2 = 5 := by decide +kernel
theorem lv_str : strOfNums [120, 121, 122] = ⟨#[120, 121, 122]⟩ := by decide +kernel
theorem pair_eq {α β : Type} {p : α × β} {a : α} {b : β} (h1 : p.1 = a) (h2 : p.2 = b) : p = (a, b) := Prod.ext h1 h2
set_option maxRecDepth 100000 in
set_option maxHeartbeats 4000000 in
theorem vfLives (w : World) : Calls Try.prog 8 #[] w fun e w' => e = .returned (.bool true) ∧ Below w.heap.size w w' := by
  go_enter Try.func8, Try.ntmps8
  go_wp2_with fail
  refine (seNew w 100 (by omega)).mono ?_
  rintro e w1 ⟨F, rfl, s1⟩
  have c1 := (seCreate s1 (by omega) tA (by decide)).mono fun e w' h => h.is (pair_eq (a := lv1) rfl lv_e1) (x := 0) rfl
  have C1 := Lib.hid c1
  clear c1 s1
  go_wp2_with fail
  refine C1.out.mono ?_
  rintro e w2 ⟨rfl, s2, -⟩
  have c2 := (seSyncDir s2 (by omega)).mono fun e w' h => h.is (pair_eq (a := lv2) rfl lv_e2) (x := 0) rfl
  have C2 := Lib.hid c2
  clear c2 s2
  go_wp2_with fail
  refine C2.out.mono ?_
  rintro e w3 ⟨rfl, s3, -⟩
  have cv1 := conv_const w3 #[.int .u8 120, .int .u8 121] 2 2 w3.heap.size rfl
  simp only [List.size_toArray, List.length_cons, List.length_nil, Nat.reduceAdd] at cv1
  have r1 : Rb (w3.alloc (.cells #[.int .u8 120, .int .u8 121] 5 (2, 3))) (w3.heap.size + 1) (some ⟨w3.heap.size, 0, none⟩) [120, 121] := Rd.litm (w := w3) (cs := #[.int .u8 120, .int .u8 121]) (t := 5) rfl
  have c3 := (seAppend (c := 2) (n := 2) (s3.alloc (.cells #[.int .u8 120, .int .u8 121] 5 (2, 3))) (by omega) tA (by decide) r1 (Byt.of rfl) (s3.new rfl) rfl (by simp) (by omega)).mono fun e w' h => h.is (pair_eq (a := lv3) rfl lv_e3) (x := 0) rfl
  have C3 := Lib.hid c3
  clear c3 s3 r1
  go_wp2_with fail
  refine C3.out.mono ?_
  rintro e w4 ⟨rfl, s4, -⟩
  have c4 := (seSync s4 (by omega) tA (by decide)).mono fun e w' h => h.is (pair_eq (a := lv4) rfl lv_e4) (x := 0) rfl
  have C4 := Lib.hid c4
  clear c4 s4 cv1
  go_wp2_with fail
  refine C4.out.mono ?_
  rintro e w5 ⟨rfl, s5, -⟩
  have cv1 := conv_const w5 #[.int .u8 122] 1 1 w5.heap.size rfl
  simp only [List.size_toArray, List.length_cons, List.length_nil, Nat.reduceAdd] at cv1
  have r1 : Rb (w5.alloc (.cells #[.int .u8 122] 5 (1, 2))) (w5.heap.size + 1) (some ⟨w5.heap.size, 0, none⟩) [122] := Rd.litm (w := w5) (cs := #[.int .u8 122]) (t := 5) rfl
  have c5 := (seAppend (c := 1) (n := 1) (s5.alloc (.cells #[.int .u8 122] 5 (1, 2))) (by omega) tA (by decide) r1 (Byt.of rfl) (s5.new rfl) rfl (by simp) (by omega)).mono fun e w' h => h.is (pair_eq (a := lv5) rfl lv_e5) (x := 0) rfl
  have C5 := Lib.hid c5
  clear c5 s5 r1
  go_wp2_with fail
  refine C5.out.mono ?_
  rintro e w6 ⟨rfl, s6, -⟩
  have r2 : Rd (w6.alloc (.cells #[.int .i64 1] 3)) (w6.heap.size + 1) (some ⟨w6.heap.size, 0, none⟩) (([1] : List Int).map intV) := Rd.lit w6 #[.int .i64 1] 3
  have c6 := (seCrash (ck := 1) (nk := 1) (keep := [1]) (s6.alloc (.cells #[.int .i64 1] 3)) (by omega) 0 (by omega) (by omega) r2 (by simp) rfl (s6.new rfl) (fun x hx => by simp at hx; omega) (by omega)).mono fun e w' h => (show ∃ T, T = lv6 ∧ SeP w (w6.alloc (.cells #[.int .i64 1] 3)) _ F _ (T, 0) e w' from by
    obtain ⟨L, h1, -, h2⟩ := h
    rw [lv_e6] at h1
    have h3 := List.perm_singleton.1 h1
    subst h3
    exact ⟨_, rfl, h2⟩)
  have C6 := Lib.hid c6
  clear c6 s6 r2 cv1
  go_wp2_with fail
  refine C6.out.mono ?_
  rintro e w7 ⟨T, rfl, h7⟩
  obtain ⟨rfl, s7, -⟩ := h7.is (T := lv6) (r := 0) (x := 0) rfl rfl
  have c7 := seRead s7 (by omega) tA (by decide) 0 9
  have C7 := Lib.hid c7
  clear c7 s7 h7
  go_wp2_with fail
  refine C7.out.mono ?_
  rintro e w8 ⟨A, c, rfl, hrb, -, s8, -⟩
  rw [lv_e7] at hrb ⊢
  have hst : (convert 24 9 (.slice A 3 c)).run Try.prog w8 = .ok (.string ⟨#[120, 121, 122]⟩) w8 := by
    have := Rb.str (P := Try.prog) hrb Try.underlying24 Try.underlying5 Try.underlying9 c
    rw [lv_str] at this
    exact this
  have c8 := seSize (S := lv7) s8 tB
  rw [lv_e8] at c8
  have c9 := (seCreate (S := lv7) s8 (by omega) tA (by decide)).mono fun e w' h => h.is (pair_eq rfl lv_e9) (x := 5) rfl
  have C8 := Lib.hid c8
  have C9 := Lib.hid c9
  clear c8 c9 s8 hrb
  go_wp2_with fail
  refine C8.out.mono ?_
  rintro e w9 ⟨rfl, rfl⟩
  go_wp2_with fail
  refine C9.out.mono ?_
  rintro e w9 ⟨rfl, s9, -⟩
  go_wp2_with fail
  go_ret
  exact ⟨rfl, s9.bel⟩
end Go.Proofs.Ytdjmmdhjjdnbdaa

/- Layer 4: what comes in: a call (the law's Act), and a list of them. -/
namespace Go.Proofs.Ytdjmmdhjjdnbdaa
open Go.ChangeShapes Go.WideShapes Go.ChangeAt Go.RowKit

theorem open_fBv {H : Type} {enc : TypeId × Value → H} {W : World} {base : Nat} {held : Bool} {v : Value} {fuel : Nat} {x : DataW H × List MemPlace}
    (h : DataW.trod enc Try.prog W base (fun _ => true) held fuel 24 [v] = some x) : ∃ A n c zs, v = .slice A n c ∧ InB W A n c zs := by
  rcases open_ints Try.underlying24 Try.underlying5 (by kernel_rfl) h with ⟨hcs, _⟩ | ⟨a, l, c, zs, hcs, _, hl, hm, hz, _, hcell, hwz⟩
  · simp at hcs
    subst hcs
    obtain ⟨zs, hi⟩ := open_inB (enc := enc) (d := x.1) (p := x.2) ⟨fuel, h⟩
    exact ⟨_, _, _, zs, rfl, hi⟩
  · simp at hcs
    subst hcs
    obtain ⟨zs, hi⟩ := open_inB (enc := enc) (d := x.1) (p := x.2) ⟨fuel, h⟩
    exact ⟨_, _, _, zs, rfl, hi⟩
theorem rd_of_cellsV {w : World} {k : IntKind} {A : Option Addr} {zs : List Int} {L : Nat} (hn : A = none → zs.length = 0) (hc : ∀ a, A = some a → ∀ c, c < zs.length → w.cell? (a.add c) = some (.int k (zs.getD c 0))) : Rd w w.heap.size A ((zs.take L).map (Value.int k)) := by
  intro hne
  have hpos : 0 < zs.length := by
    rcases Nat.eq_zero_or_pos zs.length with h0 | h0
    · rw [List.eq_nil_of_length_eq_zero h0] at hne; simp at hne
    · exact h0
  cases A with
  | none => have := hn rfl; omega
  | some a =>
    obtain ⟨b, off, spot⟩ := a
    have h0 := hc _ rfl 0 hpos
    have hspot : spot = none := by simpa [Addr.add] using World.cell?_spot h0
    subst hspot
    refine ⟨b, off, rfl, World.block_lt_of_cell? w ⟨b, off, none⟩ (by simpa [Addr.add] using h0), fun j u hu => ?_⟩
    rw [List.map_take, List.getElem?_take] at hu
    split at hu
    · have hj : j < zs.length := by
        have := (List.getElem?_eq_some_iff.1 hu).1
        simpa using this
      have h2 := hc _ rfl j hj
      rw [Addr.add_lit] at h2
      rw [h2, ← hu]
      simp [List.getD, hj]
    · cases hu
/-- An int of a machine. -/
def I64 (x : Int) : Prop := -9223372036854775808 ≤ x ∧ x ≤ 9223372036854775807
theorem i64_wf {x : Int} (h : (Lit.int .i64 x).wf = true) : I64 x := by
  unfold I64
  simp [Lit.wf, IntKind.min, IntKind.max, IntKind.signed, IntKind.bits] at h
  omega
/-- A slice of ints that came in. -/
structure InIv (w : World) (A : Option Addr) (n c : Nat) (zs : List Int) : Prop where
  rd : Rd w w.heap.size A (zs.map intV)
  len : zs.length = n
  cap : n ≤ c
  max : c ≤ maxLen
  wf : ∀ x ∈ zs, I64 x
theorem open_fIv {H : Type} {enc : TypeId × Value → H} {W : World} {base : Nat} {held : Bool} {v : Value} {fuel : Nat} {x : DataW H × List MemPlace}
    (h : DataW.trod enc Try.prog W base (fun _ => true) held fuel 34 [v] = some x) : ∃ A n c zs, v = .slice A n c ∧ InIv W A n c zs := by
  rcases open_ints Try.underlying34 Try.underlying3 (by kernel_rfl) h with ⟨hcs, _⟩ | ⟨a, l, c, zs, hcs, _, hl, hm, hz, _, hcell, hwz⟩
  · simp at hcs
    subst hcs
    exact ⟨none, 0, 0, [], rfl, Rd.nil, rfl, Nat.le_refl _, by simp [maxLen], fun x hx => by simp at hx⟩
  · simp at hcs
    subst hcs
    have hz : zs.length = c := by simpa using hz
    exact ⟨_, _, _, zs.take l, rfl, rd_of_cellsV (fun e => by cases e) (fun a e c hc => by cases e; exact hcell c hc), by simp; omega, hl, hm, fun y hy => i64_wf (hwz y (List.mem_of_mem_take hy))⟩
/-- A call of the law's script. -/
structure VAct where
  kind : Int
  a : ByteArray
  c : ByteArray
  b : List Int
  n : Int
  m : Int
  e : Int
  keep : List Int
/-- A call, and where its slices lie. -/
structure VAc where
  x : VAct
  Ab : Option Addr
  cb : Nat
  Ak : Option Addr
  ck : Nat
def acC (z : VAc) : List Value := [.int .i64 z.x.kind, .string z.x.a, .string z.x.c, .slice z.Ab z.x.b.length z.cb, .int .i64 z.x.n, .int .i64 z.x.m, .int .i64 z.x.e, .slice z.Ak z.x.keep.length z.ck]
/-- What is known of a call that came in. -/
structure AcOk (w : World) (B : Nat) (z : VAc) : Prop where
  b : Rb w B z.Ab z.x.b
  byt : Byt z.x.b
  k : Rd w B z.Ak (z.x.keep.map intV)
  kw : ∀ x ∈ z.x.keep, I64 x
  a : z.x.a.size ≤ maxLen
  c : z.x.c.size ≤ maxLen
  kind : I64 z.x.kind
  n : I64 z.x.n
  m : I64 z.x.m
  e : I64 z.x.e
  bl : z.x.b.length ≤ maxLen
  kl : z.x.keep.length ≤ maxLen
  bc : z.x.b.length ≤ z.cb
  kc : z.x.keep.length ≤ z.ck
set_option maxRecDepth 100000 in
theorem open_acCells {H : Type} {enc : TypeId × Value → H} {W : World} {base : Nat} {held : Bool} {v0 v1 v2 v3 v4 v5 v6 v7 : Value} {fuel : Nat} {x : DataW H × List MemPlace}
    (h : DataW.trod enc Try.prog W base (fun _ => true) held fuel 53 [v0, v1, v2, v3, v4, v5, v6, v7] = some x) :
    ∃ z : VAc, [v0, v1, v2, v3, v4, v5, v6, v7] = acC z ∧ AcOk W W.heap.size z := by
  obtain ⟨xs, n, _, hx, hlen, hyl, hf⟩ := DataW.trod_struct Try.underlying53 h
  match xs, hyl with
  | [y0, y1, y2, y3, y4, y5, y6, y7], _ =>
    have cI : Try.prog.cellsOf 3 = 1 := by kernel_rfl
    have cS : Try.prog.cellsOf 9 = 1 := by kernel_rfl
    have cB : Try.prog.cellsOf 24 = 1 := by kernel_rfl
    have cE : Try.prog.cellsOf 26 = 1 := by kernel_rfl
    have cK : Try.prog.cellsOf 34 = 1 := by kernel_rfl
    have h0 : DataW.trod enc Try.prog W base (fun _ => true) held n 3 (([v0, v1, v2, v3, v4, v5, v6, v7].drop 0).take (Try.prog.cellsOf 3)) = some y0 := hf 0 _ rfl
    have h1 : DataW.trod enc Try.prog W base (fun _ => true) held n 9 (([v0, v1, v2, v3, v4, v5, v6, v7].drop 1).take (Try.prog.cellsOf 9)) = some y1 := hf 1 _ rfl
    have h2 : DataW.trod enc Try.prog W base (fun _ => true) held n 9 (([v0, v1, v2, v3, v4, v5, v6, v7].drop 2).take (Try.prog.cellsOf 9)) = some y2 := hf 2 _ rfl
    have h3 : DataW.trod enc Try.prog W base (fun _ => true) held n 24 (([v0, v1, v2, v3, v4, v5, v6, v7].drop 3).take (Try.prog.cellsOf 24)) = some y3 := hf 3 _ rfl
    have h4 : DataW.trod enc Try.prog W base (fun _ => true) held n 3 (([v0, v1, v2, v3, v4, v5, v6, v7].drop 4).take (Try.prog.cellsOf 3)) = some y4 := hf 4 _ rfl
    have h5 : DataW.trod enc Try.prog W base (fun _ => true) held n 3 (([v0, v1, v2, v3, v4, v5, v6, v7].drop 5).take (Try.prog.cellsOf 3)) = some y5 := hf 5 _ rfl
    have h6 : DataW.trod enc Try.prog W base (fun _ => true) held n 26 (([v0, v1, v2, v3, v4, v5, v6, v7].drop 6).take (Try.prog.cellsOf 26)) = some y6 := hf 6 _ rfl
    have h7 : DataW.trod enc Try.prog W base (fun _ => true) held n 34 (([v0, v1, v2, v3, v4, v5, v6, v7].drop 7).take (Try.prog.cellsOf 34)) = some y7 := hf 7 _ rfl
    rw [cI] at h0 h4 h5
    rw [cS] at h1 h2
    rw [cB] at h3
    rw [cE] at h6
    rw [cK] at h7
    simp only [List.drop_zero, List.drop_succ_cons, List.take_succ_cons, List.take_zero] at h0 h1 h2 h3 h4 h5 h6 h7
    obtain ⟨k0, e0, -, w0⟩ := DataW.trod_int Try.underlying3 h0
    obtain ⟨k1, e1, -, w1⟩ := DataW.trod_string Try.underlying9 h1
    obtain ⟨k2, e2, -, w2⟩ := DataW.trod_string Try.underlying9 h2
    obtain ⟨A3, n3, c3, z3, e3, i3⟩ := open_fBv h3
    obtain ⟨k4, e4, -, w4⟩ := DataW.trod_int Try.underlying3 h4
    obtain ⟨k5, e5, -, w5⟩ := DataW.trod_int Try.underlying3 h5
    obtain ⟨k6, e6, -, w6⟩ := DataW.trod_int (k := .i64) (by kernel_rfl) h6
    obtain ⟨A7, n7, c7, z7, e7, i7⟩ := open_fIv h7
    simp at e0 e1 e2 e4 e5 e6
    subst e0 e1 e2 e3 e4 e5 e6 e7
    have l3 := i3.len
    have l7 := i7.len
    have q3 := i3.cap
    have q7 := i7.cap
    have m3 := i3.max
    have m7 := i7.max
    refine ⟨⟨⟨k0, k1, k2, z3, k4, k5, k6, z7⟩, A3, c3, A7, c7⟩, by rw [acC]; simp only [l3, l7], ⟨i3.rd, i3.byt, i7.rd, i7.wf, w1, w2, i64_wf w0, i64_wf w4, i64_wf w5, i64_wf w6, by show z3.length ≤ _; omega, by show z7.length ≤ _; omega, by show z3.length ≤ c3; omega, by show z7.length ≤ c7; omega⟩⟩
theorem eight {v : Array Value} (h : v.size = 8) : ∃ v0 v1 v2 v3 v4 v5 v6 v7, v = #[v0, v1, v2, v3, v4, v5, v6, v7] := by
  obtain ⟨l⟩ := v
  simp at h
  match l, h with
  | [v0, v1, v2, v3, v4, v5, v6, v7], _ => exact ⟨v0, v1, v2, v3, v4, v5, v6, v7, rfl⟩
/-- A call as a value. -/
def acV (z : VAc) : Value := .agg (acC z).toArray
set_option maxRecDepth 100000 in
theorem open_inAct {H : Type} {enc : TypeId × Value → H} {W : World} {base b0 : Nat} {r : Reach} {held : Bool} {v : Value} {d : DataW H} {p : List MemPlace} (hv : Value.okWide Try.prog W r b0 53 v)
    (h : DataW.Trod enc Try.prog W base (fun _ => true) held 53 v d p) : ∃ z : VAc, v = acV z ∧ AcOk W W.heap.size z := by
  obtain ⟨cs, rfl, hsz⟩ := okWide_struct Try.underlying53 hv
  obtain ⟨v0, v1, v2, v3, v4, v5, v6, v7, rfl⟩ := eight (hsz.trans (by kernel_rfl))
  obtain ⟨fuel, hf⟩ := h
  have h8 : DataW.trod enc Try.prog W base (fun _ => true) held fuel 53 [v0, v1, v2, v3, v4, v5, v6, v7] = some (d, p) := hf
  obtain ⟨z, hz, hok⟩ := open_acCells h8
  exact ⟨z, by rw [acV, ← hz], hok⟩
end Go.Proofs.Ytdjmmdhjjdnbdaa

/- The statement VfsNil: a file system that is not there, or that nobody made, refuses every call. The walk. -/
namespace Go.Proofs.Ytdjmmdhjjdnbdaa
open Go.RowKit

/-- A zero file system's cells. -/
def fsZ : Array Value := #[.bool false, .int .i64 0, .map none, .map none, .slice none 0 0, .bool false, .int .i64 0, .int .i64 0, .int .i64 0, .int .i64 0]
set_option maxRecDepth 100000 in
set_option maxHeartbeats 4000000 in
theorem vfsNil_walk (z : VAc) (w : World) (_hz : AcOk w w.heap.size z) : Calls Try.prog 7 #[acV z] w fun e w' => e = .returned (.bool true) ∧ Below w.heap.size w w' := by
  have b1 := Bk.new w 53 (acC z).toArray
  have hw1 := (Below.refl w.heap.size w).alloc (Nat.le_refl _) (.cells (acC z).toArray 53)
  obtain ⟨w1, e1⟩ : ∃ w1, w.alloc (.cells (acC z).toArray 53) = w1 := ⟨_, rfl⟩
  rw [e1] at b1 hw1
  have s1 : w1.heap.size = w.heap.size + 1 := by rw [← e1]; simp
  have b2 := Bk.new w1 59 fsZ
  have b12 := b1.alloc (.cells fsZ 59)
  have hw2 := hw1.alloc (by omega) (.cells fsZ 59)
  obtain ⟨w2, e2⟩ : ∃ w2, w1.alloc (.cells fsZ 59) = w2 := ⟨_, rfl⟩
  rw [e2] at b2 b12 hw2
  have s2 : w2.heap.size = w1.heap.size + 1 := by rw [← e2]; simp
  have b3 := Bk.new w2 25 #[.pointer none, ptV w1.heap.size]
  have b13 := b12.alloc (.cells #[.pointer none, ptV w1.heap.size] 25)
  have b23 := b2.alloc (.cells #[.pointer none, ptV w1.heap.size] 25)
  have hw3 := hw2.alloc (by omega) (.cells #[.pointer none, ptV w1.heap.size] 25)
  obtain ⟨w3, e3⟩ : ∃ w3, w2.alloc (.cells #[.pointer none, ptV w1.heap.size] 25) = w3 := ⟨_, rfl⟩
  rw [e3] at b3 b13 b23 hw3
  have s3 : w3.heap.size = w2.heap.size + 1 := by rw [← e3]; simp
  obtain ⟨g1, hg1⟩ : ∃ g1, w.heap.size = g1 := ⟨_, rfl⟩
  have hz2 : w1.heap.size = g1 + 1 := by omega
  have hz3 : w2.heap.size = g1 + 1 + 1 := by omega
  rw [hg1] at b1 b12 b13 hw1 hw2 hw3
  rw [hz2] at b2 b23 b3 e3
  rw [hz3] at b3
  have cell : ∀ x : World, Below w3.heap.size w3 x → x.cell? ⟨g1, 1, none⟩ = some (.string z.x.a) ∧ x.cell? ⟨g1, 2, none⟩ = some (.string z.x.c) ∧ x.cell? ⟨g1, 3, none⟩ = some (.slice z.Ab z.x.b.length z.cb) ∧ x.cell? ⟨g1, 4, none⟩ = some (.int .i64 z.x.n) ∧ x.cell? ⟨g1, 5, none⟩ = some (.int .i64 z.x.m) ∧ x.cell? ⟨g1, 6, none⟩ = some (.int .i64 z.x.e) ∧ x.cell? ⟨g1, 7, none⟩ = some (.slice z.Ak z.x.keep.length z.ck) := fun x hb => by
    have h1 := b13.below hb b13.lt
    refine ⟨?_, ?_, ?_, ?_, ?_, ?_, ?_⟩ <;> (rw [h1.cell]; rfl)
  have nob : ∀ (x : World) (j : Nat), Below w3.heap.size w3 x → j < 2 → ∃ p, x.cell? ⟨g1 + 1 + 1, j, none⟩ = some (.pointer p) ∧ ∀ y, Below w3.heap.size w3 y → Nob y p := fun x j hb hj => by
    have h3 := b3.below hb b3.lt
    match j, hj with
    | 0, _ => exact ⟨none, by rw [h3.cell]; rfl, fun y _ => .inl rfl⟩
    | 1, _ =>
      refine ⟨some ⟨g1 + 1, 0, none⟩, by rw [h3.cell]; rfl, fun y hy => ?_⟩
      have h2 := b23.below hy b23.lt
      exact .inr ⟨g1 + 1, rfl, h2.lt, by rw [h2.cell]; rfl⟩
  have hlv := vfLives
  have CELL := Lib.hid cell
  have NOB := Lib.hid nob
  have E1 := Lib.hid e1
  have E2 := Lib.hid e2
  have E3 := Lib.hid e3
  have HW3 := Lib.hid hw3
  have HLV := Lib.hid hlv
  have HG := Lib.hid hg1
  have HZ2 := Lib.hid hz2
  have HZ3 := Lib.hid hz3
  have SZ := Lib.hid (And.intro s1 (And.intro s2 s3))
  clear b1 b12 b13 b2 b23 b3 e1 e2 e3 hw1 hw2 hw3 cell nob hlv hg1 s1 s2 s3 hz2 hz3
  unfold acV
  go_enter Try.func7, Try.ntmps7
  go_wp2_with fail
  rw [HG.out, E1.out, show w1.alloc (.cells #[.bool false, .int .i64 0, .map none, .map none, .slice none 0 0, .bool false, .int .i64 0, .int .i64 0, .int .i64 0, .int .i64 0] 59) = w2 from E2.out, E3.out]
  go_loopw [4] (fun i_ wr => ∃ j : Nat, j ≤ 2 ∧ i_ = .int .i64 j ∧ Hid (Below w3.heap.size w3 wr)) (fun i_ _ => 2 - (intOf i_).toNat)
  case atStart => exact ⟨0, by omega, rfl, Lib.hid (Below.refl _ _)⟩
  case round =>
    obtain ⟨j, hj, rfl, HB⟩ := hrel
    by_cases hlt : j < 2
    · have hlt' : decide ((j : Int) < 2) = true := by simp; omega
      obtain ⟨p, hp, hnob⟩ := NOB.out wr j HB.out hlt
      have HN := Lib.hid hnob
      have hb0 := HB.out
      obtain ⟨a1, a2, a3, a4, a5, a6, a7⟩ := CELL.out wr hb0
      have HB0 := Lib.hid hb0
      clear hnob hb0
      go_wp2_with fail
      refine (nobRead (HN.out _ HB0.out) z.x.a z.x.n z.x.m).mono ?_
      rintro e x1 ⟨rfl, hf⟩
      have HB1 := Lib.hid (HB0.out.trans ((hf.below (Nat.le_refl _) fun _ e => e.elim).mono HB0.out.size))
      clear hf a1 a2 a3 a4 a5 a6 a7
      obtain ⟨a1, a2, a3, a4, a5, a6, a7⟩ := CELL.out x1 HB1.out
      clear hp
      go_wp2_with fail
      refine (nobCreate (HN.out _ HB1.out) z.x.a).mono ?_
      rintro e x2 ⟨rfl, hf⟩
      have HB2 := Lib.hid (HB1.out.trans ((hf.below (Nat.le_refl _) fun _ e => e.elim).mono HB1.out.size))
      clear hf a1 a2 a3 a4 a5 a6 a7
      obtain ⟨a1, a2, a3, a4, a5, a6, a7⟩ := CELL.out x2 HB2.out
      go_wp2_with fail
      refine (nobAppend (HN.out _ HB2.out) z.x.a z.Ab z.x.b.length z.cb).mono ?_
      rintro e x3 ⟨rfl, hf⟩
      have HB3 := Lib.hid (HB2.out.trans ((hf.below (Nat.le_refl _) fun _ e => e.elim).mono HB2.out.size))
      clear hf a1 a2 a3 a4 a5 a6 a7
      obtain ⟨a1, a2, a3, a4, a5, a6, a7⟩ := CELL.out x3 HB3.out
      go_wp2_with fail
      refine (nobSync (HN.out _ HB3.out) z.x.a).mono ?_
      rintro e x4 ⟨rfl, hf⟩
      have HB4 := Lib.hid (HB3.out.trans ((hf.below (Nat.le_refl _) fun _ e => e.elim).mono HB3.out.size))
      clear hf a1 a2 a3 a4 a5 a6 a7
      obtain ⟨a1, a2, a3, a4, a5, a6, a7⟩ := CELL.out x4 HB4.out
      go_wp2_with fail
      refine (nobSyncDir (HN.out _ HB4.out) ).mono ?_
      rintro e x5 ⟨rfl, hf⟩
      have HB5 := Lib.hid (HB4.out.trans ((hf.below (Nat.le_refl _) fun _ e => e.elim).mono HB4.out.size))
      clear hf a1 a2 a3 a4 a5 a6 a7
      obtain ⟨a1, a2, a3, a4, a5, a6, a7⟩ := CELL.out x5 HB5.out
      go_wp2_with fail
      refine (nobRename (HN.out _ HB5.out) z.x.a z.x.c).mono ?_
      rintro e x6 ⟨rfl, hf⟩
      have HB6 := Lib.hid (HB5.out.trans ((hf.below (Nat.le_refl _) fun _ e => e.elim).mono HB5.out.size))
      clear hf a1 a2 a3 a4 a5 a6 a7
      obtain ⟨a1, a2, a3, a4, a5, a6, a7⟩ := CELL.out x6 HB6.out
      go_wp2_with fail
      refine (nobRemove (HN.out _ HB6.out) z.x.a).mono ?_
      rintro e x7 ⟨rfl, hf⟩
      have HB7 := Lib.hid (HB6.out.trans ((hf.below (Nat.le_refl _) fun _ e => e.elim).mono HB6.out.size))
      clear hf a1 a2 a3 a4 a5 a6 a7
      obtain ⟨a1, a2, a3, a4, a5, a6, a7⟩ := CELL.out x7 HB7.out
      go_wp2_with fail
      refine (nobFuse (HN.out _ HB7.out) z.x.n).mono ?_
      rintro e x8 ⟨rfl, hw⟩
      subst hw
      have HB8 := HB7
      go_wp2_with fail
      refine (nobFault (HN.out _ HB8.out) z.x.n z.x.e).mono ?_
      rintro e x9 ⟨rfl, hw⟩
      subst hw
      have HB9 := HB8
      go_wp2_with fail
      refine (nobCrash (HN.out _ HB9.out) z.x.n z.Ak z.x.keep.length z.ck).mono ?_
      rintro e x10 ⟨rfl, hf⟩
      have HB10 := Lib.hid (HB9.out.trans ((hf.below (Nat.le_refl _) fun _ e => e.elim).mono HB9.out.size))
      clear hf a1 a2 a3 a4 a5 a6 a7
      obtain ⟨a1, a2, a3, a4, a5, a6, a7⟩ := CELL.out x10 HB10.out
      go_wp2_with fail
      refine (nobTurn (HN.out _ HB10.out) z.x.a z.x.n 1).mono ?_
      rintro e x11 ⟨rfl, hw⟩
      subst hw
      have HB11 := HB10
      go_wp2_with fail
      refine (nobSize (HN.out _ HB11.out) z.x.a).mono ?_
      rintro e x12 ⟨rfl, hw⟩
      subst hw
      have HB12 := HB11
      go_wp2_with fail
      refine (nobNames (HN.out _ HB12.out) ).mono ?_
      rintro e x13 ⟨rfl, hw⟩
      subst hw
      have HB13 := HB12
      go_wp2_with fail
      refine (nobUsed (HN.out _ HB13.out) ).mono ?_
      rintro e x14 ⟨rfl, hw⟩
      subst hw
      have HB14 := HB13
      go_wp2_with fail
      refine (nobOn (HN.out _ HB14.out) ).mono ?_
      rintro e x15 ⟨rfl, hw⟩
      subst hw
      have HB15 := HB14
      go_wp2_with fail
      refine (nobOps (HN.out _ HB15.out) ).mono ?_
      rintro e x16 ⟨rfl, hw⟩
      subst hw
      have HB16 := HB15
      go_wp2_with fail
      exact ⟨⟨j + 1, by omega, by go_num, HB16⟩, by simp only [intOf]; omega⟩
    · have hlt' : decide ((j : Int) < 2) = false := by simp; omega
      go_wp2_with fail
      refine (HLV.out _).mono ?_
      rintro e x1 ⟨rfl, hb⟩
      have hfin : Below w.heap.size w x1 := by
        have h1 := HW3.out
        have h2 := HB.out
        rw [← HG.out] at h1
        exact h1.trans ((h2.mono h1.size).trans (hb.mono (Nat.le_trans h1.size h2.size)))
      go_wp2_with fail
      go_ret
      exact ⟨rfl, hfin⟩
end Go.Proofs.Ytdjmmdhjjdnbdaa

/- The statement VfsNil, out of its walk. -/
namespace Go.Proofs.Ytdjmmdhjjdnbdaa
open Go.ChangeShapes Go.WideShapes Go.ChangeAt Go.RowKit
open Go.ChangeMaps (open_string shut_string)

set_option maxRecDepth 100000 in
theorem vfsNil_lifted (os : Os) (started : os.Started) (H : Type) (enc : TypeId × Value → H) :
    ReturnsInHanded {} Try.checked os 7 .any (Rows.vfsNilSpec.pre6 enc Try.prog Try.f7 Rows.vfsNilRow.domain false) (Rows.vfsNilSpec.post enc Try.prog Try.f7 false true false false) := by
  refine returnsInHanded_of_change (C := Try.checked) ownKnob_none started (by kernel_rfl) Try.func7
    (ChangeSpec.witness6 (enc := enc) (C := Try.checked) false ⟨#[], #[.agg #[.int .i64 0, .string ByteArray.empty, .string ByteArray.empty, .slice none 0 0, .int .i64 0, .int .i64 0, .int .i64 0, .slice none 0 0]], []⟩ 8 (by kernel_rfl) (by kernel_rfl) (by kernel_rfl) (by kernel_rfl)) ?_
  intro W base args ds gs before hval0 hW _ _
  have hval : ∀ (j : Nat) t v, Try.f7.params[j]? = some t → args[j]? = some v → Value.okWide Try.prog W .any base t v := hval0
  have hW' := hW
  obtain ⟨p, q, hA0, hV, rfl, hfz, hnd⟩ := hW
  have hA : DataW.TrodAll enc Try.prog W 0 (fun _ => true) true Try.f7.params.toList args.toList ds p := hA0
  rw [Try.params7] at hA hval
  obtain ⟨v0, vs0, d0, ds0, p0, q0, hargs, rfl, rfl, h0, r0⟩ := trodAll_cons hA
  obtain ⟨rfl, rfl, rfl⟩ := trodAll_nil r0
  obtain rfl : args = #[v0] := by cases args; simp_all
  obtain ⟨rfl, rfl⟩ := trodVars_none hV
  obtain ⟨u0_0, he0, w0⟩ := open_inAct (hval 0 53 v0 rfl rfl) h0
  subst he0
  have k0 := h0
  have lt0 : ∀ x ∈ p0, x.block < W.heap.size := by obtain ⟨m, hm⟩ := k0; exact DataW.trod_lt m _ _ _ hm
  clear hA0 hval0
  refine (vfsNil_walk u0_0 W w0).mono fun e W' ⟨he, bel⟩ => ?_
  subst he
  exact ⟨_, rfl, _, _, _, [], _, [], hW', trodAll_mk1 (shut_bool Try.underlying4 _), (trodAll_cons_mk (Below.trod laidOut (by kernel_rfl) (of_decide_eq_true (by kernel_rfl)) k0 bel lt0) trodAll_mk0), rfl, bel.frame _, fun h => by cases h⟩

/-- VfsNil: for every input the law returns true, and what came in reads as it did. -/
theorem vfsNil_holds : Rows.VfsNilSaid :=
  OpenClaim.holds_of_wide 7 Try.f7 rfl rfl rfl rfl rfl rfl rfl ⟨rfl, rfl, rfl, rfl, rfl⟩ rfl rfl rfl rfl rfl (by kernel_rfl) Try.func7 (by kernel_rfl)
    (of_decide_eq_true (by kernel_rfl)) (by unfold Func.isWrapper; first | (rw [if_pos (by decide +kernel)]; kernel_rfl) | (rw [if_neg (by decide +kernel)]; exact ⟨rfl, rfl⟩))
    (fun os started H enc _ => vfsNil_lifted os started H enc)
#print axioms vfsNil_holds
end Go.Proofs.Ytdjmmdhjjdnbdaa
