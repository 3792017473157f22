/- Texts of the proof of VfsScriptSaid, joined: VsB VsC VsK0 VsK1 VsK2 VsK3 VsK4 VsK5. -/
import Derived.Test.YtdjmmdhjjdnbdaaJVfsScript15
import Derived.Test.YtdjmmdhjjdnbdaaJVfsScript3
import Derived.Deep.RegionHeld3
/- Layer 4: the law's calls: a list that came in; small. -/
namespace Go.Proofs.Ytdjmmdhjjdnbdaa
open Go.ChangeShapes Go.WideShapes Go.ChangeAt Go.RowKit

theorem acC_length (z : VAc) : (acC z).length = 8 := rfl
/-- Calls that came in. -/
structure InActs (w : World) (A : Option Addr) (n c : Nat) (l : List VAc) : Prop where
  rd : Rd w w.heap.size A (flatR acC l)
  len : l.length = n
  cap : n ≤ c
  max : c ≤ maxLen
  ok : ∀ z ∈ l, AcOk w w.heap.size z
theorem listOfA {α : Type} (P : Nat → α → Prop) : ∀ (n : Nat), (∀ i, i < n → ∃ x, P i x) → ∃ l : List α, l.length = n ∧ ∀ i x, l[i]? = some x → P i x
  | 0, _ => ⟨[], rfl, fun i x h => by simp at h⟩
  | n + 1, h => by
    obtain ⟨l, hl, hp⟩ := listOfA P n fun i hi => h i (by omega)
    obtain ⟨x, hx⟩ := h n (by omega)
    refine ⟨l ++ [x], by simp [hl], fun i y hy => ?_⟩
    by_cases hi : i < l.length
    · rw [List.getElem?_append_left hi] at hy
      exact hp i y hy
    · have hin : i = n := by
        have := (List.getElem?_eq_some_iff.1 hy).1
        simp at this
        omega
      subst hin
      rw [List.getElem?_append_right (by omega), hl, Nat.sub_self] at hy
      simp at hy
      subst hy
      exact hx
set_option maxRecDepth 100000 in
theorem open_inActs {H : Type} {enc : TypeId × Value → H} {W : World} {base b0 : Nat} {r : Reach} {held : Bool} {v : Value} {d : DataW H} {p : List MemPlace} (_hv : Value.okWide Try.prog W r b0 46 v)
    (h : DataW.Trod enc Try.prog W base (fun _ => true) held 46 v d p) :
    ∃ (A : Option Addr) (n c : Nat) (l : List VAc), v = .slice A n c ∧ InActs W A n c l := by
  obtain ⟨aa, len, cap, rfl⟩ := okWide_slice Try.underlying46 _hv
  obtain ⟨fuel, hf⟩ := h
  rcases Deep.open_slice Try.underlying46 hf with ⟨hcs, _⟩ | ⟨a, len, cap, m, n, D, Pl, hcs, hb, hl, hm, hmm, hx, hi⟩
  · simp [Value.cells] at hcs
    obtain ⟨rfl, rfl, rfl⟩ := hcs
    exact ⟨none, 0, 0, [], rfl, ⟨fun hn => absurd rfl hn, rfl, Nat.le_refl _, by simp [maxLen], fun e he => by cases he⟩⟩
  · simp [Value.cells] at hcs
    obtain ⟨rfl, rfl, rfl⟩ := hcs
    rw [if_pos rfl] at hmm
    subst hmm
    have hC : Try.prog.cellsOf 53 = 8 := by kernel_rfl
    rw [hC] at hi
    obtain ⟨l, hll, hl2⟩ := listOfA (fun i (e : VAc) => (∀ j, j < 8 → W.cell? ((a.add (i * 8)).add j) = (acC e)[j]?) ∧ AcOk W W.heap.size e) len fun i hil => by
      obtain ⟨cs', hc, ht⟩ := hi i (by omega)
      obtain ⟨_, hcl, hat⟩ := World.cells?_some hc
      match cs', hcl with
      | [c0, c1, c2, c3, c4, c5, c6, c7], _ =>
        obtain ⟨e, he, hok⟩ := open_acCells ht
        refine ⟨e, fun j hj => ?_, hok⟩
        have h1 := hat j hj
        rw [he] at h1
        exact h1
    refine ⟨some a, _, _, l, rfl, ⟨?_, hll, hl, hm, ?_⟩⟩
    · intro hne
      have hpos : 0 < l.length := by
        rcases Nat.eq_zero_or_pos l.length with h0 | h0
        · rw [List.eq_nil_of_length_eq_zero h0] at hne
          exact absurd rfl hne
        · exact h0
      obtain ⟨x0, hx0⟩ : ∃ x0, l[0]? = some x0 := ⟨_, List.getElem?_eq_getElem hpos⟩
      obtain ⟨b, off, spot⟩ := a
      have h0 := (hl2 0 x0 hx0).1 0 (by omega)
      simp only [Nat.zero_mul, Addr.add] at h0
      have h1 : (acC x0)[0]? = some (.int .i64 x0.x.kind) := rfl
      rw [h1] at h0
      have hspot : spot = none := by simpa using World.cell?_spot h0
      subst hspot
      refine ⟨b, off, rfl, World.block_lt_of_cell? W ⟨b, off, none⟩ (by simpa using h0), fun j u hu => ?_⟩
      have hj : j < l.length * 8 := by
        have := (List.getElem?_eq_some_iff.1 hu).1
        rwa [flatR_length acC_length] at this
      obtain ⟨x1, hx1⟩ : ∃ x1, l[j / 8]? = some x1 := ⟨_, List.getElem?_eq_getElem (by omega)⟩
      have h2 := (hl2 (j / 8) x1 hx1).1 (j % 8) (Nat.mod_lt _ (by omega))
      have h3 := flatR_get acC_length hx1 (j % 8) (Nat.mod_lt _ (by omega))
      rw [Addr.add_lit, Addr.add_lit, Nat.add_assoc, show j / 8 * 8 + j % 8 = j from by omega] at h2
      rw [show j / 8 * 8 + j % 8 = j from by omega] at h3
      rw [h2, ← h3, hu]
    · intro e he
      obtain ⟨i, hi, hxi⟩ := List.getElem_of_mem he
      exact (hl2 i e (by rw [List.getElem?_eq_getElem hi, hxi])).2
theorem AcOk.below {w w' : World} {B : Nat} {z : VAc} (h : AcOk w B z) (hb : Below B w w') : AcOk w' B z :=
  { h with b := h.b.below hb, k := h.k.below hb }
/-- A call that is gone through. -/
structure AcSmall (z : VAc) : Prop where
  b : z.x.b.length ≤ 300
  k : z.x.keep.length ≤ 80
  a : z.x.a.size ≤ 300
  c : z.x.c.size ≤ 300
/-- What small comes to. -/
def SmallPost (w : World) (n : Nat) (l : List VAc) (e : Ending) (w' : World) : Prop := ∃ q, e = .returned (.bool q) ∧ (q = true → n ≤ 80 ∧ ∀ z ∈ l, AcSmall z) ∧ w = w'
theorem SmallPost.no (w : World) (n : Nat) (l : List VAc) : SmallPost w n l (.returned (.bool false)) w := ⟨false, rfl, (fun h => by cases h), rfl⟩
set_option maxRecDepth 100000 in
set_option maxHeartbeats 2000000 in
theorem vsSmall {A : Option Addr} {n c B : Nat} {l : List VAc} (w : World) (hr : Rd w B A (flatR acC l)) (hn : l.length = n) (hnm : n ≤ maxLen) (hok : ∀ z ∈ l, z.x.b.length ≤ maxLen ∧ z.x.keep.length ≤ maxLen ∧ z.x.a.size ≤ maxLen ∧ z.x.c.size ≤ maxLen) :
    Calls Try.prog 27 #[.slice A n c] w (SmallPost w n l) := by
  simp only [maxLen] at hnm
  by_cases h80 : n ≤ 80
  · have h80' : ¬ (80 : Int) < (n : Int) := by omega
    have h80d : decide ((n : Int) > 80) = false := by simp; omega
    have HN := Lib.hid hn
    have HR := Lib.hid hr
    have HO := Lib.hid hok
    clear hn hr hok
    go_enter Try.func27, Try.ntmps27
    go_wp2_with fail
    go_loopw [3] (fun i_ wr => ∃ k : Nat, k ≤ n ∧ i_ = .int .i64 k ∧ wr = w ∧ Hid (∀ z ∈ l.take k, AcSmall z)) (fun i_ _ => n - (intOf i_).toNat)
    case atStart => exact ⟨0, Nat.zero_le _, rfl, rfl, Lib.hid fun z hz => by rw [List.take_zero] at hz; cases hz⟩
    case round =>
      obtain ⟨k, hk, rfl, rfl, HS⟩ := hrel
      by_cases hlt : k < n
      · have hlt' : (k : Int) < (n : Int) := by omega
        obtain ⟨z, hz⟩ : ∃ z, l[k]? = some z := ⟨_, List.getElem?_eq_getElem (by rw [HN.out]; exact hlt)⟩
        obtain ⟨b, o, rfl, -, hc⟩ := flatR_at acC_length (by omega) HR.out hz
        obtain ⟨o1, o2, o3, o4⟩ := HO.out z (List.mem_of_getElem? hz)
        simp only [maxLen] at o1 o2 o3 o4
        have d1 : wr.cell? ⟨b, o + (k * 8 + 1), none⟩ = some (.string z.x.a) := hc 1 (by omega)
        have d2 : wr.cell? ⟨b, o + (k * 8 + 2), none⟩ = some (.string z.x.c) := hc 2 (by omega)
        have d3 : wr.cell? ⟨b, o + (k * 8 + 3), none⟩ = some (.slice z.Ab z.x.b.length z.cb) := hc 3 (by omega)
        have d7 : wr.cell? ⟨b, o + (k * 8 + 7), none⟩ = some (.slice z.Ak z.x.keep.length z.ck) := hc 7 (by omega)
        rw [← Nat.add_assoc] at d1 d2 d3 d7
        obtain ⟨zb, e1⟩ : ∃ zb, z.x.b.length = zb := ⟨_, rfl⟩
        obtain ⟨zk, e2⟩ : ∃ zk, z.x.keep.length = zk := ⟨_, rfl⟩
        obtain ⟨za, e3⟩ : ∃ za, z.x.a.size = za := ⟨_, rfl⟩
        obtain ⟨zc, e4⟩ : ∃ zc, z.x.c.size = zc := ⟨_, rfl⟩
        rw [e1] at d3 o1
        rw [e2] at d7 o2
        rw [e3] at o3
        rw [e4] at o4
        have HE := Lib.hid (And.intro e1 (And.intro e2 (And.intro e3 e4)))
        have HZ := Lib.hid hz
        clear hc hz e1 e2
        go_wp2_with fail
        all_goals first
          | (go_ret; exact SmallPost.no wr n l)
          | exact ⟨⟨k + 1, by omega, by go_num, trivial, Lib.hid fun z' hz' => (by
              rw [take_snoc HZ.out] at hz'
              rcases List.mem_append.1 hz' with h1 | h1
              · exact HS.out z' h1
              · obtain ⟨e1, e2, e3, e4⟩ := HE.out
                rw [List.mem_singleton.1 h1]
                exact ⟨by omega, by omega, by omega, by omega⟩)⟩, by simp only [intOf]; omega⟩
          | go_show
      · have hlt' : decide ((k : Int) < (n : Int)) = false := by simp; omega
        have hlt2 : ¬ (k : Int) < (n : Int) := by omega
        go_wp2_with fail
        go_ret
        exact ⟨true, rfl, fun _ => ⟨h80, by have h1 := HS.out; rw [List.take_of_length_le (by rw [HN.out]; omega)] at h1; exact h1⟩, rfl⟩
  · have h80' : (80 : Int) < (n : Int) := by omega
    have h80d : decide ((n : Int) > 80) = true := by simp; omega
    clear hr hn hok
    go_enter Try.func27, Try.ntmps27
    go_wp2_with fail
    go_ret
    exact SmallPost.no w n l
end Go.Proofs.Ytdjmmdhjjdnbdaa

/- Layer 4: the law's act: what all its kinds share. -/
namespace Go.Proofs.Ytdjmmdhjjdnbdaa
open Go.RowKit

/-- What act comes to. -/
def ActP (w0 : World) (F1 F2 k : Nat) (e : Ending) (w' : World) : Prop := e = .returned (.bool true) ∧ ∃ K1 K2 S, Tw w0 w' K1 K2 F1 F2 S (k + 1)
theorem SeP.cl {w0 W w' : World} {K : Nat → Prop} {F k r : Nat} {T : VSt} {e : Ending} (h : SeP w0 W K F k (T, r) e w') : e = .returned (.int .i64 (r : Nat)) ∧ Se w0 w' (Kn K W.heap.size w'.heap.size) F T (k + 1) ∧ FrK W w' K := h
theorem SrP.cl {w0 W w' : World} {K : Nat → Prop} {F r : Nat} {T : VSt} {e : Ending} (h : SrP w0 W K F (T, r) e w') : e = .returned (.int .i64 (r : Nat)) ∧ Sr w0 w' (Kn K W.heap.size w'.heap.size) F T ∧ FrK W w' K := h
/-- A call as it comes into act, its letters apart. -/
abbrev acA (kd : Int) (sa sc : ByteArray) (Ab : Option Addr) (zb cb : Nat) (n m er : Int) (Ak : Option Addr) (zk ck : Nat) : Array Value := #[.int .i64 kd, .string sa, .string sc, .slice Ab zb cb, .int .i64 n, .int .i64 m, .int .i64 er, .slice Ak zk ck]
/-- What is known where act has put its call into a block of its own, and asked for its kind. -/
structure ActB (w0 w1 : World) (K1 K2 : Nat → Prop) (F1 F2 : Nat) (S : VSt) (k x : Nat) (A : Array Value) : Prop where
  tw : Tw w0 w1 K1 K2 F1 F2 S k
  bk : Bk w1 x 53 A
  n1 : ¬K1 x
  n2 : ¬K2 x
section
variable {w0 W w1 w2 w3 : World} {K1 K2 : Nat → Prop} {F1 F2 k x r : Nat} {S T : VSt} {A : Array Value}
theorem ActB.new (h : Tw w0 W K1 K2 F1 F2 S k) (A : Array Value) : ActB w0 (W.alloc (.cells A 53)) K1 K2 F1 F2 S k W.heap.size A :=
  ⟨h.below ((Below.refl _ W).alloc (Nat.le_refl _) _), Bk.new W _ A, fun e => Nat.lt_irrefl _ (h.se.kLo e).2, fun e => Nat.lt_irrefl _ (h.sr.lo e).2⟩
theorem ActB.drew (h : ActB w0 w1 K1 K2 F1 F2 S k x A) : ActB w0 w1.drew K1 K2 F1 F2 S k x A := ⟨h.tw.below (Below.refl _ w1).drew, h.bk, h.n1, h.n2⟩
/-- The code's call, then the document's. -/
theorem ActB.two (h : ActB w0 w1 K1 K2 F1 F2 S k x A) (h1 : Se w0 w2 (Kn K1 w1.heap.size w2.heap.size) F1 T (k + 1)) (f1 : FrK w1 w2 K1) (h2 : Sr w0 w3 (Kn K2 w2.heap.size w3.heap.size) F2 T) (f2 : FrK w2 w3 K2) : ActP w0 F1 F2 k (.returned (.bool true)) w3 :=
  ⟨rfl, _, _, _, h.tw.cr2 h1 f1.size h2 f2⟩
end
end Go.Proofs.Ytdjmmdhjjdnbdaa

/- Layer 4: the law's act, of kind 0: Create. Printed by tools/genVsAct.py. -/
namespace Go.Proofs.Ytdjmmdhjjdnbdaa
open Go.RowKit
set_option maxRecDepth 100000 in
set_option maxHeartbeats 4000000 in
theorem vsAct0 {w0 W : World} {K1 K2 : Nat → Prop} {F1 F2 k : Nat} {S : VSt} (h : Tw w0 W K1 K2 F1 F2 S k) (hk : k ≤ 200) {kd n m er : Int} {sa sc : ByteArray} {Ab Ak : Option Addr} {zb cb zk ck : Nat}
    (hsa : sa.size ≤ 300) (hsc : sc.size ≤ 300) (hn : I64 n) (hkd : kd % 12 = 0) :
    Calls Try.prog 29 #[ptV F1, ptV F2, .agg (acA kd sa sc Ab zb cb n m er Ak zk ck)] W (ActP w0 F1 F2 k) := by
  have b0 := ActB.new h (acA kd sa sc Ab zb cb n m er Ak zk ck)
  have SK := Lib.hid h.se.sk
  obtain ⟨T, r, hR⟩ : ∃ T r, S.create sa = (T, r) := ⟨_, _, rfl⟩
  have HR := Lib.hid hR
  have HN := Lib.hid hn
  obtain ⟨w1, e1⟩ : ∃ w1, W.alloc (.cells (acA kd sa sc Ab zb cb n m er Ak zk ck) 53) = w1 := ⟨_, rfl⟩
  rw [e1] at b0
  obtain ⟨x, hx⟩ : ∃ x, W.heap.size = x := ⟨_, rfl⟩
  rw [hx] at b0
  have d0 : w1.cell? ⟨x, 0, none⟩ = some (.int .i64 kd) := by rw [b0.bk.cell 0]; rfl
  have CP := Lib.hid (kitPick kd 12 w1 (by omega) (by omega))
  have E1 := Lib.hid e1
  have HX := Lib.hid hx
  have HKD := Lib.hid hkd
  have B0 := Lib.hid b0
  clear h e1 hx hkd hn hR b0
  go_enter Try.func29, Try.ntmps29
  go_wp2_with fail
  rw [E1.out, HX.out]
  go_wp2_with fail
  refine CP.out.mono ?_
  rintro e w9 ⟨rfl, rfl⟩
  rw [show ((12 : Nat) : Int) = 12 from rfl, HKD.out]
  clear CP
  go_wp2_with fail
  have B1 := Lib.hid B0.out.drew
  have KC : Hid (∀ W' : World, Bk W' x 53 (acA kd sa sc Ab zb cb n m er Ak zk ck) → W'.cell? ⟨x, 1, none⟩ = some (.string sa) ∧ W'.cell? ⟨x, 2, none⟩ = some (.string sc) ∧ W'.cell? ⟨x, 4, none⟩ = some (.int .i64 n) ∧ W'.cell? ⟨x, 5, none⟩ = some (.int .i64 m) ∧ W'.cell? ⟨x, 6, none⟩ = some (.int .i64 er)) :=
    Lib.hid fun W' hb => ⟨by rw [hb.cell 1]; rfl, by rw [hb.cell 2]; rfl, by rw [hb.cell 4]; rfl, by rw [hb.cell 5]; rfl, by rw [hb.cell 6]; rfl⟩
  obtain ⟨d1, d2, d4, d5, d6⟩ := KC.out _ B0.out.bk
  have C1 := Lib.hid (seCreate B1.out.tw.se (by omega) sa (by omega))
  rw [HR.out] at C1
  go_region_held3 (fun W' => W'.cell? ⟨x, 1, none⟩ = some (.string sa) ∧ W'.cell? ⟨x, 2, none⟩ = some (.string sc) ∧ W'.cell? ⟨x, 4, none⟩ = some (.int .i64 n) ∧ W'.cell? ⟨x, 5, none⟩ = some (.int .i64 m) ∧ W'.cell? ⟨x, 6, none⟩ = some (.int .i64 er)) (first | go_keep | exact KC.out _ (f1.bk B1.out.bk B1.out.n1) | exact KC.out _ (f2.bk (f1.bk B1.out.bk B1.out.n1) B1.out.n2)) (first
    | (go_at_call 12; refine C1.out.mono ?_; intro e w2 hp1; obtain ⟨rfl, h1, f1⟩ := hp1.cl; have c2 := (srCreate (B1.out.tw.cr f1) SK.out (by omega) sa (by omega)); rw [HR.out] at c2; have C2 := Lib.hid c2; clear c2 hp1)
    | (go_at_call 52; refine C2.out.mono ?_; intro e w3 hp2; obtain ⟨rfl, h2, f2⟩ := hp2.cl))
  all_goals go_wp2_with fail
  all_goals go_ret
  all_goals exact B1.out.two h1 f1 h2 f2
end Go.Proofs.Ytdjmmdhjjdnbdaa

/- Layer 4: the law's act, of the kinds 1 and 11: Append. Printed by tools/genVsApp.py. -/
namespace Go.Proofs.Ytdjmmdhjjdnbdaa
open Go.RowKit
theorem Tw.set {w0 W : World} {K1 K2 : Nat → Prop} {F1 F2 k g j : Nat} {S : VSt} (h : Tw w0 W K1 K2 F1 F2 S k) (n1 : ¬K1 g) (n2 : ¬K2 g) (hg : w0.heap.size ≤ g) (v : Value) : Tw w0 (W.setCell ⟨g, j, none⟩ v) K1 K2 F1 F2 S k :=
  ⟨h.se.keep (FrK.set W g j v) (fun b e e2 => n1 (by rw [← show b = g from e2]; exact e)) (fun b e => by rw [show b = g from e]; exact hg), h.sr.keep (FrK.set W g j v) fun b e e2 => n2 (by rw [← show b = g from e2]; exact e), h.apart⟩
/-- Behind both calls: both file systems, and the copy that the law made. -/
theorem append_both {w0 w1 w2 w3 w4 : World} {K1 K2 : Nat → Prop} {F1 F2 k : Nat} {S T : VSt} {v : Value} {n : Nat} {xs : List Value} (h1 : Tw w0 w1 K1 K2 F1 F2 S k) (h : Tw w0 w2 K1 K2 F1 F2 S k) (ho : w2.ownsRow w1.heap.size 5 1 v n xs)
    (s1 : Se w0 w3 (Kn K1 w2.heap.size w3.heap.size) F1 T (k + 1)) (f1 : FrK w2 w3 K1) (s2 : Sr w0 w4 (Kn K2 w3.heap.size w4.heap.size) F2 T) (f2 : FrK w3 w4 K2) :
    Tw w0 w4 (Kn K1 w2.heap.size w3.heap.size) (Kn K2 w3.heap.size w4.heap.size) F1 F2 T (k + 1) ∧ w4.ownsRow w1.heap.size 5 1 v n xs ∧ ∀ g, v.ownBlock = some g → ¬Kn K1 w2.heap.size w3.heap.size g ∧ ¬Kn K2 w3.heap.size w4.heap.size g ∧ w0.heap.size ≤ g := by
  have hl1 : ∀ b, K1 b → b < w1.heap.size := fun b e => (h1.se.kLo e).2
  have hl2 : ∀ b, K2 b → b < w1.heap.size := fun b e => (h1.sr.lo e).2
  have hb := h1.se.bel.size
  refine ⟨h.cr2 s1 f1.size s2 f2, own_of (w := w3) (w' := w4) (own_of (w := w2) (w' := w3) ho fun g hg => ?_) fun g hg => ?_, fun g hg => ?_⟩
  · have h3 := ho.lt g hg
    exact f1.block g h3.2 fun e => by have := hl1 g e; omega
  · have h3 := ho.lt g hg
    exact f2.block g (Nat.lt_of_lt_of_le h3.2 f1.size) fun e => by have := hl2 g e; omega
  · have h3 := ho.lt g hg
    have h4 := f1.size
    refine ⟨fun e => ?_, fun e => ?_, by omega⟩
    · rcases e with e | ⟨e, -⟩
      · have := hl1 g e
        omega
      · omega
    · rcases e with e | ⟨e, -⟩
      · have := hl2 g e
        omega
      · omega
set_option maxRecDepth 100000 in
set_option maxHeartbeats 4000000 in
theorem vsAct1 {w0 W : World} {K1 K2 : Nat → Prop} {F1 F2 k : Nat} {S : VSt} (h : Tw w0 W K1 K2 F1 F2 S k) (hk : k ≤ 200) {kd n m er : Int} {sa sc : ByteArray} {Ab Ak : Option Addr} {zb cb zk ck : Nat} {zs : List Int}
    (hsa : sa.size ≤ 300) (hzl : zs.length = zb) (hzb : zb ≤ 300) (hbz : Byt zs) (hz : Rb W w0.heap.size Ab zs) (hkd : kd % 12 = 1) :
    Calls Try.prog 29 #[ptV F1, ptV F2, .agg (acA kd sa sc Ab zb cb n m er Ak zk ck)] W (ActP w0 F1 F2 k) := by
  have b0 := ActB.new h (acA kd sa sc Ab zb cb n m er Ak zk ck)
  have hz1 := hz.below ((Below.refl w0.heap.size W).alloc h.se.bel.size (.cells (acA kd sa sc Ab zb cb n m er Ak zk ck) 53))
  obtain ⟨T, r, hR⟩ : ∃ T r, S.append sa zs = (T, r) := ⟨_, _, rfl⟩
  obtain ⟨w1, e1⟩ : ∃ w1, W.alloc (.cells (acA kd sa sc Ab zb cb n m er Ak zk ck) 53) = w1 := ⟨_, rfl⟩
  rw [e1] at b0 hz1
  obtain ⟨x, hx⟩ : ∃ x, W.heap.size = x := ⟨_, rfl⟩
  rw [hx] at b0
  have d0 : w1.cell? ⟨x, 0, none⟩ = some (.int .i64 kd) := by rw [b0.bk.cell 0]; rfl
  have d3 : w1.cell? ⟨x, 3, none⟩ = some (.slice Ab zb cb) := by rw [b0.bk.cell 3]; rfl
  have CP := Lib.hid (kitPick kd 12 w1 (by omega) (by omega))
  have CO := Lib.hid (kitOwn (c := cb) w1 hz1 b0.tw.se.bel.size (by omega) hzl)
  have HR := Lib.hid hR
  have HZL := Lib.hid hzl
  have HBZ := Lib.hid hbz
  have HZ1 := Lib.hid hz1
  have E1 := Lib.hid e1
  have HX := Lib.hid hx
  have HKD := Lib.hid hkd
  have B0 := Lib.hid b0
  clear h e1 hx hkd b0 hR hzl hbz hz hz1
  go_enter Try.func29, Try.ntmps29
  go_wp2_with fail
  rw [E1.out, HX.out]
  go_wp2_with fail
  refine CP.out.mono ?_
  rintro e w9 ⟨rfl, rfl⟩
  rw [show ((12 : Nat) : Int) = 12 from rfl, HKD.out]
  clear CP
  go_wp2_with fail
  refine CO.out.mono ?_
  rintro e w2 ⟨A2, c2, rfl, happ, -⟩
  have bw2 := happ.below0
  have tw2 := B0.out.tw.below bw2.drew
  have hb2 : Bk w2.drew x 53 (acA kd sa sc Ab zb cb n m er Ak zk ck) := (bw2.block x B0.out.bk.lt).trans B0.out.bk
  have KC : Hid (∀ W' : World, Bk W' x 53 (acA kd sa sc Ab zb cb n m er Ak zk ck) → W'.cell? ⟨x, 1, none⟩ = some (.string sa) ∧ W'.cell? ⟨x, 3, none⟩ = some (.slice Ab zb cb)) :=
    Lib.hid fun W' hb => ⟨by rw [hb.cell 1]; rfl, by rw [hb.cell 3]; rfl⟩
  obtain ⟨g1, g3⟩ := KC.out _ hb2
  have g1' : w2.cell? ⟨x, 1, none⟩ = some (.string sa) := g1
  have g3' : w2.cell? ⟨x, 3, none⟩ = some (.slice Ab zb cb) := g3
  have hown2 := happ.own
  have c1 := seAppend (c := c2) (n := zb) tw2.se (by omega) sa (by omega) (Rd.of_own (World.ownsRow.drew hown2)) HBZ.out (fun a e e2 => by
    have h3 := (hown2.lt a.block (by rw [e]; rfl)).1
    have h4 := (B0.out.tw.se.kLo e2).2
    omega) HZL.out (Nat.le_refl _) hzb
  rw [HR.out] at c1
  have C1 := Lib.hid c1
  have B2 := Lib.hid hb2
  have T2 := Lib.hid tw2
  have HO2 := Lib.hid (show w2.drew.ownsRow w9.heap.size 5 1 (.slice A2 zb c2) zb (bv zs) from World.ownsRow.drew hown2)
  have CD : Hid (∀ w3, FrK w2.drew w3 K1 → Calls Try.prog 62 #[ptV F2, .string sa, .slice Ab zb cb] w3 (SrP w0 w3 K2 F2 (T, r))) := Lib.hid fun w3 f1 => by
    rw [← HR.out]
    have hz3 : Rb w3 w0.heap.size Ab zs := (HZ1.out.below (bw2.drew.mono B0.out.tw.se.bel.size)).below (f1.below T2.out.se.bel.size fun b e => (T2.out.se.kLo e).1)
    refine srAppend (T2.out.cr f1) T2.out.se.sk (by omega) sa (by omega) hz3 (fun h0 a e e2 => ?_) HZL.out (Nat.le_trans T2.out.se.bel.size f1.size) hzb
    obtain ⟨b, o, e3, hb, -⟩ := hz3 (fun e0 => h0 (by
      have := congrArg List.length e0
      simp [bv] at this
      exact this))
    rw [e] at e3
    cases e3
    have h7 := (B0.out.tw.sr.lo e2).1
    simp only at h7
    omega
  clear happ bw2 tw2 hb2 hown2 c1 d0 d3 CO
  go_wp2_with fail
  go_region_held3 (fun W' => W'.cell? ⟨x, 1, none⟩ = some (.string sa) ∧ W'.cell? ⟨x, 3, none⟩ = some (.slice Ab zb cb)) (first | go_keep | exact KC.out _ (f1.bk B2.out B0.out.n1) | exact KC.out _ (f2.bk (f1.bk B2.out B0.out.n1) B0.out.n2)) (first
    | (go_at_call 13; refine C1.out.mono ?_; intro e w3 hp1; obtain ⟨rfl, h1, f1⟩ := hp1.cl; clear hp1)
    | (go_at_call 62; refine (CD.out _ f1).mono ?_; intro e w4 hp2; obtain ⟨rfl, h2, f2⟩ := hp2.cl; clear hp2))
  all_goals
    obtain ⟨t4, o4, k4⟩ := append_both B0.out.tw T2.out HO2.out h1 f1 h2 f2
    have T4 := Lib.hid t4
    have O4 := Lib.hid o4
    have N4 := Lib.hid k4
    clear t4 o4 k4 h1 h2
    go_wp2_with fail
    go_loopw [13] (fun i_ wx => ∃ (j : Nat) (ys : List Value), j ≤ zb ∧ i_ = .int .i64 j ∧ Hid (wx.ownsRow w9.heap.size 5 1 (.slice A2 zb c2) zb ys) ∧ Hid (Tw w0 wx (Kn K1 w2.drew.heap.size w3.heap.size) (Kn K2 w3.heap.size w4.heap.size) F1 F2 T (k + 1))) (fun i_ _ => zb - (intOf i_).toNat)
    case atStart => exact ⟨0, _, Nat.zero_le _, rfl, O4, T4⟩
    case round =>
      obtain ⟨j, ys, hj, rfl, HO, HT⟩ := hrel
      by_cases hlt : j < zb
      · have hlt' : (j : Int) < (zb : Int) := by omega
        obtain ⟨g, cap, hv, hg0, hglt⟩ := HO.out.form (by omega)
        injection hv with hA hnn hcc
        subst hA
        have ycell := HO.out.cellAt j (by omega)
        have yfz := HO.out.frozenAt j
        have hst := (HO.out.stored j (.int .u8 0)).1
        obtain ⟨n1, n2, n3⟩ := N4.out g rfl
        have hts := HT.out.set (j := j) n1 n2 n3 (.int .u8 0)
        have HST := Lib.hid hst
        have HTS := Lib.hid hts
        clear hst hts n1 n2 n3 hnn hcc
        have yl := HO.out.1
        obtain ⟨y, hy⟩ : ∃ y, ys[j]? = some y := ⟨_, List.getElem?_eq_getElem (by omega)⟩
        rw [hy] at ycell
        clear yl hy
        go_wp2_with fail
        exact ⟨⟨j + 1, _, by omega, by go_num, HST, HTS⟩, by simp only [intOf]; omega⟩
      · have hlt' : decide ((j : Int) < (zb : Int)) = false := by simp; omega
        have hlt2 : ¬ (j : Int) < (zb : Int) := by omega
        go_wp2_with fail
        go_ret
        exact ⟨rfl, _, _, _, HT.out⟩
set_option maxRecDepth 100000 in
set_option maxHeartbeats 4000000 in
theorem vsAct11 {w0 W : World} {K1 K2 : Nat → Prop} {F1 F2 k : Nat} {S : VSt} (h : Tw w0 W K1 K2 F1 F2 S k) (hk : k ≤ 200) {kd n m er : Int} {sa sc : ByteArray} {Ab Ak : Option Addr} {zb cb zk ck : Nat} {zs : List Int}
    (hsa : sa.size ≤ 300) (hzl : zs.length = zb) (hzb : zb ≤ 300) (hbz : Byt zs) (hz : Rb W w0.heap.size Ab zs) (hkd : kd % 12 = 11) :
    Calls Try.prog 29 #[ptV F1, ptV F2, .agg (acA kd sa sc Ab zb cb n m er Ak zk ck)] W (ActP w0 F1 F2 k) := by
  have b0 := ActB.new h (acA kd sa sc Ab zb cb n m er Ak zk ck)
  have hz1 := hz.below ((Below.refl w0.heap.size W).alloc h.se.bel.size (.cells (acA kd sa sc Ab zb cb n m er Ak zk ck) 53))
  obtain ⟨T, r, hR⟩ : ∃ T r, S.append sa zs = (T, r) := ⟨_, _, rfl⟩
  obtain ⟨w1, e1⟩ : ∃ w1, W.alloc (.cells (acA kd sa sc Ab zb cb n m er Ak zk ck) 53) = w1 := ⟨_, rfl⟩
  rw [e1] at b0 hz1
  obtain ⟨x, hx⟩ : ∃ x, W.heap.size = x := ⟨_, rfl⟩
  rw [hx] at b0
  have d0 : w1.cell? ⟨x, 0, none⟩ = some (.int .i64 kd) := by rw [b0.bk.cell 0]; rfl
  have d3 : w1.cell? ⟨x, 3, none⟩ = some (.slice Ab zb cb) := by rw [b0.bk.cell 3]; rfl
  have CP := Lib.hid (kitPick kd 12 w1 (by omega) (by omega))
  have CO := Lib.hid (kitOwn (c := cb) w1 hz1 b0.tw.se.bel.size (by omega) hzl)
  have HR := Lib.hid hR
  have HZL := Lib.hid hzl
  have HBZ := Lib.hid hbz
  have HZ1 := Lib.hid hz1
  have E1 := Lib.hid e1
  have HX := Lib.hid hx
  have HKD := Lib.hid hkd
  have B0 := Lib.hid b0
  clear h e1 hx hkd b0 hR hzl hbz hz hz1
  go_enter Try.func29, Try.ntmps29
  go_wp2_with fail
  rw [E1.out, HX.out]
  go_wp2_with fail
  refine CP.out.mono ?_
  rintro e w9 ⟨rfl, rfl⟩
  rw [show ((12 : Nat) : Int) = 12 from rfl, HKD.out]
  clear CP
  go_wp2_with fail
  refine CO.out.mono ?_
  rintro e w2 ⟨A2, c2, rfl, happ, -⟩
  have bw2 := happ.below0
  have tw2 := B0.out.tw.below bw2.drew
  have hb2 : Bk w2.drew x 53 (acA kd sa sc Ab zb cb n m er Ak zk ck) := (bw2.block x B0.out.bk.lt).trans B0.out.bk
  have KC : Hid (∀ W' : World, Bk W' x 53 (acA kd sa sc Ab zb cb n m er Ak zk ck) → W'.cell? ⟨x, 1, none⟩ = some (.string sa) ∧ W'.cell? ⟨x, 3, none⟩ = some (.slice Ab zb cb)) :=
    Lib.hid fun W' hb => ⟨by rw [hb.cell 1]; rfl, by rw [hb.cell 3]; rfl⟩
  obtain ⟨g1, g3⟩ := KC.out _ hb2
  have g1' : w2.cell? ⟨x, 1, none⟩ = some (.string sa) := g1
  have g3' : w2.cell? ⟨x, 3, none⟩ = some (.slice Ab zb cb) := g3
  have hown2 := happ.own
  have c1 := seAppend (c := c2) (n := zb) tw2.se (by omega) sa (by omega) (Rd.of_own (World.ownsRow.drew hown2)) HBZ.out (fun a e e2 => by
    have h3 := (hown2.lt a.block (by rw [e]; rfl)).1
    have h4 := (B0.out.tw.se.kLo e2).2
    omega) HZL.out (Nat.le_refl _) hzb
  rw [HR.out] at c1
  have C1 := Lib.hid c1
  have B2 := Lib.hid hb2
  have T2 := Lib.hid tw2
  have HO2 := Lib.hid (show w2.drew.ownsRow w9.heap.size 5 1 (.slice A2 zb c2) zb (bv zs) from World.ownsRow.drew hown2)
  have CD : Hid (∀ w3, FrK w2.drew w3 K1 → Calls Try.prog 62 #[ptV F2, .string sa, .slice Ab zb cb] w3 (SrP w0 w3 K2 F2 (T, r))) := Lib.hid fun w3 f1 => by
    rw [← HR.out]
    have hz3 : Rb w3 w0.heap.size Ab zs := (HZ1.out.below (bw2.drew.mono B0.out.tw.se.bel.size)).below (f1.below T2.out.se.bel.size fun b e => (T2.out.se.kLo e).1)
    refine srAppend (T2.out.cr f1) T2.out.se.sk (by omega) sa (by omega) hz3 (fun h0 a e e2 => ?_) HZL.out (Nat.le_trans T2.out.se.bel.size f1.size) hzb
    obtain ⟨b, o, e3, hb, -⟩ := hz3 (fun e0 => h0 (by
      have := congrArg List.length e0
      simp [bv] at this
      exact this))
    rw [e] at e3
    cases e3
    have h7 := (B0.out.tw.sr.lo e2).1
    simp only at h7
    omega
  clear happ bw2 tw2 hb2 hown2 c1 d0 d3 CO
  go_wp2_with fail
  go_region_held3 (fun W' => W'.cell? ⟨x, 1, none⟩ = some (.string sa) ∧ W'.cell? ⟨x, 3, none⟩ = some (.slice Ab zb cb)) (first | go_keep | exact KC.out _ (f1.bk B2.out B0.out.n1) | exact KC.out _ (f2.bk (f1.bk B2.out B0.out.n1) B0.out.n2)) (first
    | (go_at_call 13; refine C1.out.mono ?_; intro e w3 hp1; obtain ⟨rfl, h1, f1⟩ := hp1.cl; clear hp1)
    | (go_at_call 62; refine (CD.out _ f1).mono ?_; intro e w4 hp2; obtain ⟨rfl, h2, f2⟩ := hp2.cl; clear hp2))
  all_goals
    obtain ⟨t4, o4, k4⟩ := append_both B0.out.tw T2.out HO2.out h1 f1 h2 f2
    have T4 := Lib.hid t4
    have O4 := Lib.hid o4
    have N4 := Lib.hid k4
    clear t4 o4 k4 h1 h2
    go_wp2_with fail
    go_loopw [13] (fun i_ wx => ∃ (j : Nat) (ys : List Value), j ≤ zb ∧ i_ = .int .i64 j ∧ Hid (wx.ownsRow w9.heap.size 5 1 (.slice A2 zb c2) zb ys) ∧ Hid (Tw w0 wx (Kn K1 w2.drew.heap.size w3.heap.size) (Kn K2 w3.heap.size w4.heap.size) F1 F2 T (k + 1))) (fun i_ _ => zb - (intOf i_).toNat)
    case atStart => exact ⟨0, _, Nat.zero_le _, rfl, O4, T4⟩
    case round =>
      obtain ⟨j, ys, hj, rfl, HO, HT⟩ := hrel
      by_cases hlt : j < zb
      · have hlt' : (j : Int) < (zb : Int) := by omega
        obtain ⟨g, cap, hv, hg0, hglt⟩ := HO.out.form (by omega)
        injection hv with hA hnn hcc
        subst hA
        have ycell := HO.out.cellAt j (by omega)
        have yfz := HO.out.frozenAt j
        have hst := (HO.out.stored j (.int .u8 0)).1
        obtain ⟨n1, n2, n3⟩ := N4.out g rfl
        have hts := HT.out.set (j := j) n1 n2 n3 (.int .u8 0)
        have HST := Lib.hid hst
        have HTS := Lib.hid hts
        clear hst hts n1 n2 n3 hnn hcc
        have yl := HO.out.1
        obtain ⟨y, hy⟩ : ∃ y, ys[j]? = some y := ⟨_, List.getElem?_eq_getElem (by omega)⟩
        rw [hy] at ycell
        clear yl hy
        go_wp2_with fail
        exact ⟨⟨j + 1, _, by omega, by go_num, HST, HTS⟩, by simp only [intOf]; omega⟩
      · have hlt' : decide ((j : Int) < (zb : Int)) = false := by simp; omega
        have hlt2 : ¬ (j : Int) < (zb : Int) := by omega
        go_wp2_with fail
        go_ret
        exact ⟨rfl, _, _, _, HT.out⟩
end Go.Proofs.Ytdjmmdhjjdnbdaa

/- Layer 4: the law's act, of kind 2: Sync. Printed by tools/genVsAct.py. -/
namespace Go.Proofs.Ytdjmmdhjjdnbdaa
open Go.RowKit
set_option maxRecDepth 100000 in
set_option maxHeartbeats 4000000 in
theorem vsAct2 {w0 W : World} {K1 K2 : Nat → Prop} {F1 F2 k : Nat} {S : VSt} (h : Tw w0 W K1 K2 F1 F2 S k) (hk : k ≤ 200) {kd n m er : Int} {sa sc : ByteArray} {Ab Ak : Option Addr} {zb cb zk ck : Nat}
    (hsa : sa.size ≤ 300) (hsc : sc.size ≤ 300) (hn : I64 n) (hkd : kd % 12 = 2) :
    Calls Try.prog 29 #[ptV F1, ptV F2, .agg (acA kd sa sc Ab zb cb n m er Ak zk ck)] W (ActP w0 F1 F2 k) := by
  have b0 := ActB.new h (acA kd sa sc Ab zb cb n m er Ak zk ck)
  have SK := Lib.hid h.se.sk
  obtain ⟨T, r, hR⟩ : ∃ T r, S.sync sa = (T, r) := ⟨_, _, rfl⟩
  have HR := Lib.hid hR
  have HN := Lib.hid hn
  obtain ⟨w1, e1⟩ : ∃ w1, W.alloc (.cells (acA kd sa sc Ab zb cb n m er Ak zk ck) 53) = w1 := ⟨_, rfl⟩
  rw [e1] at b0
  obtain ⟨x, hx⟩ : ∃ x, W.heap.size = x := ⟨_, rfl⟩
  rw [hx] at b0
  have d0 : w1.cell? ⟨x, 0, none⟩ = some (.int .i64 kd) := by rw [b0.bk.cell 0]; rfl
  have CP := Lib.hid (kitPick kd 12 w1 (by omega) (by omega))
  have E1 := Lib.hid e1
  have HX := Lib.hid hx
  have HKD := Lib.hid hkd
  have B0 := Lib.hid b0
  clear h e1 hx hkd hn hR b0
  go_enter Try.func29, Try.ntmps29
  go_wp2_with fail
  rw [E1.out, HX.out]
  go_wp2_with fail
  refine CP.out.mono ?_
  rintro e w9 ⟨rfl, rfl⟩
  rw [show ((12 : Nat) : Int) = 12 from rfl, HKD.out]
  clear CP
  go_wp2_with fail
  have B1 := Lib.hid B0.out.drew
  have KC : Hid (∀ W' : World, Bk W' x 53 (acA kd sa sc Ab zb cb n m er Ak zk ck) → W'.cell? ⟨x, 1, none⟩ = some (.string sa) ∧ W'.cell? ⟨x, 2, none⟩ = some (.string sc) ∧ W'.cell? ⟨x, 4, none⟩ = some (.int .i64 n) ∧ W'.cell? ⟨x, 5, none⟩ = some (.int .i64 m) ∧ W'.cell? ⟨x, 6, none⟩ = some (.int .i64 er)) :=
    Lib.hid fun W' hb => ⟨by rw [hb.cell 1]; rfl, by rw [hb.cell 2]; rfl, by rw [hb.cell 4]; rfl, by rw [hb.cell 5]; rfl, by rw [hb.cell 6]; rfl⟩
  obtain ⟨d1, d2, d4, d5, d6⟩ := KC.out _ B0.out.bk
  have C1 := Lib.hid (seSync B1.out.tw.se (by omega) sa (by omega))
  rw [HR.out] at C1
  go_region_held3 (fun W' => W'.cell? ⟨x, 1, none⟩ = some (.string sa) ∧ W'.cell? ⟨x, 2, none⟩ = some (.string sc) ∧ W'.cell? ⟨x, 4, none⟩ = some (.int .i64 n) ∧ W'.cell? ⟨x, 5, none⟩ = some (.int .i64 m) ∧ W'.cell? ⟨x, 6, none⟩ = some (.int .i64 er)) (first | go_keep | exact KC.out _ (f1.bk B1.out.bk B1.out.n1) | exact KC.out _ (f2.bk (f1.bk B1.out.bk B1.out.n1) B1.out.n2)) (first
    | (go_at_call 15; refine C1.out.mono ?_; intro e w2 hp1; obtain ⟨rfl, h1, f1⟩ := hp1.cl; have c2 := (srSync (B1.out.tw.cr f1) SK.out (by omega) sa (by omega)); rw [HR.out] at c2; have C2 := Lib.hid c2; clear c2 hp1)
    | (go_at_call 53; refine C2.out.mono ?_; intro e w3 hp2; obtain ⟨rfl, h2, f2⟩ := hp2.cl))
  all_goals go_wp2_with fail
  all_goals go_ret
  all_goals exact B1.out.two h1 f1 h2 f2
end Go.Proofs.Ytdjmmdhjjdnbdaa

/- Layer 4: the law's act, of kind 3: SyncDir. Printed by tools/genVsAct.py. -/
namespace Go.Proofs.Ytdjmmdhjjdnbdaa
open Go.RowKit
set_option maxRecDepth 100000 in
set_option maxHeartbeats 4000000 in
theorem vsAct3 {w0 W : World} {K1 K2 : Nat → Prop} {F1 F2 k : Nat} {S : VSt} (h : Tw w0 W K1 K2 F1 F2 S k) (hk : k ≤ 200) {kd n m er : Int} {sa sc : ByteArray} {Ab Ak : Option Addr} {zb cb zk ck : Nat}
    (hsa : sa.size ≤ 300) (hsc : sc.size ≤ 300) (hn : I64 n) (hkd : kd % 12 = 3) :
    Calls Try.prog 29 #[ptV F1, ptV F2, .agg (acA kd sa sc Ab zb cb n m er Ak zk ck)] W (ActP w0 F1 F2 k) := by
  have b0 := ActB.new h (acA kd sa sc Ab zb cb n m er Ak zk ck)
  have SK := Lib.hid h.se.sk
  obtain ⟨T, r, hR⟩ : ∃ T r, S.syncDir = (T, r) := ⟨_, _, rfl⟩
  have HR := Lib.hid hR
  have HN := Lib.hid hn
  obtain ⟨w1, e1⟩ : ∃ w1, W.alloc (.cells (acA kd sa sc Ab zb cb n m er Ak zk ck) 53) = w1 := ⟨_, rfl⟩
  rw [e1] at b0
  obtain ⟨x, hx⟩ : ∃ x, W.heap.size = x := ⟨_, rfl⟩
  rw [hx] at b0
  have d0 : w1.cell? ⟨x, 0, none⟩ = some (.int .i64 kd) := by rw [b0.bk.cell 0]; rfl
  have CP := Lib.hid (kitPick kd 12 w1 (by omega) (by omega))
  have E1 := Lib.hid e1
  have HX := Lib.hid hx
  have HKD := Lib.hid hkd
  have B0 := Lib.hid b0
  clear h e1 hx hkd hn hR b0
  go_enter Try.func29, Try.ntmps29
  go_wp2_with fail
  rw [E1.out, HX.out]
  go_wp2_with fail
  refine CP.out.mono ?_
  rintro e w9 ⟨rfl, rfl⟩
  rw [show ((12 : Nat) : Int) = 12 from rfl, HKD.out]
  clear CP
  have B1 := B0
  have C1 := Lib.hid (seSyncDir B1.out.tw.se (by omega))
  rw [HR.out] at C1
  go_wp2_with fail
  refine C1.out.mono ?_
  intro e w2 hp1
  obtain ⟨rfl, h1, f1⟩ := hp1.cl
  have c2 := (srSyncDir (B1.out.tw.cr f1) SK.out (by omega))
  rw [HR.out] at c2
  have C2 := Lib.hid c2
  clear c2 hp1 d0
  go_wp2_with fail
  refine C2.out.mono ?_
  intro e w3 hp2
  obtain ⟨rfl, h2, f2⟩ := hp2.cl
  go_wp2_with fail
  go_ret
  exact B1.out.two h1 f1 h2 f2
end Go.Proofs.Ytdjmmdhjjdnbdaa

/- Layer 4: the law's act, of kind 4: Rename. Printed by tools/genVsAct.py. -/
namespace Go.Proofs.Ytdjmmdhjjdnbdaa
open Go.RowKit
set_option maxRecDepth 100000 in
set_option maxHeartbeats 4000000 in
theorem vsAct4 {w0 W : World} {K1 K2 : Nat → Prop} {F1 F2 k : Nat} {S : VSt} (h : Tw w0 W K1 K2 F1 F2 S k) (hk : k ≤ 200) {kd n m er : Int} {sa sc : ByteArray} {Ab Ak : Option Addr} {zb cb zk ck : Nat}
    (hsa : sa.size ≤ 300) (hsc : sc.size ≤ 300) (hn : I64 n) (hkd : kd % 12 = 4) :
    Calls Try.prog 29 #[ptV F1, ptV F2, .agg (acA kd sa sc Ab zb cb n m er Ak zk ck)] W (ActP w0 F1 F2 k) := by
  have b0 := ActB.new h (acA kd sa sc Ab zb cb n m er Ak zk ck)
  have SK := Lib.hid h.se.sk
  obtain ⟨T, r, hR⟩ : ∃ T r, S.rename sa sc = (T, r) := ⟨_, _, rfl⟩
  have HR := Lib.hid hR
  have HN := Lib.hid hn
  obtain ⟨w1, e1⟩ : ∃ w1, W.alloc (.cells (acA kd sa sc Ab zb cb n m er Ak zk ck) 53) = w1 := ⟨_, rfl⟩
  rw [e1] at b0
  obtain ⟨x, hx⟩ : ∃ x, W.heap.size = x := ⟨_, rfl⟩
  rw [hx] at b0
  have d0 : w1.cell? ⟨x, 0, none⟩ = some (.int .i64 kd) := by rw [b0.bk.cell 0]; rfl
  have CP := Lib.hid (kitPick kd 12 w1 (by omega) (by omega))
  have E1 := Lib.hid e1
  have HX := Lib.hid hx
  have HKD := Lib.hid hkd
  have B0 := Lib.hid b0
  clear h e1 hx hkd hn hR b0
  go_enter Try.func29, Try.ntmps29
  go_wp2_with fail
  rw [E1.out, HX.out]
  go_wp2_with fail
  refine CP.out.mono ?_
  rintro e w9 ⟨rfl, rfl⟩
  rw [show ((12 : Nat) : Int) = 12 from rfl, HKD.out]
  clear CP
  go_wp2_with fail
  have B1 := Lib.hid B0.out.drew
  have KC : Hid (∀ W' : World, Bk W' x 53 (acA kd sa sc Ab zb cb n m er Ak zk ck) → W'.cell? ⟨x, 1, none⟩ = some (.string sa) ∧ W'.cell? ⟨x, 2, none⟩ = some (.string sc) ∧ W'.cell? ⟨x, 4, none⟩ = some (.int .i64 n) ∧ W'.cell? ⟨x, 5, none⟩ = some (.int .i64 m) ∧ W'.cell? ⟨x, 6, none⟩ = some (.int .i64 er)) :=
    Lib.hid fun W' hb => ⟨by rw [hb.cell 1]; rfl, by rw [hb.cell 2]; rfl, by rw [hb.cell 4]; rfl, by rw [hb.cell 5]; rfl, by rw [hb.cell 6]; rfl⟩
  obtain ⟨d1, d2, d4, d5, d6⟩ := KC.out _ B0.out.bk
  have C1 := Lib.hid (seRename B1.out.tw.se (by omega) sa sc (by omega) (by omega))
  rw [HR.out] at C1
  go_region_held3 (fun W' => W'.cell? ⟨x, 1, none⟩ = some (.string sa) ∧ W'.cell? ⟨x, 2, none⟩ = some (.string sc) ∧ W'.cell? ⟨x, 4, none⟩ = some (.int .i64 n) ∧ W'.cell? ⟨x, 5, none⟩ = some (.int .i64 m) ∧ W'.cell? ⟨x, 6, none⟩ = some (.int .i64 er)) (first | go_keep | exact KC.out _ (f1.bk B1.out.bk B1.out.n1) | exact KC.out _ (f2.bk (f1.bk B1.out.bk B1.out.n1) B1.out.n2)) (first
    | (go_at_call 22; refine C1.out.mono ?_; intro e w2 hp1; obtain ⟨rfl, h1, f1⟩ := hp1.cl; have c2 := (srRename (B1.out.tw.cr f1) SK.out (by omega) sa sc (by omega) (by omega)); rw [HR.out] at c2; have C2 := Lib.hid c2; clear c2 hp1)
    | (go_at_call 55; refine C2.out.mono ?_; intro e w3 hp2; obtain ⟨rfl, h2, f2⟩ := hp2.cl))
  all_goals go_wp2_with fail
  all_goals go_ret
  all_goals exact B1.out.two h1 f1 h2 f2
end Go.Proofs.Ytdjmmdhjjdnbdaa

/- Layer 4: the law's act, of kind 5: Remove. Printed by tools/genVsAct.py. -/
namespace Go.Proofs.Ytdjmmdhjjdnbdaa
open Go.RowKit
set_option maxRecDepth 100000 in
set_option maxHeartbeats 4000000 in
theorem vsAct5 {w0 W : World} {K1 K2 : Nat → Prop} {F1 F2 k : Nat} {S : VSt} (h : Tw w0 W K1 K2 F1 F2 S k) (hk : k ≤ 200) {kd n m er : Int} {sa sc : ByteArray} {Ab Ak : Option Addr} {zb cb zk ck : Nat}
    (hsa : sa.size ≤ 300) (hsc : sc.size ≤ 300) (hn : I64 n) (hkd : kd % 12 = 5) :
    Calls Try.prog 29 #[ptV F1, ptV F2, .agg (acA kd sa sc Ab zb cb n m er Ak zk ck)] W (ActP w0 F1 F2 k) := by
  have b0 := ActB.new h (acA kd sa sc Ab zb cb n m er Ak zk ck)
  have SK := Lib.hid h.se.sk
  obtain ⟨T, r, hR⟩ : ∃ T r, S.remove sa = (T, r) := ⟨_, _, rfl⟩
  have HR := Lib.hid hR
  have HN := Lib.hid hn
  obtain ⟨w1, e1⟩ : ∃ w1, W.alloc (.cells (acA kd sa sc Ab zb cb n m er Ak zk ck) 53) = w1 := ⟨_, rfl⟩
  rw [e1] at b0
  obtain ⟨x, hx⟩ : ∃ x, W.heap.size = x := ⟨_, rfl⟩
  rw [hx] at b0
  have d0 : w1.cell? ⟨x, 0, none⟩ = some (.int .i64 kd) := by rw [b0.bk.cell 0]; rfl
  have CP := Lib.hid (kitPick kd 12 w1 (by omega) (by omega))
  have E1 := Lib.hid e1
  have HX := Lib.hid hx
  have HKD := Lib.hid hkd
  have B0 := Lib.hid b0
  clear h e1 hx hkd hn hR b0
  go_enter Try.func29, Try.ntmps29
  go_wp2_with fail
  rw [E1.out, HX.out]
  go_wp2_with fail
  refine CP.out.mono ?_
  rintro e w9 ⟨rfl, rfl⟩
  rw [show ((12 : Nat) : Int) = 12 from rfl, HKD.out]
  clear CP
  go_wp2_with fail
  have B1 := Lib.hid B0.out.drew
  have KC : Hid (∀ W' : World, Bk W' x 53 (acA kd sa sc Ab zb cb n m er Ak zk ck) → W'.cell? ⟨x, 1, none⟩ = some (.string sa) ∧ W'.cell? ⟨x, 2, none⟩ = some (.string sc) ∧ W'.cell? ⟨x, 4, none⟩ = some (.int .i64 n) ∧ W'.cell? ⟨x, 5, none⟩ = some (.int .i64 m) ∧ W'.cell? ⟨x, 6, none⟩ = some (.int .i64 er)) :=
    Lib.hid fun W' hb => ⟨by rw [hb.cell 1]; rfl, by rw [hb.cell 2]; rfl, by rw [hb.cell 4]; rfl, by rw [hb.cell 5]; rfl, by rw [hb.cell 6]; rfl⟩
  obtain ⟨d1, d2, d4, d5, d6⟩ := KC.out _ B0.out.bk
  have C1 := Lib.hid (seRemove B1.out.tw.se (by omega) sa (by omega))
  rw [HR.out] at C1
  go_region_held3 (fun W' => W'.cell? ⟨x, 1, none⟩ = some (.string sa) ∧ W'.cell? ⟨x, 2, none⟩ = some (.string sc) ∧ W'.cell? ⟨x, 4, none⟩ = some (.int .i64 n) ∧ W'.cell? ⟨x, 5, none⟩ = some (.int .i64 m) ∧ W'.cell? ⟨x, 6, none⟩ = some (.int .i64 er)) (first | go_keep | exact KC.out _ (f1.bk B1.out.bk B1.out.n1) | exact KC.out _ (f2.bk (f1.bk B1.out.bk B1.out.n1) B1.out.n2)) (first
    | (go_at_call 32; refine C1.out.mono ?_; intro e w2 hp1; obtain ⟨rfl, h1, f1⟩ := hp1.cl; have c2 := (srRemove (B1.out.tw.cr f1) SK.out (by omega) sa (by omega)); rw [HR.out] at c2; have C2 := Lib.hid c2; clear c2 hp1)
    | (go_at_call 56; refine C2.out.mono ?_; intro e w3 hp2; obtain ⟨rfl, h2, f2⟩ := hp2.cl))
  all_goals go_wp2_with fail
  all_goals go_ret
  all_goals exact B1.out.two h1 f1 h2 f2
end Go.Proofs.Ytdjmmdhjjdnbdaa
