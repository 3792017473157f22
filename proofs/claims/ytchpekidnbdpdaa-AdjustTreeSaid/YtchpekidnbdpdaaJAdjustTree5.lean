/- Texts of the proof of AdjustTreeSaid, joined: SpP SpQ Str SpA SpB SpD SpF SpI. -/
import Derived.Laws.ResultCell
import Derived.Test.YtchpekidnbdpdaaJAdjustTree4
import Derived.Test.YtchpekidnbdpdaaJAdjustTree1
import Derived.Deep.RegionWith
import Derived.Laws.IdiomStrings
import Derived.Lib.SmallJoins
import Derived.Test.YtchpekidnbdpdaaJAdjustTree2
import Derived.Test.YtchpekidnbdpdaaJAdjustTree3
import Derived.Deep.RegionHeld3
import Derived.Deep.QuietTactic
import Derived.Deep.Cut
/- Spans: Parse: what it computes, its memory. -/
namespace Go.Proofs.Ytchpekidnbdpdaa
open Go.RowKit

/-- What Parse has read ahead of the tags: the span without them, their number, the reader. -/
def prHead (zs : List Int) : Sp × Nat × RS :=
  let a := rEight zs ⟨0, 0, false⟩
  let b := rEight zs a.2
  let c := rEight zs b.2
  let d := rEight zs c.2
  let e := rText zs d.2
  let f := rText zs e.2
  let k := rOne 255 zs f.2
  let st := rShort 4611686018427387903 zs k.2
  let ln := rShort 4611686018427387903 zs st.2
  let fl := rOne 1 zs ln.2
  let n := rShort 16 zs fl.2
  (⟨a.1, b.1, c.1, d.1, e.1, f.1, k.1, st.1, ln.1, fl.1 == 1, []⟩, n.1, n.2)
def prTags (zs : List Int) : Nat → List Tg → RS → List Tg × RS
  | 0, acc, s => (acc, s)
  | n + 1, acc, s => prTags zs n (acc ++ [⟨(rText zs s).1, (rText zs (rText zs s).2).1⟩]) (rText zs (rText zs s).2).2
/-- The span that was read, and the reader behind it. -/
def prAll (zs : List Int) : Sp × RS := ({ (prHead zs).1 with tags := (prTags zs (prHead zs).2.1 [] (prHead zs).2.2).1 }, (prTags zs (prHead zs).2.1 [] (prHead zs).2.2).2)
def prErrOf (zs : List Int) (s : Sp) (r : RS) : Nat :=
  if r.e ≠ 0 then r.e else if r.bad = true then 4 else if r.p < zs.length then 4 else spChk s
/-- What Parse tells. -/
def prErr (zs : List Int) : Nat := prErrOf zs (prAll zs).1 (prAll zs).2
def prSp (zs : List Int) : Sp := if prErr zs = 0 then (prAll zs).1 else zeroSp

theorem results_cell_row_tmp {P : Program} {fn : Func} {p u : Tmp} {ty : TypeId} (h : fn.results = #[.cell p ty, .tmp u]) (tmps : Array Value) (w : World) (g : Nat) (t : TypeId) (cs : Array Value) (d : TypeDesc)
    (hp : tmps.getD p undef = .pointer (some ⟨g, 0, none⟩)) (hg : Bk w g t cs)
    (hu : P.underlying ty = some d) (hd : (match d with | .struct _ | .array _ _ => true | _ => false) = true) (hi : (P.info? ty).map (·.size) = some cs.size) :
    (results fn tmps).run P w = .ok (.tuple #[.agg cs, tmps.getD u undef]) w := by
  rw [results_cell_tmp h, hp]
  simp [asAddr, Result.andThen, run_loadVar_row w g t ty cs (0, 0) d hg hu hd hi]
section
variable {w0 W W' : World} {h g sb rb lo : Nat} {A : Option Addr} {c : Nat} {zs : List Int} {st st' : RS} {cells : Array Value} {At : Option Addr} {nt ct : Nat} {acc : List Tg}
end

/-! The reader's methods, by what they give. -/
section
variable {A : Option Addr} {c h g : Nat} {zs : List Int} {s s' : RS}
end
theorem rShort_le {most : Nat} {zs : List Int} {s : RS} : (rShort most zs s).1 ≤ most := by
  unfold rShort
  split
  · simp
  · split
    · simp
    · simp only; omega
theorem rOne_rng {most : Int} {zs : List Int} (hz : Byt zs) (s : RS) : 0 ≤ (rOne most zs s).1 ∧ (rOne most zs s).1 ≤ 255 := by
  unfold rOne
  split
  · simp
  · have hb := rdFix_byt hz s.p s.e 1
    split
    · rename_i x hx
      rw [hx] at hb
      exact hb x (by simp)
    · simp
end Go.Proofs.Ytchpekidnbdpdaa


/- Spans: Parse. -/
namespace Go.Proofs.Ytchpekidnbdpdaa
open Go.RowKit
attribute [local go_sem ↓] appK_shut

def ParsePost (w : World) (zs : List Int) (e : Ending) (w' : World) : Prop :=
  ∃ At ct, e = .returned (.tuple #[spV (prSp zs) At (prSp zs).tags.length ct, .int .i64 (prErr zs)]) ∧ RbT w' w'.heap.size At (prSp zs).tags ∧ Below w.heap.size w w' ∧ (prSp zs).tags.length ≤ ct ∧ (∀ a, At = some a → w.heap.size ≤ a.block)
theorem parsePost_bad {w W : World} {rb k : Nat} {zs : List Int} {e : Ending} (he : prErr zs = k) (hk : k ≠ 0) (hb : Below w.heap.size w W) (hrb : w.heap.size ≤ rb) (hr : e = .returned (.tuple #[.agg zspC, .int .i64 k])) :
    ParsePost w zs e (W.setRow rb zspC) := by
  have hs : prSp zs = zeroSp := by rw [prSp, if_neg (by omega)]
  have h1 := only_row (w := W) rb zspC
  rw [ParsePost, hs, he]
  exact ⟨none, 0, hr, Rd.nil, hb.trans ⟨h1.os, h1.tape, h1.output, h1.size, fun k hk => h1.block k (by have := hb.size; omega) (fun e => by injection e; omega)⟩, Nat.le_refl _, fun a ha => by cases ha⟩
end Go.Proofs.Ytchpekidnbdpdaa


/- Strings into bytes: '[]byte(s)' of a variable and of a constant. -/
namespace Go.Proofs.Ytchpekidnbdpdaa
open Go.RowKit

theorem Rd.of_alloc {w : World} {cs : Array Value} {t : TypeId} {fr : Nat × Nat} {xs : List Value} (h : ∀ (j : Nat) (u : Value), xs[j]? = some u → cs[j]? = some u) : Rd (w.alloc (.cells cs t fr)) (w.heap.size + 1) (some ⟨w.heap.size, 0, none⟩) xs := fun _ =>
  ⟨w.heap.size, 0, rfl, by omega, fun j u hu => by rw [Nat.zero_add, World.cell?_alloc_mark]; exact h j u hu⟩

theorem Rd.litm {w : World} {cs : Array Value} {t : TypeId} {fr : Nat × Nat} {g : Nat} (hg : w.heap.size = g) : Rd (w.alloc (.cells cs t fr)) (g + 1) (some ⟨g, 0, none⟩) cs.toList := fun _ => by
  subst hg
  exact ⟨w.heap.size, 0, rfl, by omega, fun j u hu => by
    rw [Nat.zero_add, World.cell?_alloc_mark]
    simpa using hu⟩
end Go.Proofs.Ytchpekidnbdpdaa


/- Spans: pieces; how a span is put into bytes. -/
namespace Go.Proofs.Ytchpekidnbdpdaa
open Go.RowKit

def pie (s : ByteArray) : List Int := numEnc s.size ++ nums s
theorem pie_len (s : ByteArray) (h : s.size ≤ 1048576) : (pie s).length ≤ s.size + 10 := by
  have := numEnc_u64 (x := s.size) (by omega)
  rw [pie, List.length_append, nums_len]
  omega
theorem pies_len : ∀ (ls : List ByteArray), (∀ s ∈ ls, s.size ≤ 1048576) → (ls.flatMap pie).length ≤ (ls.length) * 1048586
  | [], _ => by simp
  | s :: ls, h => by
    have h1 := pie_len s (h s (by simp))
    have h2 := h s (by simp)
    have h3 := pies_len ls (fun t ht => h t (by simp [ht]))
    rw [List.flatMap_cons, List.length_append, List.length_cons]
    omega
end Go.Proofs.Ytchpekidnbdpdaa


/- Spans: Append. -/
namespace Go.Proofs.Ytchpekidnbdpdaa
open Go.RowKit

def tgEnc (t : Tg) : List Int := pie t.key ++ pie t.val
def spHead (s : Sp) : List Int := [s.hi, s.lo, s.id, s.parent].flatMap ordEnc ++ (pie s.service ++ pie s.name) ++ [s.kind % 256] ++ (numEnc s.start.toNat ++ numEnc s.length.toNat) ++ [if s.fails = true then 1 else 0] ++ numEnc s.tags.length
def spEnc (s : Sp) : List Int := spHead s ++ s.tags.flatMap tgEnc

theorem spTruth (w : World) (b : Bool) : Calls Try.prog 62 #[.bool b] w fun e w' => e = .returned (.int .i64 (if b = true then 1 else 0)) ∧ w' = w := by
  cases b
  · go_enter Try.func62, Try.ntmps62
    go_wp2
    go_ret
    exact ⟨rfl, rfl⟩
  · go_enter Try.func62, Try.ntmps62
    go_wp2
    go_ret
    exact ⟨rfl, rfl⟩

/-- Append hands back bytes of its own. -/
def AppPost (w : World) (zs : List Int) (s : Sp) (e : Ending) (w' : World) : Prop :=
  Below w.heap.size w w' ∧ ((spChk s ≠ 0 ∧ e = .returned (.tuple #[.slice none 0 0, .int .i64 (spChk s)])) ∨
    (spChk s = 0 ∧ ∃ A' c', e = .returned (.tuple #[.slice A' (zs ++ spEnc s).length c', .int .i64 0]) ∧ Rb w' w'.heap.size A' (zs ++ spEnc s) ∧ (zs ++ spEnc s).length ≤ c' ∧ ∀ a, A' = some a → w.heap.size ≤ a.block))
end Go.Proofs.Ytchpekidnbdpdaa


/- Spans: the walk of Append. -/
namespace Go.Proofs.Ytchpekidnbdpdaa
open Go.RowKit

theorem ordsLen (l : List Nat) : (l.flatMap ordEnc).length = l.length * 8 := by
  induction l with
  | nil => rfl
  | cons x l ih => rw [List.flatMap_cons, List.length_append, ih, ordEnc_len, List.length_cons]; omega
theorem own_downK {w : World} {base base' size n : Nat} {e : TypeId} {v : Value} {xs : List Value} (h : w.ownsRow base e size v n xs) (hb : base' ≤ base) : w.ownsRow base' e size v n xs :=
  ⟨h.1, h.2.imp id fun ⟨g, cap, cur, hv, hg, r⟩ => ⟨g, cap, cur, hv, Nat.le_trans hb hg, r⟩⟩
/-- Append's answer: a row of its own. -/
def AppPost2 (w : World) (zs : List Int) (s : Sp) (e : Ending) (w' : World) : Prop :=
  Below w.heap.size w w' ∧ ((spChk s ≠ 0 ∧ e = .returned (.tuple #[.slice none 0 0, .int .i64 (spChk s)])) ∨
    (spChk s = 0 ∧ ∃ A' c', e = .returned (.tuple #[.slice A' (zs ++ spEnc s).length c', .int .i64 0]) ∧ w'.ownsRow w.heap.size 5 1 (.slice A' (zs ++ spEnc s).length c') (zs ++ spEnc s).length (bv (zs ++ spEnc s)) ∧ (zs ++ spEnc s).length ≤ c'))
end Go.Proofs.Ytchpekidnbdpdaa


/- Spans: bootprintkit.SameSpan of two equal spans. -/
namespace Go.Proofs.Ytchpekidnbdpdaa
open Go.RowKit

theorem strEq_of {s t : ByteArray} : (s.toList == t.toList) = decide (s = t) := by
  rw [ByteArray.toList_eq, ByteArray.toList_eq, Bool.eq_iff_iff, beq_iff_eq, decide_eq_true_iff]
  exact ⟨fun h => ByteArray.ext (Array.ext' h), fun h => by rw [h]⟩
set_option maxRecDepth 100000 in
set_option maxHeartbeats 8000000 in
/-- Two spans whose heads are the same: their tags are held against one another. -/
theorem kitSameTags {A1 A2 : Option Addr} {c1 c2 n B : Nat} (s : Sp) (ta tb : List Tg) (w : World) (hf : RbT w B A1 ta) (hg : RbT w B A2 tb) (hn : ta.length = n) (hm : tb.length = n) (hB : B ≤ w.heap.size) (hnl : n ≤ 9223372036854775807) :
    Calls Try.prog 32 #[spV s A1 n c1, spV s A2 n c2] w fun e w' => e = .returned (.bool (decide (ta = tb))) ∧ Below w.heap.size w w' := by
  obtain ⟨q, hq⟩ : ∃ q, decide (ta = tb) = q := ⟨_, rfl⟩
  rw [hq]
  have HQT := Lib.hid hq
  have HN := Lib.hid hn
  have HM := Lib.hid hm
  clear hq hn hm
  have hb0 : Below w.heap.size w ((w.alloc (.cells (spC s A1 n c1) 32)).alloc (.cells (spC s A2 n c2) 32)) := ((Below.refl _ w).alloc (Nat.le_refl _) _).alloc (by simp) _
  have hff := Rd.below hf (hb0.mono hB)
  have hgg := Rd.below hg (hb0.mono hB)
  have bk1 := (Bk.new w 32 (spC s A1 n c1)).alloc (.cells (spC s A2 n c2) 32)
  have bk2 : Bk ((w.alloc (.cells (spC s A1 n c1) 32)).alloc (.cells (spC s A2 n c2) 32)) (w.heap.size + 1) 32 (spC s A2 n c2) := by
    have h := Bk.new (w.alloc (.cells (spC s A1 n c1) 32)) 32 (spC s A2 n c2)
    simpa using h
  obtain ⟨w1, hw1⟩ : ∃ w1, ((w.alloc (.cells (spC s A1 n c1) 32)).alloc (.cells (spC s A2 n c2) 32)) = w1 := ⟨_, rfl⟩
  rw [hw1] at hb0 hff hgg bk1 bk2
  obtain ⟨g1, hg1⟩ : ∃ g1, w.heap.size = g1 := ⟨_, rfl⟩
  obtain ⟨g2, hg2⟩ : ∃ g2, g1 + 1 = g2 := ⟨_, rfl⟩
  rw [hg1] at bk1 bk2
  rw [hg2] at bk2
  have HW := Lib.hid hw1
  have HG1 := Lib.hid hg1
  have HG2 := Lib.hid hg2
  have kg10 : w1.cell? ⟨g1, 0, none⟩ = some (.int .u64 s.hi) := bk1.cell 0
  have kg11 : w1.cell? ⟨g1, 1, none⟩ = some (.int .u64 s.lo) := bk1.cell 1
  have kg12 : w1.cell? ⟨g1, 2, none⟩ = some (.int .u64 s.id) := bk1.cell 2
  have kg13 : w1.cell? ⟨g1, 3, none⟩ = some (.int .u64 s.parent) := bk1.cell 3
  have kg14 : w1.cell? ⟨g1, 4, none⟩ = some (.string s.service) := bk1.cell 4
  have kg15 : w1.cell? ⟨g1, 5, none⟩ = some (.string s.name) := bk1.cell 5
  have kg16 : w1.cell? ⟨g1, 6, none⟩ = some (.int .i64 s.kind) := bk1.cell 6
  have kg17 : w1.cell? ⟨g1, 7, none⟩ = some (.int .i64 s.start) := bk1.cell 7
  have kg18 : w1.cell? ⟨g1, 8, none⟩ = some (.int .i64 s.length) := bk1.cell 8
  have kg19 : w1.cell? ⟨g1, 9, none⟩ = some (.bool s.fails) := bk1.cell 9
  have kg110 : w1.cell? ⟨g1, 10, none⟩ = some (.slice A1 n c1) := bk1.cell 10
  have kg20 : w1.cell? ⟨g2, 0, none⟩ = some (.int .u64 s.hi) := bk2.cell 0
  have kg21 : w1.cell? ⟨g2, 1, none⟩ = some (.int .u64 s.lo) := bk2.cell 1
  have kg22 : w1.cell? ⟨g2, 2, none⟩ = some (.int .u64 s.id) := bk2.cell 2
  have kg23 : w1.cell? ⟨g2, 3, none⟩ = some (.int .u64 s.parent) := bk2.cell 3
  have kg24 : w1.cell? ⟨g2, 4, none⟩ = some (.string s.service) := bk2.cell 4
  have kg25 : w1.cell? ⟨g2, 5, none⟩ = some (.string s.name) := bk2.cell 5
  have kg26 : w1.cell? ⟨g2, 6, none⟩ = some (.int .i64 s.kind) := bk2.cell 6
  have kg27 : w1.cell? ⟨g2, 7, none⟩ = some (.int .i64 s.start) := bk2.cell 7
  have kg28 : w1.cell? ⟨g2, 8, none⟩ = some (.int .i64 s.length) := bk2.cell 8
  have kg29 : w1.cell? ⟨g2, 9, none⟩ = some (.bool s.fails) := bk2.cell 9
  have kg210 : w1.cell? ⟨g2, 10, none⟩ = some (.slice A2 n c2) := bk2.cell 10
  have fbool : (s.fails != s.fails) = false := by simp
  clear hw1 bk1 bk2 hg1 hg2 hf hg
  go_enter Try.func32, Try.ntmps32
  go_upto_region 1 with fail
  rw [HW.out, HG1.out]
  simp only [HG2.out]
  go_wp2_with fail
  clear kg10 kg11 kg12 kg13 kg14 kg15 kg16 kg17 kg18 kg19 kg20 kg21 kg22 kg23 kg24 kg25 kg26 kg27 kg28 kg29
  have hg1l : g1 < w1.heap.size := by rw [← HG1.out, ← HW.out]; simp; omega
  have hg2l : g2 < w1.heap.size := by rw [← HG2.out, ← HG1.out, ← HW.out]; simp
  go_loopw [5] (fun iv_ wr => ∃ j : Nat, j ≤ n ∧ iv_ = .int .i64 j ∧ ta.take j = tb.take j ∧ Below w1.heap.size w1 wr) (fun i _ => n - (intOf i).toNat)
  case atStart => exact ⟨0, by omega, rfl, rfl, Below.refl _ _⟩
  case round =>
    obtain ⟨j, hj, rfl, hall, hb⟩ := hrel
    have HA := Lib.hid hall
    clear hall
    have k1' : wr.cell? ⟨g1, 10, none⟩ = some (.slice A1 n c1) := (hb.cell (p := ⟨g1, 10, none⟩) hg1l).trans kg110
    have k2' : wr.cell? ⟨g2, 10, none⟩ = some (.slice A2 n c2) := (hb.cell (p := ⟨g2, 10, none⟩) hg2l).trans kg210
    by_cases hlt : j < n
    · have hlt' : (j : Int) < (n : Int) := by omega
      have hBs : B ≤ w1.heap.size := by rw [← HW.out]; simp; omega
      obtain ⟨x, hx⟩ : ∃ x, ta[j]? = some x := ⟨_, List.getElem?_eq_getElem (by rw [HN.out]; exact hlt)⟩
      obtain ⟨y, hy⟩ : ∃ y, tb[j]? = some y := ⟨_, List.getElem?_eq_getElem (by rw [HM.out]; exact hlt)⟩
      obtain ⟨b1, o1, rfl, hbb1, c11, c12⟩ := RbT.get (Rd.below hff (hb.mono hBs)) hx
      obtain ⟨b2, o2, rfl, hbb2, c21, c22⟩ := RbT.get (Rd.below hgg (hb.mono hBs)) hy
      have HX := Lib.hid hx
      have HY := Lib.hid hy
      clear hx hy hbb1 hbb2 kg110 kg210 hg1l hg2l
      by_cases hxy : x = y
      · subst hxy
        go_wp2_with fail
        go_quiet (fail)
        go_wp2
        go_roundw
        case rel => exact ⟨j + 1, by omega, by go_num, by rw [take_snoc HX.out, take_snoc HY.out, HA.out], below_drewN hb _⟩
        case measure => simp [intOf]; omega
      · have hqf : q = false := by
          rw [← HQT.out, decide_eq_false_iff_not]
          intro h
          have h1 := HX.out
          rw [h, HY.out] at h1
          exact hxy (Option.some.inj h1).symm
        have HQF := Lib.hid hqf
        clear hqf
        by_cases hk : x.key = y.key
        · have hv : x.val ≠ y.val := fun h => hxy (by cases x; cases y; simp_all)
          have d1 : (x.key.toList == y.key.toList) = true := by rw [strEq_of]; simpa using hk
          have d2 : (x.val.toList == y.val.toList) = false := by rw [strEq_of]; simpa using hv
          clear hk hv
          go_wp2_with fail
          go_quiet (fail)
          go_wp2
          go_ret
          exact ⟨by rw [HQF.out]; rfl, hb0.trans ((below_drewN hb _).mono (by rw [← HW.out]; simp; omega))⟩
        · have d1 : (x.key.toList == y.key.toList) = false := by rw [strEq_of]; simpa using hk
          clear hk
          go_wp2_with fail
          go_quiet (fail)
          go_wp2
          go_ret
          exact ⟨by rw [HQF.out]; rfl, hb0.trans ((below_drewN hb _).mono (by rw [← HW.out]; simp; omega))⟩
    · have hlt' : decide ((j : Int) < (n : Int)) = false := by simp; omega
      go_wp2
      go_ret
      have : q = true := by
        rw [← HQT.out, decide_eq_true_iff]
        have h1 := HA.out
        rwa [List.take_of_length_le (by rw [HN.out]; omega), List.take_of_length_le (by rw [HM.out]; omega)] at h1
      exact ⟨by rw [this]; rfl, hb0.trans (hb.mono (by rw [← HW.out]; simp; omega))⟩
end Go.Proofs.Ytchpekidnbdpdaa


/- Spans: IDText, TraceText. -/
namespace Go.Proofs.Ytchpekidnbdpdaa
open Go.RowKit

def hexD (z : Nat) : Int := if z < 10 then 48 + z else 87 + z
/-- The digits as they stand when j of them have been laid. -/
def idC (x j : Nat) : List Int := (List.range 16).map fun p => if 16 - j ≤ p then hexD (x / 16 ^ (15 - p) % 16) else 0
def idL (x : Nat) : List Int := (List.range 16).map fun p => hexD (x / 16 ^ (15 - p) % 16)
theorem idC_len (x j : Nat) : (idC x j).length = 16 := by simp [idC]
theorem idC_all (x : Nat) : idC x 16 = idL x := by simp [idC, idL]
theorem idC_zero (x : Nat) : idC x 0 = List.replicate 16 0 := by
  apply List.ext_getElem?
  intro i
  by_cases h : i < 16
  · rw [List.getElem?_replicate, if_pos h]
    simp only [idC, List.getElem?_map, List.getElem?_range h, Option.map_some]
    rw [if_neg (by omega)]
  · rw [List.getElem?_eq_none (by rw [idC_len]; omega), List.getElem?_eq_none (by simp; omega)]
theorem idC_step (x j : Nat) (hj : j < 16) : (idC x j).set (15 - j) (hexD (x / 16 ^ j % 16)) = idC x (j + 1) := by
  apply List.ext_getElem?
  intro i
  by_cases h : i < 16
  · rw [List.getElem?_set]
    by_cases hi : 15 - j = i
    · rw [if_pos hi, if_pos (by rw [idC_len]; omega)]
      simp only [idC, List.getElem?_map, List.getElem?_range h, Option.map_some]
      rw [if_pos (by omega), show 15 - i = j from by omega]
    · rw [if_neg hi]
      simp only [idC, List.getElem?_map, List.getElem?_range h, Option.map_some]
      by_cases h2 : 16 - j ≤ i
      · rw [if_pos h2, if_pos (by omega)]
      · rw [if_neg h2, if_neg (by omega)]
  · rw [List.getElem?_eq_none (by rw [List.length_set, idC_len]; omega), List.getElem?_eq_none (by rw [idC_len]; omega)]
theorem hexD_rng (z : Nat) (h : z < 16) : 0 ≤ hexD z ∧ hexD z ≤ 255 := by unfold hexD; split <;> omega
def digits16 : ByteArray := ⟨#[48, 49, 50, 51, 52, 53, 54, 55, 56, 57, 97, 98, 99, 100, 101, 102]⟩
theorem hexD_get : ∀ (z : Nat) (h : z < 16), ((digits16[z]'h).toNat : Int) = hexD z := by decide +kernel
theorem and15 (v : Nat) (hv : v < 18446744073709551616) : bits .and .u64 (v : Int) 15 = ((v % 16 : Nat) : Int) := by
  have h := u64_and_nat v 15 hv (by omega)
  rw [show ((15 : Nat) : Int) = (15 : Int) from rfl] at h
  rw [h]
  have : v &&& 15 = v % 16 := Nat.and_two_pow_sub_one_eq_mod v 4
  rw [this]

theorem bv_zeros (n : Nat) : (madeCells #[Value.int .u8 0] n).toList = bv (List.replicate n 0) := by
  rw [toList_madeCells_one, bv, List.map_replicate]
theorem bv_set (l : List Int) (k : Nat) (z : Int) : (bv l).toArray.setIfInBounds k (.int .u8 z) = (bv (l.set k z)).toArray := by
  rw [List.setIfInBounds_toArray, bv, bv, List.map_set]
theorem shr_nib {x : Nat} {e : Nat} (k : Nat) (h : e = 4 * k) : (x : Int) / 2 ^ e = ((x / 16 ^ k : Nat) : Int) := by
  subst h
  have e : (2 : Nat) ^ (4 * k) = 16 ^ k := by rw [Nat.pow_mul]
  rw [← e]
  simp

theorem idL_byt (x : Nat) : Byt (idL x) := fun z hz => by
  obtain ⟨p, _, rfl⟩ := List.mem_map.1 hz
  exact hexD_rng _ (by omega)
def trcL (hi lo : Nat) : ByteArray := strOfNums (idL hi) ++ strOfNums (idL lo)
end Go.Proofs.Ytchpekidnbdpdaa

