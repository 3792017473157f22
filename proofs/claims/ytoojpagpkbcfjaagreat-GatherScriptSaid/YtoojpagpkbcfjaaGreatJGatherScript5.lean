/- Texts of the proof of GatherScriptSaid, joined: SpL SpP SpQ Str SpA SpB SpD SpF. -/
import Derived.Test.YtoojpagpkbcfjaaGreatJGatherScript4
import Derived.Laws.ResultCell
import Derived.Test.YtoojpagpkbcfjaaGreatJGatherScript1
import Derived.Deep.RegionWith
import Derived.Laws.IdiomStrings
import Derived.Lib.SmallJoins
import Derived.Test.YtoojpagpkbcfjaaGreatJGatherScript2
import Derived.Test.YtoojpagpkbcfjaaGreatJGatherScript3
import Derived.Deep.RegionHeld3
import Derived.Deep.QuietTactic
import Derived.Deep.Cut
/- Spans: Check of a span whose head is not right; Check of any span. -/
namespace Go.Proofs.YtoojpagpkbcfjaaGreat
open Go.RowKit

set_option maxRecDepth 100000 in
set_option maxHeartbeats 8000000 in
/-- Check of a span that is not too long and whose head is not right. -/
theorem spCheck0 {A : Option Addr} {c n B : Nat} (s : Sp) (w : World) (hf : RbT w B A s.tags) (hn : s.tags.length = n) (hB : B ≤ w.heap.size) (hnl : n ≤ 9223372036854775807) (hlong : longB s = false) (hhead : headB s = false) :
    Calls Tryz.prog 40 #[spV s A n c] w fun e w' => e = .returned (.int .i64 2) ∧ Below w.heap.size w w' := by
  have hb0 : Below w.heap.size w (w.alloc (.cells (spC s A n c) 40)) := (Below.refl _ w).alloc (Nat.le_refl _) _
  have hf1 := Rd.alloc hf hB (.cells (spC s A n c) 40)
  have bk := Bk.new w 40 (spC s A n c)
  have hs1 : (w.alloc (.cells (spC s A n c) 40)).heap.size = w.heap.size + 1 := by simp
  obtain ⟨w1, hw1⟩ : ∃ w1, w.alloc (.cells (spC s A n c) 40) = w1 := ⟨_, rfl⟩
  rw [hw1] at hb0 hf1 bk hs1
  have HW := Lib.hid hw1
  have hc := spLong (c := c) s w1 hf1 hn (by omega) hnl
  rw [hlong] at hc
  have HC := Lib.hid hc
  have HN := Lib.hid hn
  clear hw1 hc hn hlong
  have hcase : (s.hi = 0 ∧ s.lo = 0) ∨ ((s.hi ≠ 0 ∨ s.lo ≠ 0) ∧ (s.id = 0 ∨ s.id ≠ 0 ∧ (nameB s.service = false ∨ nameB s.service = true ∧ (nameB s.name = false ∨ nameB s.name = true ∧ (decide (0 ≤ s.kind) = false ∨ 0 ≤ s.kind ∧ (decide (s.kind ≤ 5) = false ∨ s.kind ≤ 5 ∧
      (decide (0 ≤ s.start) = false ∨ 0 ≤ s.start ∧ (decide (0 ≤ s.length) = false ∨ 0 ≤ s.length ∧ (decide (s.start ≤ 4611686018427387903) = false ∨ s.start ≤ 4611686018427387903 ∧ decide (s.length ≤ 4611686018427387903 - s.start) = false))))))))) := by
    by_cases a0 : s.hi = 0 ∧ s.lo = 0
    · exact .inl a0
    refine .inr ⟨by omega, ?_⟩
    by_cases a1 : s.id = 0
    · exact .inl a1
    refine .inr ⟨a1, ?_⟩
    cases a2 : nameB s.service with
    | false => exact .inl rfl
    | true =>
    refine .inr ⟨rfl, ?_⟩
    cases a3 : nameB s.name with
    | false => exact .inl rfl
    | true =>
    refine .inr ⟨rfl, ?_⟩
    by_cases a4 : 0 ≤ s.kind
    case neg => exact .inl (by simpa using a4)
    refine .inr ⟨a4, ?_⟩
    by_cases a5 : s.kind ≤ 5
    case neg => exact .inl (by simpa using a5)
    refine .inr ⟨a5, ?_⟩
    by_cases a6 : 0 ≤ s.start
    case neg => exact .inl (by simpa using a6)
    refine .inr ⟨a6, ?_⟩
    by_cases a7 : 0 ≤ s.length
    case neg => exact .inl (by simpa using a7)
    refine .inr ⟨a7, ?_⟩
    by_cases a8 : s.start ≤ 4611686018427387903
    case neg => exact .inl (by simpa using a8)
    refine .inr ⟨a8, ?_⟩
    by_cases a9 : s.length ≤ 4611686018427387903 - s.start
    case neg => simpa using a9
    have : headB s = true := by
      simp only [headB, a2, a3, Bool.and_eq_true, Bool.or_eq_true, decide_eq_true_eq, ne_eq]
      exact ⟨⟨⟨⟨⟨⟨⟨⟨⟨by omega, a1⟩, trivial⟩, trivial⟩, a4⟩, a5⟩, a6⟩, a7⟩, a8⟩, a9⟩
    rw [hhead] at this
    cases this
  have HCASE := Lib.hid hcase
  clear hcase hhead
  go_enter Tryz.func40, Tryz.ntmps40
  go_wp2_with fail
  rw [HW.out]
  refine HC.out.mono ?_
  rintro e w2 ⟨rfl, hb2⟩
  have hs2 := hb2.size
  have hb02 := hb0.trans (hb2.mono (by omega))
  have hf2 := (Rd.below hf1 (hb2.mono (by omega))).more (show B ≤ w2.heap.size by omega)
  have bk2 := bk.below hb2 (by omega)
  obtain ⟨g, hg⟩ : ∃ g, w.heap.size = g := ⟨_, rfl⟩
  rw [hg] at bk2 ⊢
  have k0 : w2.cell? ⟨g, 0, none⟩ = some (.int .u64 s.hi) := bk2.cell 0
  have k1 : w2.cell? ⟨g, 1, none⟩ = some (.int .u64 s.lo) := bk2.cell 1
  have k2 : w2.cell? ⟨g, 2, none⟩ = some (.int .u64 s.id) := bk2.cell 2
  have k4 : w2.cell? ⟨g, 4, none⟩ = some (.string s.service) := bk2.cell 4
  have k5 : w2.cell? ⟨g, 5, none⟩ = some (.string s.name) := bk2.cell 5
  have k6 : w2.cell? ⟨g, 6, none⟩ = some (.int .i64 s.kind) := bk2.cell 6
  have k7 : w2.cell? ⟨g, 7, none⟩ = some (.int .i64 s.start) := bk2.cell 7
  have k8 : w2.cell? ⟨g, 8, none⟩ = some (.int .i64 s.length) := bk2.cell 8
  have k10 : w2.cell? ⟨g, 10, none⟩ = some (.slice A n c) := bk2.cell 10
  clear bk hf1 hb0 HW
  have HHS := Lib.hid hs2
  have HH1 := Lib.hid hs1
  have HHB := Lib.hid hB
  have HHG := Lib.hid hg
  have HB02 := Lib.hid hb02
  have HF2 := Lib.hid hf2
  have HBK := Lib.hid bk2
  clear hs2 hs1 hB hg hb02 hf2 bk2 hf hb2
  have hcase := HCASE.out
  clear HCASE
  rcases hcase with ⟨a0, a0'⟩ | ⟨a0, a1 | ⟨a1, a2 | ⟨a2, a3 | ⟨a3, a4 | ⟨a4, a5 | ⟨a5, a6 | ⟨a6, a7 | ⟨a7, a8 | ⟨a8, a9⟩⟩⟩⟩⟩⟩⟩⟩⟩
  all_goals first
    | (have d1 : ((s.id : Int) != 0) = true := by rw [bne_iff_ne]; omega)
    | (have d1 : ((s.id : Int) != 0) = false := by rw [a1]; rfl)
    | skip
  all_goals go_wp2_with (first
    | (go_at_call 52; refine (spName _ _).mono ?_; rintro e w' ⟨rfl, hw⟩; rw [hw]; clear hw w'; first | rw [a2] | rw [a3]))
  all_goals
    go_loopw [3, 63] (fun fv iv_ wr => ∃ j : Nat, j ≤ n ∧ iv_ = .int .i64 j ∧ fv = .bool false ∧ Below w2.heap.size w2 wr) (fun _ i _ => n - (intOf i).toNat)
    case atStart => exact ⟨0, by omega, rfl, rfl, Below.refl _ _⟩
    case round =>
      obtain ⟨j, hj, rfl, rfl, hb⟩ := hrel
      have hgl : g < w2.heap.size := by have := HHG.out; have := HHS.out; have := HH1.out; omega
      by_cases hlt : j < n
      · have hlt' : (j : Int) < (n : Int) := by omega
        obtain ⟨x, hx⟩ : ∃ x, s.tags[j]? = some x := ⟨_, List.getElem?_eq_getElem (by rw [HN.out]; exact hlt)⟩
        have hRb : Rd wr w2.heap.size A (tgs s.tags) := (Rd.more HF2.out (Nat.le_refl _)).below hb
        obtain ⟨b, o, rfl, hbb, c1, c2⟩ := RbT.get hRb hx
        have k10' : wr.cell? ⟨g, 10, none⟩ = some (.slice (some ⟨b, o, none⟩) n c) := (hb.cell (p := ⟨g, 10, none⟩) hgl).trans k10
        have HX := Lib.hid hx
        clear hx
        go_wp2_with fail
        have hbW := hb.alloc hb.size (.cells #[.string x.key, .string x.val] 93)
        obtain ⟨W, hW⟩ : ∃ W, wr.alloc (.cells #[.string x.key, .string x.val] 93) = W := ⟨_, rfl⟩
        rw [hW] at hbW ⊢
        have HBW := Lib.hid hbW
        clear hW hbW hRb hb hgl c1 c2 k10'
        go_quiet (fail)
        go_wp2
        go_roundw
        case rel => exact ⟨j + 1, by omega, by go_num, rfl, below_drewN HBW.out _⟩
        case measure => simp [intOf]; omega
      · have hlt' : decide ((j : Int) < (n : Int)) = false := by simp; omega
        go_wp2
        go_ret
        exact ⟨rfl, HB02.out.trans (hb.mono (by have := HHS.out; have := HH1.out; omega))⟩

set_option maxHeartbeats 400000 in
/-- Check of any span. -/
theorem spCheck {A : Option Addr} {c n B : Nat} (s : Sp) (w : World) (hf : RbT w B A s.tags) (hn : s.tags.length = n) (hB : B ≤ w.heap.size) (hnl : n ≤ 9223372036854775807) :
    Calls Tryz.prog 40 #[spV s A n c] w fun e w' => e = .returned (.int .i64 (spChk s)) ∧ Below w.heap.size w w' := by
  cases hl : longB s with
  | true =>
    have hr : spChk s = 3 := by rw [spChk, if_pos hl]
    rw [hr]
    have hf1 := Rd.alloc hf hB (.cells (spC s A n c) 40)
    have hb0 : Below w.heap.size w (w.alloc (.cells (spC s A n c) 40)) := (Below.refl _ w).alloc (Nat.le_refl _) _
    have hc := spLong (c := c) s _ hf1 hn (by simp; omega) hnl
    rw [hl] at hc
    have HC := Lib.hid hc
    clear hc hl
    go_enter Tryz.func40, Tryz.ntmps40
    go_wp2_with fail
    refine HC.out.mono ?_
    rintro e w2 ⟨rfl, hb2⟩
    go_wp2
    go_ret
    exact ⟨rfl, hb0.trans (hb2.mono (by simp))⟩
  | false =>
    cases hh : headB s with
    | false =>
      have hr : spChk s = 2 := by rw [spChk, hl, hh]; rfl
      rw [hr]
      exact spCheck0 s w hf hn hB hnl hl hh
    | true =>
      have hr : spChk s = if tagsOk s.tags n = true then 0 else 2 := by rw [spChk, hl, hh, hn]; rfl
      rw [hr]
      exact spCheck1 s w hf hn hB hnl hl hh
end Go.Proofs.YtoojpagpkbcfjaaGreat


/- Spans: Parse: what it computes, its memory. -/
namespace Go.Proofs.YtoojpagpkbcfjaaGreat
open Go.RowKit

/-- What Parse has read ahead of the tags: the span without them, their number, the reader. -/
def prHead (zs : List Int) : Sp × Nat × RS :=
  let a := rEight zs ⟨0, 0, false⟩
  let b := rEight zs a.2
  let c := rEight zs b.2
  let d := rEight zs c.2
  let e := rText zs d.2
  let f := rText zs e.2
  let k := rOne 255 zs f.2
  let st := rShort 4611686018427387903 zs k.2
  let ln := rShort 4611686018427387903 zs st.2
  let fl := rOne 1 zs ln.2
  let n := rShort 16 zs fl.2
  (⟨a.1, b.1, c.1, d.1, e.1, f.1, k.1, st.1, ln.1, fl.1 == 1, []⟩, n.1, n.2)
def prTags (zs : List Int) : Nat → List Tg → RS → List Tg × RS
  | 0, acc, s => (acc, s)
  | n + 1, acc, s => prTags zs n (acc ++ [⟨(rText zs s).1, (rText zs (rText zs s).2).1⟩]) (rText zs (rText zs s).2).2
/-- The span that was read, and the reader behind it. -/
def prAll (zs : List Int) : Sp × RS := ({ (prHead zs).1 with tags := (prTags zs (prHead zs).2.1 [] (prHead zs).2.2).1 }, (prTags zs (prHead zs).2.1 [] (prHead zs).2.2).2)
def prErrOf (zs : List Int) (s : Sp) (r : RS) : Nat :=
  if r.e ≠ 0 then r.e else if r.bad = true then 4 else if r.p < zs.length then 4 else spChk s
/-- What Parse tells. -/
def prErr (zs : List Int) : Nat := prErrOf zs (prAll zs).1 (prAll zs).2
def prSp (zs : List Int) : Sp := if prErr zs = 0 then (prAll zs).1 else zeroSp

theorem results_cell_row_tmp {P : Program} {fn : Func} {p u : Tmp} {ty : TypeId} (h : fn.results = #[.cell p ty, .tmp u]) (tmps : Array Value) (w : World) (g : Nat) (t : TypeId) (cs : Array Value) (d : TypeDesc)
    (hp : tmps.getD p undef = .pointer (some ⟨g, 0, none⟩)) (hg : Bk w g t cs)
    (hu : P.underlying ty = some d) (hd : (match d with | .struct _ | .array _ _ => true | _ => false) = true) (hi : (P.info? ty).map (·.size) = some cs.size) :
    (results fn tmps).run P w = .ok (.tuple #[.agg cs, tmps.getD u undef]) w := by
  rw [results_cell_tmp h, hp]
  simp [asAddr, Result.andThen, run_loadVar_row w g t ty cs (0, 0) d hg hu hd hi]
section
variable {w0 W W' : World} {h g sb rb lo : Nat} {A : Option Addr} {c : Nat} {zs : List Int} {st st' : RS} {cells : Array Value} {At : Option Addr} {nt ct : Nat} {acc : List Tg}
end

/-! The reader's methods, by what they give. -/
section
variable {A : Option Addr} {c h g : Nat} {zs : List Int} {s s' : RS}
end
theorem rShort_le {most : Nat} {zs : List Int} {s : RS} : (rShort most zs s).1 ≤ most := by
  unfold rShort
  split
  · simp
  · split
    · simp
    · simp only; omega
theorem rOne_rng {most : Int} {zs : List Int} (hz : Byt zs) (s : RS) : 0 ≤ (rOne most zs s).1 ∧ (rOne most zs s).1 ≤ 255 := by
  unfold rOne
  split
  · simp
  · have hb := rdFix_byt hz s.p s.e 1
    split
    · rename_i x hx
      rw [hx] at hb
      exact hb x (by simp)
    · simp
end Go.Proofs.YtoojpagpkbcfjaaGreat


/- Spans: Parse. -/
namespace Go.Proofs.YtoojpagpkbcfjaaGreat
open Go.RowKit
attribute [local go_sem ↓] appK_shut

def ParsePost (w : World) (zs : List Int) (e : Ending) (w' : World) : Prop :=
  ∃ At ct, e = .returned (.tuple #[spV (prSp zs) At (prSp zs).tags.length ct, .int .i64 (prErr zs)]) ∧ RbT w' w'.heap.size At (prSp zs).tags ∧ Below w.heap.size w w' ∧ (prSp zs).tags.length ≤ ct ∧ (∀ a, At = some a → w.heap.size ≤ a.block)
theorem parsePost_bad {w W : World} {rb k : Nat} {zs : List Int} {e : Ending} (he : prErr zs = k) (hk : k ≠ 0) (hb : Below w.heap.size w W) (hrb : w.heap.size ≤ rb) (hr : e = .returned (.tuple #[.agg zspC, .int .i64 k])) :
    ParsePost w zs e (W.setRow rb zspC) := by
  have hs : prSp zs = zeroSp := by rw [prSp, if_neg (by omega)]
  have h1 := only_row (w := W) rb zspC
  rw [ParsePost, hs, he]
  exact ⟨none, 0, hr, Rd.nil, hb.trans ⟨h1.os, h1.tape, h1.output, h1.size, fun k hk => h1.block k (by have := hb.size; omega) (fun e => by injection e; omega)⟩, Nat.le_refl _, fun a ha => by cases ha⟩
end Go.Proofs.YtoojpagpkbcfjaaGreat


/- Strings into bytes: '[]byte(s)' of a variable and of a constant. -/
namespace Go.Proofs.YtoojpagpkbcfjaaGreat
open Go.RowKit

theorem Rd.of_alloc {w : World} {cs : Array Value} {t : TypeId} {fr : Nat × Nat} {xs : List Value} (h : ∀ (j : Nat) (u : Value), xs[j]? = some u → cs[j]? = some u) : Rd (w.alloc (.cells cs t fr)) (w.heap.size + 1) (some ⟨w.heap.size, 0, none⟩) xs := fun _ =>
  ⟨w.heap.size, 0, rfl, by omega, fun j u hu => by rw [Nat.zero_add, World.cell?_alloc_mark]; exact h j u hu⟩

theorem Rd.litm {w : World} {cs : Array Value} {t : TypeId} {fr : Nat × Nat} {g : Nat} (hg : w.heap.size = g) : Rd (w.alloc (.cells cs t fr)) (g + 1) (some ⟨g, 0, none⟩) cs.toList := fun _ => by
  subst hg
  exact ⟨w.heap.size, 0, rfl, by omega, fun j u hu => by
    rw [Nat.zero_add, World.cell?_alloc_mark]
    simpa using hu⟩
end Go.Proofs.YtoojpagpkbcfjaaGreat


/- Spans: pieces; how a span is put into bytes. -/
namespace Go.Proofs.YtoojpagpkbcfjaaGreat
open Go.RowKit

def pie (s : ByteArray) : List Int := numEnc s.size ++ nums s
theorem pie_len (s : ByteArray) (h : s.size ≤ 1048576) : (pie s).length ≤ s.size + 10 := by
  have := numEnc_u64 (x := s.size) (by omega)
  rw [pie, List.length_append, nums_len]
  omega
theorem pies_len : ∀ (ls : List ByteArray), (∀ s ∈ ls, s.size ≤ 1048576) → (ls.flatMap pie).length ≤ (ls.length) * 1048586
  | [], _ => by simp
  | s :: ls, h => by
    have h1 := pie_len s (h s (by simp))
    have h2 := h s (by simp)
    have h3 := pies_len ls (fun t ht => h t (by simp [ht]))
    rw [List.flatMap_cons, List.length_append, List.length_cons]
    omega
end Go.Proofs.YtoojpagpkbcfjaaGreat


/- Spans: Append. -/
namespace Go.Proofs.YtoojpagpkbcfjaaGreat
open Go.RowKit

def tgEnc (t : Tg) : List Int := pie t.key ++ pie t.val
def spHead (s : Sp) : List Int := [s.hi, s.lo, s.id, s.parent].flatMap ordEnc ++ (pie s.service ++ pie s.name) ++ [s.kind % 256] ++ (numEnc s.start.toNat ++ numEnc s.length.toNat) ++ [if s.fails = true then 1 else 0] ++ numEnc s.tags.length
def spEnc (s : Sp) : List Int := spHead s ++ s.tags.flatMap tgEnc

theorem spTruth (w : World) (b : Bool) : Calls Tryz.prog 83 #[.bool b] w fun e w' => e = .returned (.int .i64 (if b = true then 1 else 0)) ∧ w' = w := by
  cases b
  · go_enter Tryz.func83, Tryz.ntmps83
    go_wp2
    go_ret
    exact ⟨rfl, rfl⟩
  · go_enter Tryz.func83, Tryz.ntmps83
    go_wp2
    go_ret
    exact ⟨rfl, rfl⟩

/-- Append hands back bytes of its own. -/
def AppPost (w : World) (zs : List Int) (s : Sp) (e : Ending) (w' : World) : Prop :=
  Below w.heap.size w w' ∧ ((spChk s ≠ 0 ∧ e = .returned (.tuple #[.slice none 0 0, .int .i64 (spChk s)])) ∨
    (spChk s = 0 ∧ ∃ A' c', e = .returned (.tuple #[.slice A' (zs ++ spEnc s).length c', .int .i64 0]) ∧ Rb w' w'.heap.size A' (zs ++ spEnc s) ∧ (zs ++ spEnc s).length ≤ c' ∧ ∀ a, A' = some a → w.heap.size ≤ a.block))
end Go.Proofs.YtoojpagpkbcfjaaGreat


/- Spans: the walk of Append. -/
namespace Go.Proofs.YtoojpagpkbcfjaaGreat
open Go.RowKit

theorem ordsLen (l : List Nat) : (l.flatMap ordEnc).length = l.length * 8 := by
  induction l with
  | nil => rfl
  | cons x l ih => rw [List.flatMap_cons, List.length_append, ih, ordEnc_len, List.length_cons]; omega
theorem own_downK {w : World} {base base' size n : Nat} {e : TypeId} {v : Value} {xs : List Value} (h : w.ownsRow base e size v n xs) (hb : base' ≤ base) : w.ownsRow base' e size v n xs :=
  ⟨h.1, h.2.imp id fun ⟨g, cap, cur, hv, hg, r⟩ => ⟨g, cap, cur, hv, Nat.le_trans hb hg, r⟩⟩
/-- Append's answer: a row of its own. -/
def AppPost2 (w : World) (zs : List Int) (s : Sp) (e : Ending) (w' : World) : Prop :=
  Below w.heap.size w w' ∧ ((spChk s ≠ 0 ∧ e = .returned (.tuple #[.slice none 0 0, .int .i64 (spChk s)])) ∨
    (spChk s = 0 ∧ ∃ A' c', e = .returned (.tuple #[.slice A' (zs ++ spEnc s).length c', .int .i64 0]) ∧ w'.ownsRow w.heap.size 5 1 (.slice A' (zs ++ spEnc s).length c') (zs ++ spEnc s).length (bv (zs ++ spEnc s)) ∧ (zs ++ spEnc s).length ≤ c'))
end Go.Proofs.YtoojpagpkbcfjaaGreat


/- Spans: bootprintkit.SameSpan of two equal spans. -/
namespace Go.Proofs.YtoojpagpkbcfjaaGreat
open Go.RowKit

theorem strEq_of {s t : ByteArray} : (s.toList == t.toList) = decide (s = t) := by
  rw [ByteArray.toList_eq, ByteArray.toList_eq, Bool.eq_iff_iff, beq_iff_eq, decide_eq_true_iff]
  exact ⟨fun h => ByteArray.ext (Array.ext' h), fun h => by rw [h]⟩
set_option maxRecDepth 100000 in
set_option maxHeartbeats 8000000 in
/-- Two spans whose heads are the same: their tags are held against one another. -/
theorem kitSameTags {A1 A2 : Option Addr} {c1 c2 n B : Nat} (s : Sp) (ta tb : List Tg) (w : World) (hf : RbT w B A1 ta) (hg : RbT w B A2 tb) (hn : ta.length = n) (hm : tb.length = n) (hB : B ≤ w.heap.size) (hnl : n ≤ 9223372036854775807) :
    Calls Tryz.prog 39 #[spV s A1 n c1, spV s A2 n c2] w fun e w' => e = .returned (.bool (decide (ta = tb))) ∧ Below w.heap.size w w' := by
  obtain ⟨q, hq⟩ : ∃ q, decide (ta = tb) = q := ⟨_, rfl⟩
  rw [hq]
  have HQT := Lib.hid hq
  have HN := Lib.hid hn
  have HM := Lib.hid hm
  clear hq hn hm
  have hb0 : Below w.heap.size w ((w.alloc (.cells (spC s A1 n c1) 40)).alloc (.cells (spC s A2 n c2) 40)) := ((Below.refl _ w).alloc (Nat.le_refl _) _).alloc (by simp) _
  have hff := Rd.below hf (hb0.mono hB)
  have hgg := Rd.below hg (hb0.mono hB)
  have bk1 := (Bk.new w 40 (spC s A1 n c1)).alloc (.cells (spC s A2 n c2) 40)
  have bk2 : Bk ((w.alloc (.cells (spC s A1 n c1) 40)).alloc (.cells (spC s A2 n c2) 40)) (w.heap.size + 1) 40 (spC s A2 n c2) := by
    have h := Bk.new (w.alloc (.cells (spC s A1 n c1) 40)) 40 (spC s A2 n c2)
    simpa using h
  obtain ⟨w1, hw1⟩ : ∃ w1, ((w.alloc (.cells (spC s A1 n c1) 40)).alloc (.cells (spC s A2 n c2) 40)) = w1 := ⟨_, rfl⟩
  rw [hw1] at hb0 hff hgg bk1 bk2
  obtain ⟨g1, hg1⟩ : ∃ g1, w.heap.size = g1 := ⟨_, rfl⟩
  obtain ⟨g2, hg2⟩ : ∃ g2, g1 + 1 = g2 := ⟨_, rfl⟩
  rw [hg1] at bk1 bk2
  rw [hg2] at bk2
  have HW := Lib.hid hw1
  have HG1 := Lib.hid hg1
  have HG2 := Lib.hid hg2
  have kg10 : w1.cell? ⟨g1, 0, none⟩ = some (.int .u64 s.hi) := bk1.cell 0
  have kg11 : w1.cell? ⟨g1, 1, none⟩ = some (.int .u64 s.lo) := bk1.cell 1
  have kg12 : w1.cell? ⟨g1, 2, none⟩ = some (.int .u64 s.id) := bk1.cell 2
  have kg13 : w1.cell? ⟨g1, 3, none⟩ = some (.int .u64 s.parent) := bk1.cell 3
  have kg14 : w1.cell? ⟨g1, 4, none⟩ = some (.string s.service) := bk1.cell 4
  have kg15 : w1.cell? ⟨g1, 5, none⟩ = some (.string s.name) := bk1.cell 5
  have kg16 : w1.cell? ⟨g1, 6, none⟩ = some (.int .i64 s.kind) := bk1.cell 6
  have kg17 : w1.cell? ⟨g1, 7, none⟩ = some (.int .i64 s.start) := bk1.cell 7
  have kg18 : w1.cell? ⟨g1, 8, none⟩ = some (.int .i64 s.length) := bk1.cell 8
  have kg19 : w1.cell? ⟨g1, 9, none⟩ = some (.bool s.fails) := bk1.cell 9
  have kg110 : w1.cell? ⟨g1, 10, none⟩ = some (.slice A1 n c1) := bk1.cell 10
  have kg20 : w1.cell? ⟨g2, 0, none⟩ = some (.int .u64 s.hi) := bk2.cell 0
  have kg21 : w1.cell? ⟨g2, 1, none⟩ = some (.int .u64 s.lo) := bk2.cell 1
  have kg22 : w1.cell? ⟨g2, 2, none⟩ = some (.int .u64 s.id) := bk2.cell 2
  have kg23 : w1.cell? ⟨g2, 3, none⟩ = some (.int .u64 s.parent) := bk2.cell 3
  have kg24 : w1.cell? ⟨g2, 4, none⟩ = some (.string s.service) := bk2.cell 4
  have kg25 : w1.cell? ⟨g2, 5, none⟩ = some (.string s.name) := bk2.cell 5
  have kg26 : w1.cell? ⟨g2, 6, none⟩ = some (.int .i64 s.kind) := bk2.cell 6
  have kg27 : w1.cell? ⟨g2, 7, none⟩ = some (.int .i64 s.start) := bk2.cell 7
  have kg28 : w1.cell? ⟨g2, 8, none⟩ = some (.int .i64 s.length) := bk2.cell 8
  have kg29 : w1.cell? ⟨g2, 9, none⟩ = some (.bool s.fails) := bk2.cell 9
  have kg210 : w1.cell? ⟨g2, 10, none⟩ = some (.slice A2 n c2) := bk2.cell 10
  have fbool : (s.fails != s.fails) = false := by simp
  clear hw1 bk1 bk2 hg1 hg2 hf hg
  go_enter Tryz.func39, Tryz.ntmps39
  go_upto_region 1 with fail
  rw [HW.out, HG1.out]
  simp only [HG2.out]
  go_wp2_with fail
  clear kg10 kg11 kg12 kg13 kg14 kg15 kg16 kg17 kg18 kg19 kg20 kg21 kg22 kg23 kg24 kg25 kg26 kg27 kg28 kg29
  have hg1l : g1 < w1.heap.size := by rw [← HG1.out, ← HW.out]; simp; omega
  have hg2l : g2 < w1.heap.size := by rw [← HG2.out, ← HG1.out, ← HW.out]; simp
  go_loopw [5] (fun iv_ wr => ∃ j : Nat, j ≤ n ∧ iv_ = .int .i64 j ∧ ta.take j = tb.take j ∧ Below w1.heap.size w1 wr) (fun i _ => n - (intOf i).toNat)
  case atStart => exact ⟨0, by omega, rfl, rfl, Below.refl _ _⟩
  case round =>
    obtain ⟨j, hj, rfl, hall, hb⟩ := hrel
    have HA := Lib.hid hall
    clear hall
    have k1' : wr.cell? ⟨g1, 10, none⟩ = some (.slice A1 n c1) := (hb.cell (p := ⟨g1, 10, none⟩) hg1l).trans kg110
    have k2' : wr.cell? ⟨g2, 10, none⟩ = some (.slice A2 n c2) := (hb.cell (p := ⟨g2, 10, none⟩) hg2l).trans kg210
    by_cases hlt : j < n
    · have hlt' : (j : Int) < (n : Int) := by omega
      have hBs : B ≤ w1.heap.size := by rw [← HW.out]; simp; omega
      obtain ⟨x, hx⟩ : ∃ x, ta[j]? = some x := ⟨_, List.getElem?_eq_getElem (by rw [HN.out]; exact hlt)⟩
      obtain ⟨y, hy⟩ : ∃ y, tb[j]? = some y := ⟨_, List.getElem?_eq_getElem (by rw [HM.out]; exact hlt)⟩
      obtain ⟨b1, o1, rfl, hbb1, c11, c12⟩ := RbT.get (Rd.below hff (hb.mono hBs)) hx
      obtain ⟨b2, o2, rfl, hbb2, c21, c22⟩ := RbT.get (Rd.below hgg (hb.mono hBs)) hy
      have HX := Lib.hid hx
      have HY := Lib.hid hy
      clear hx hy hbb1 hbb2 kg110 kg210 hg1l hg2l
      by_cases hxy : x = y
      · subst hxy
        go_wp2_with fail
        go_quiet (fail)
        go_wp2
        go_roundw
        case rel => exact ⟨j + 1, by omega, by go_num, by rw [take_snoc HX.out, take_snoc HY.out, HA.out], below_drewN hb _⟩
        case measure => simp [intOf]; omega
      · have hqf : q = false := by
          rw [← HQT.out, decide_eq_false_iff_not]
          intro h
          have h1 := HX.out
          rw [h, HY.out] at h1
          exact hxy (Option.some.inj h1).symm
        have HQF := Lib.hid hqf
        clear hqf
        by_cases hk : x.key = y.key
        · have hv : x.val ≠ y.val := fun h => hxy (by cases x; cases y; simp_all)
          have d1 : (x.key.toList == y.key.toList) = true := by rw [strEq_of]; simpa using hk
          have d2 : (x.val.toList == y.val.toList) = false := by rw [strEq_of]; simpa using hv
          clear hk hv
          go_wp2_with fail
          go_quiet (fail)
          go_wp2
          go_ret
          exact ⟨by rw [HQF.out]; rfl, hb0.trans ((below_drewN hb _).mono (by rw [← HW.out]; simp; omega))⟩
        · have d1 : (x.key.toList == y.key.toList) = false := by rw [strEq_of]; simpa using hk
          clear hk
          go_wp2_with fail
          go_quiet (fail)
          go_wp2
          go_ret
          exact ⟨by rw [HQF.out]; rfl, hb0.trans ((below_drewN hb _).mono (by rw [← HW.out]; simp; omega))⟩
    · have hlt' : decide ((j : Int) < (n : Int)) = false := by simp; omega
      go_wp2
      go_ret
      have : q = true := by
        rw [← HQT.out, decide_eq_true_iff]
        have h1 := HA.out
        rwa [List.take_of_length_le (by rw [HN.out]; omega), List.take_of_length_le (by rw [HM.out]; omega)] at h1
      exact ⟨by rw [this]; rfl, hb0.trans (hb.mono (by rw [← HW.out]; simp; omega))⟩
end Go.Proofs.YtoojpagpkbcfjaaGreat

