/- Spans: ParseTrace. -/
import Derived.Laws.ResultCell
import Derived.Laws.Tables
import Derived.Laws.StructEq
import Derived.Deep.Cut
import Derived.Test.YtohnpogoldbplaaByt
import Derived.Test.YtohnpogoldbplaaShelf
namespace Go.Proofs.Ytohnpogoldbplaa
open Go.RowKit

/-- A hexadecimal digit's value, or -1. -/
def hexV (c : Int) : Int := if 48 ≤ c ∧ c ≤ 57 then c - 48 else if 97 ≤ c ∧ c ≤ 102 then c - 87 else -1
theorem hexV_rng (c : Int) : -1 ≤ hexV c ∧ hexV c ≤ 15 := by
  unfold hexV
  split
  · omega
  · split <;> omega
theorem hexV_index (c : Int) (h0 : 0 ≤ c) (h1 : c ≤ 255) : Lib.indexByte (⟨#[48, 49, 50, 51, 52, 53, 54, 55, 56, 57, 97, 98, 99, 100, 101, 102]⟩ : ByteArray).data.toList c.toNat.toUInt8 = hexV c := by
  have key : ∀ n : Nat, n < 256 → Lib.indexByte (⟨#[48, 49, 50, 51, 52, 53, 54, 55, 56, 57, 97, 98, 99, 100, 101, 102]⟩ : ByteArray).data.toList n.toUInt8 = hexV n := by decide +kernel
  have := key c.toNat (by omega)
  rwa [show ((c.toNat : Nat) : Int) = c from by omega] at this
/-- The two numbers that 32 digits tell. -/
def ptG : List Int → Nat → Nat → Nat → Option (Nat × Nat)
  | [], _, a, b => some (a, b)
  | c :: l, i, a, b => if hexV c < 0 then none else if i < 16 then ptG l (i + 1) (a * 16 + (hexV c).toNat) b else ptG l (i + 1) a (b * 16 + (hexV c).toNat)
/-- What ParseTrace tells: the trace, the error. -/
def ptOf (s : ByteArray) : Nat × Nat × Nat :=
  if s.size ≠ 32 then (0, 0, 2) else match ptG (nums s) 0 0 0 with
    | none => (0, 0, 2)
    | some (a, b) => if a = 0 ∧ b = 0 then (0, 0, 2) else (a, b, 0)
theorem or_nib (v d : Nat) (hv : v < 1152921504606846976) (hd : d < 16) : bits .or .u64 (((v * 16 : Nat)) : Int) (d : Int) = ((v * 16 + d : Nat) : Int) := by
  rw [u64_or_nat _ _ (by omega) (by omega)]
  have e : v * 16 = 2 ^ 4 * v := by omega
  rw [e, ← Nat.two_pow_add_eq_or_of_lt (show d < 2 ^ 4 from by omega) v]

theorem resCellTmp {P : Program} {fn : Func} {p u : Tmp} {ty : TypeId} (h : fn.results = #[.cell p ty, .tmp u]) (tmps : Array Value) (w : World) (g : Nat) (t : TypeId) (cs : Array Value) (d : TypeDesc)
    (hp : tmps.getD p undef = .pointer (some ⟨g, 0, none⟩)) (hg : Bk w g t cs)
    (hu : P.underlying ty = some d) (hd : (match d with | .struct _ | .array _ _ => true | _ => false) = true) (hi : (P.info? ty).map (·.size) = some cs.size) :
    (results fn tmps).run P w = .ok (.tuple #[.agg cs, tmps.getD u undef]) w := by
  rw [results_cell_tmp h, hp]
  simp [asAddr, Result.andThen, run_loadVar_row w g t ty cs (0, 0) d hg hu hd hi]

theorem eqArr2 (a b c d : Int) (w : World) : (Op.equalIn 10000 74 (.agg #[.int .u64 a, .int .u64 b]) (.agg #[.int .u64 c, .int .u64 d])).run Try.prog w = .ok (a == c && b == d) w := by
  have u3 := Try.underlying22
  have a3 := Try.isAgg22
  have z3 := Try.sizeOf22
  rw [show (10000 : Nat) = 9999 + 1 from rfl, Op.equalIn]
  simp only [Sem.run_bind, run_underlying Try.underlying74, Result.andThen_ok]
  simp only [Std.Legacy.Range.forIn_eq_forIn_range', Std.Legacy.Range.size, Nat.sub_zero, Nat.add_sub_cancel, Nat.div_one, List.range'_succ, List.range'_zero, List.forIn_cons, List.forIn_nil]
  go_simp
  by_cases h1 : a = c <;> by_cases h2 : b = d <;> simp [h1, h2]
theorem Bk.rowT {w : World} {g : Nat} {t : TypeId} {old : Array Value} (h : Bk w g t old) (cs : Array Value) : Bk (w.setRow g cs) g t cs := setRow_heap w g old cs t (0, 0) h
theorem below_rowT (w : World) {B g : Nat} (h : B ≤ g) (cs : Array Value) : Below B w (w.setRow g cs) :=
  ⟨rfl, rfl, rfl, by simp [World.setRow], fun i hi => by simp [World.setRow, Array.getElem?_modify]; intro e; omega⟩
theorem ptG_drop {s : ByteArray} {i a b : Nat} {c : Int} (h : (nums s)[i]? = some c) : ptG ((nums s).drop i) i a b = if hexV c < 0 then none else if i < 16 then ptG ((nums s).drop (i + 1)) (i + 1) (a * 16 + (hexV c).toNat) b else ptG ((nums s).drop (i + 1)) (i + 1) a (b * 16 + (hexV c).toNat) := by
  have hl := (List.getElem?_eq_some_iff.1 h).1
  have e : (nums s).drop i = c :: (nums s).drop (i + 1) := by
    rw [List.drop_eq_getElem_cons hl, (List.getElem?_eq_some_iff.1 h).2]
  rw [e, ptG]

set_option maxRecDepth 100000 in
set_option maxHeartbeats 4000000 in
theorem spParseTrace (w : World) (s : ByteArray) :
    Calls Try.prog 12 #[.string s] w fun e w' => e = .returned (.tuple #[.agg #[.int .u64 (ptOf s).1, .int .u64 (ptOf s).2.1], .int .i64 (ptOf s).2.2]) ∧ Below w.heap.size w w' := by
  have hb0 : Below w.heap.size w (w.alloc (.cells #[.int .u64 0, .int .u64 0] 24)) := (Below.refl _ w).alloc (Nat.le_refl _) _
  have bk0 := Bk.new w 24 #[.int .u64 0, .int .u64 0]
  obtain ⟨w1, hw1⟩ : ∃ w1, w.alloc (.cells #[.int .u64 0, .int .u64 0] 24) = w1 := ⟨_, rfl⟩
  have hs1 : w1.heap.size = w.heap.size + 1 := by rw [← hw1]; simp
  rw [hw1] at hb0 bk0
  have HW := Lib.hid hw1
  obtain ⟨r, hr⟩ : ∃ r, ptOf s = r := ⟨_, rfl⟩
  rw [hr]
  have HR := Lib.hid hr
  clear hw1 hr
  go_enter Try.func12, Try.ntmps12
  go_upto_region 1 with fail
  rw [HW.out]
  by_cases hn : s.size = 32
  case neg =>
    have hr : r = (0, 0, 2) := by rw [← HR.out, ptOf, if_pos hn]
    subst hr
    have d1 : ((s.size : Int) != 32) = true := by rw [bne_iff_ne]; omega
    go_wp2_with (refine wpList_store_row rfl 24 (.tmp 2) (.tmp 10) rfl w.heap.size #[.int .u64 0, .int .u64 0] rfl rfl 24 #[.int .u64 0, .int .u64 0] bk0 (by rfl) rfl (by simp [Value.oneCell']) ?_)
    try simp only [Exit.inBlock, Exit.then]
    refine bodyPost_ret (resCellTmp rfl _ _ w.heap.size 24 #[.int .u64 0, .int .u64 0] _ rfl (bk0.rowT _) Try.underlying24 rfl (by rfl)) rfl ?_
    exact ⟨rfl, hb0.trans (below_rowT w1 (Nat.le_refl _) _)⟩
  have d1 : ((s.size : Int) != 32) = false := by rw [bne_eq_false_iff_eq]; omega
  go_upto_region 4 with fail
  have hb2 := hb0.alloc (by omega) (.cells #[.int .u64 0, .int .u64 0] 74)
  have bk2 := bk0.alloc (.cells #[.int .u64 0, .int .u64 0] 74)
  have bq2 := Bk.new w1 74 #[.int .u64 0, .int .u64 0]
  obtain ⟨w2, hw2⟩ : ∃ w2, w1.alloc (.cells #[.int .u64 0, .int .u64 0] 74) = w2 := ⟨_, rfl⟩
  rw [hw2] at hb2 bk2 bq2 ⊢
  rw [hs1] at bq2
  obtain ⟨q, hq⟩ : ∃ q, w.heap.size + 1 = q := ⟨_, rfl⟩
  rw [hq] at bq2 ⊢
  have hqg : w.heap.size ≠ q := by omega
  have hqle : w.heap.size ≤ q := by omega
  have HB2 := Lib.hid (And.intro hb2 (And.intro bk2 bq2))
  clear hw2 hb0 bk0 hs1 HW hq hb2 bk2 bq2
  go_wp2_with fail
  go_loopw [13] (fun iv_ wr => ∃ (i a b : Nat), i ≤ 32 ∧ iv_ = .int .i64 i ∧ a < 16 ^ (min i 16) ∧ b < 16 ^ (i - 16) ∧ ptG ((nums s).drop i) i a b = ptG (nums s) 0 0 0 ∧ Below w.heap.size w wr ∧ Bk wr w.heap.size 24 #[.int .u64 0, .int .u64 0] ∧ Bk wr q 74 #[.int .u64 (a : Nat), .int .u64 (b : Nat)]) (fun i _ => 32 - (intOf i).toNat)
  case atStart => exact ⟨0, 0, 0, by omega, rfl, by simp, by simp, rfl, HB2.out.1, HB2.out.2.1, HB2.out.2.2⟩
  case round =>
    obtain ⟨i, a, b, hi, rfl, ha, hbb, hpt, hb, bk, bq⟩ := hrel
    have HPT := Lib.hid hpt
    clear HB2 hpt
    by_cases hlt : i < 32
    · have hlt' : (i : Int) < 32 := by omega
      have his : i < s.size := by omega
      obtain ⟨c, hc⟩ : ∃ c : Int, c = ((s[i]'his).toNat : Int) := ⟨_, rfl⟩
      have hcc : ((s[i]'his).toNat : Int) = c := hc.symm
      have HC : Hid ((nums s)[i]? = some c) := by rw [hc]; exact nums_get his
      have hcb := (nums_byt s).get HC.out
      clear hc
      have hib := fun W => Try.strings_IndexByte ⟨#[48, 49, 50, 51, 52, 53, 54, 55, 56, 57, 97, 98, 99, 100, 101, 102]⟩ c W
      rw [hexV_index c hcb.1 hcb.2] at hib
      have hstep := ptG_drop (a := a) (b := b) HC.out
      rw [HPT.out] at hstep
      obtain ⟨v, hv⟩ : ∃ v, hexV c = v := ⟨_, rfl⟩
      have hvr := hexV_rng c
      rw [hv] at hib hstep hvr
      have HIB := Lib.hid hib
      have HST := Lib.hid hstep
      clear hib hstep hv
      by_cases hv0 : v < 0
      · have hr : r = (0, 0, 2) := by
          have := HST.out
          rw [if_pos hv0] at this
          rw [← HR.out, ptOf, if_neg (by omega), this]
        subst hr
        go_wp2_with (first
          | (go_at_call 48; refine (HIB.out _).mono ?_; rintro en w' ⟨rfl, hw⟩; rw [hw]; clear hw w')
          | (refine wpList_store_row rfl 24 (.tmp 2) (.tmp 22) rfl w.heap.size #[.int .u64 0, .int .u64 0] rfl rfl 24 #[.int .u64 0, .int .u64 0] bk (by rfl) rfl (by simp [Value.oneCell']) ?_))
        try simp only [Exit.inBlock, Exit.then]
        refine bodyPost_ret (resCellTmp rfl _ _ w.heap.size 24 #[.int .u64 0, .int .u64 0] _ rfl (bk.rowT _) Try.underlying24 rfl (by rfl)) rfl ?_
        exact ⟨rfl, hb.trans (below_rowT wr (Nat.le_refl _) _)⟩
      · have hv0' : decide (v < 0) = false := by simp; omega
        obtain ⟨dd, rfl⟩ : ∃ dd : Nat, v = dd := ⟨v.toNat, by omega⟩
        by_cases hi16 : i < 16
        · have hdiv : (i : Int) / 16 = 0 := by omega
          have hdivn : i / 16 = 0 := by omega
          have kq : wr.cell? ⟨q, 0, none⟩ = some (.int .u64 (a : Nat)) := bq.cell 0
          have fq : wr.frozen? ⟨q, 0, none⟩ = false := bq.frozen 0
          have hvb : a < 1152921504606846976 := Nat.lt_of_lt_of_le ha (show _ ≤ 16 ^ 15 from Nat.pow_le_pow_right (by omega) (by omega))
          obtain ⟨y, hy⟩ : ∃ y : Nat, a * 16 + dd = y := ⟨_, rfl⟩
          have hor : bits .or .u64 ((a : Int) * 16) (dd : Int) = (y : Int) := by
            have := or_nib a dd hvb (by omega)
            rw [hy] at this
            rw [← this]
            rfl
          have hwrap : IntKind.u64.wrap ((a : Int) * 16) = (a : Int) * 16 := IntWalk.u64_in _ ⟨by omega, by omega⟩
          have hyb : y < 16 ^ (min (i + 1) 16) := by
            have e : min (i + 1) 16 = min i 16 + 1 := by omega
            rw [e, Nat.pow_succ]
            omega
          have b2 := bq.set 0 (.int .u64 (y : Nat))
          have bk2 := bk.far (p := ⟨q, 0, none⟩) hqg (.int .u64 (y : Nat))
          have hb2 := hb.setCell (p := ⟨q, 0, none⟩) hqle (.int .u64 (y : Nat))
          have hst := HST.out
          rw [if_neg hv0, if_pos hi16, Int.toNat_natCast, hy] at hst
          have HST2 := Lib.hid hst
          have HYB := Lib.hid hyb
          clear hst HST hy hyb hvb hqle
          go_wp2_with (go_at_call 48; refine (HIB.out _).mono ?_; rintro en w' ⟨rfl, hw⟩; rw [hw]; clear hw w')
          go_roundw
          case rel => exact ⟨i + 1, y, b, by omega, by go_num, HYB.out, by rw [show i + 1 - 16 = i - 16 from by omega]; exact hbb, HST2.out.symm, hb2, bk2, b2⟩
          case measure => simp [intOf]; omega
        · have hdiv : (i : Int) / 16 = 1 := by omega
          have hdivn : i / 16 = 1 := by omega
          have kq : wr.cell? ⟨q, 1, none⟩ = some (.int .u64 (b : Nat)) := bq.cell 1
          have fq : wr.frozen? ⟨q, 1, none⟩ = false := bq.frozen 1
          have hvb : b < 1152921504606846976 := Nat.lt_of_lt_of_le hbb (show _ ≤ 16 ^ 15 from Nat.pow_le_pow_right (by omega) (by omega))
          obtain ⟨y, hy⟩ : ∃ y : Nat, b * 16 + dd = y := ⟨_, rfl⟩
          have hor : bits .or .u64 ((b : Int) * 16) (dd : Int) = (y : Int) := by
            have := or_nib b dd hvb (by omega)
            rw [hy] at this
            rw [← this]
            rfl
          have hwrap : IntKind.u64.wrap ((b : Int) * 16) = (b : Int) * 16 := IntWalk.u64_in _ ⟨by omega, by omega⟩
          have hyb : y < 16 ^ (i + 1 - 16) := by
            have e : i + 1 - 16 = i - 16 + 1 := by omega
            rw [e, Nat.pow_succ]
            omega
          have b2 := bq.set 1 (.int .u64 (y : Nat))
          have bk2 := bk.far (p := ⟨q, 1, none⟩) hqg (.int .u64 (y : Nat))
          have hb2 := hb.setCell (p := ⟨q, 1, none⟩) hqle (.int .u64 (y : Nat))
          have hst := HST.out
          rw [if_neg hv0, if_neg hi16, Int.toNat_natCast, hy] at hst
          have HST2 := Lib.hid hst
          have HYB := Lib.hid hyb
          clear hst HST hy hyb hvb hqle
          go_wp2_with (go_at_call 48; refine (HIB.out _).mono ?_; rintro en w' ⟨rfl, hw⟩; rw [hw]; clear hw w')
          go_roundw
          case rel => exact ⟨i + 1, a, y, by omega, by go_num, by rw [show min (i + 1) 16 = min i 16 from by omega]; exact ha, HYB.out, HST2.out.symm, hb2, bk2, b2⟩
          case measure => simp [intOf]; omega
    · have hlt' : decide ((i : Int) < 32) = false := by simp; omega
      obtain rfl : i = 32 := by omega
      have hpt := HPT.out
      rw [List.drop_eq_nil_of_le (by rw [nums_len]; omega), ptG] at hpt
      have hr := HR.out
      rw [ptOf, if_neg (by omega), ← hpt] at hr
      simp only at hr
      have kq0 : wr.cell? ⟨q, 0, none⟩ = some (.int .u64 (a : Nat)) := bq.cell 0
      have kq1 : wr.cell? ⟨q, 1, none⟩ = some (.int .u64 (b : Nat)) := bq.cell 1
      have hea := fun W => eqArr2 (a : Int) (b : Int) 0 0 W
      by_cases hz : a = 0 ∧ b = 0
      · rw [if_pos hz] at hr
        obtain ⟨rfl, rfl⟩ := hz
        subst hr
        clear hpt
        have hea0 := fun W => eqArr2 0 0 0 0 W
        go_wp2_with (refine wpList_store_row rfl 24 (.tmp 2) (.tmp 38) rfl w.heap.size #[.int .u64 0, .int .u64 0] rfl rfl 24 #[.int .u64 0, .int .u64 0] bk (by rfl) rfl (by simp [Value.oneCell']) ?_)
        try simp only [Exit.inBlock, Exit.then]
        refine bodyPost_ret (resCellTmp rfl _ _ w.heap.size 24 #[.int .u64 0, .int .u64 0] _ rfl (bk.rowT _) Try.underlying24 rfl (by rfl)) rfl ?_
        exact ⟨rfl, hb.trans (below_rowT wr (Nat.le_refl _) _)⟩
      · rw [if_neg hz] at hr
        subst hr
        clear hpt
        have hz' : ((a : Int) == 0 && (b : Int) == 0) = false := by
          rw [Bool.and_eq_false_iff, beq_eq_false_iff_ne, beq_eq_false_iff_ne]
          omega
        rw [hz'] at hea
        go_wp2_with (refine wpList_store_row rfl 24 (.tmp 2) (.tmp 43) rfl w.heap.size #[.int .u64 (a : Nat), .int .u64 (b : Nat)] rfl rfl 24 #[.int .u64 0, .int .u64 0] bk (by rfl) rfl (by simp [Value.oneCell']) ?_)
        all_goals
          try simp only [Exit.inBlock, Exit.then]
          refine bodyPost_ret (resCellTmp rfl _ _ w.heap.size 24 #[.int .u64 (a : Nat), .int .u64 (b : Nat)] _ rfl (bk.rowT _) Try.underlying24 rfl (by rfl)) rfl ?_
          exact ⟨rfl, hb.trans (below_rowT wr (Nat.le_refl _) _)⟩
end Go.Proofs.Ytohnpogoldbplaa
