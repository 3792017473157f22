/- Texts of the proof of AdjustTreeSaid, joined: SpS0 SpS SpV SpW SpU CpP SoR SpF2a. -/
import Derived.Test.YtchpekidnbdpdaaJAdjustTree1
import Derived.Test.YtchpekidnbdpdaaJAdjustTree3
import Derived.Laws.ResultCell
import Derived.Deep.RegionHeld3
import Derived.Test.YtchpekidnbdpdaaJAdjustTree5
import Derived.Deep.Cut
import Derived.Test.YtchpekidnbdpdaaJAdjustTree4
/- Spans: bootprintkit.SmallSpan. -/
namespace Go.Proofs.Ytchpekidnbdpdaa
open Go.RowKit

def tgSmall (most : Int) (t : Tg) : Bool := decide ((t.key.size : Int) ≤ most) && decide ((t.val.size : Int) ≤ most)
def smallB (s : Sp) (most : Int) : Bool := decide ((s.service.size : Int) ≤ most) && decide ((s.name.size : Int) ≤ most) && decide ((s.tags.length : Int) ≤ most) && s.tags.all (tgSmall most)
set_option maxRecDepth 100000 in
set_option maxHeartbeats 2000000 in
theorem kitSmall {A : Option Addr} {c n B : Nat} (s : Sp) (most : Int) (w : World) (hf : RbT w B A s.tags) (hn : s.tags.length = n) (hB : B ≤ w.heap.size) (hnl : n ≤ 9223372036854775807) :
    Calls Try.prog 29 #[spV s A n c, .int .i64 most] w fun e w' => e = .returned (.bool (smallB s most)) ∧ Below w.heap.size w w' := by
  obtain ⟨q, hq⟩ : ∃ q, smallB s most = q := ⟨_, rfl⟩
  rw [hq]
  unfold smallB at hq
  rw [hn] at hq
  have HQ := Lib.hid hq
  have HN := Lib.hid hn
  have hb0 : Below w.heap.size w (w.alloc (.cells (spC s A n c) 32)) := (Below.refl _ w).alloc (Nat.le_refl _) _
  have hf1 := Rd.alloc hf hB (.cells (spC s A n c) 32)
  have bk := Bk.new w 32 (spC s A n c)
  clear hq hn
  by_cases h1 : most < (s.service.size : Int)
  · go_enter Try.func29, Try.ntmps29
    go_wp2
    go_ret
    have : q = false := by rw [← HQ.out, decide_eq_false (show ¬ _ by omega)]; rfl
    exact ⟨by rw [this]; rfl, hb0⟩
  have d1 : decide (most < (s.service.size : Int)) = false := by simp; omega
  by_cases h2 : most < (s.name.size : Int)
  · go_enter Try.func29, Try.ntmps29
    go_wp2
    go_ret
    have : q = false := by rw [← HQ.out, decide_eq_false (p := (s.name.size : Int) ≤ most) (by omega)]; simp
    exact ⟨by rw [this]; rfl, hb0⟩
  have d2 : decide (most < (s.name.size : Int)) = false := by simp; omega
  by_cases h3 : most < (n : Int)
  · go_enter Try.func29, Try.ntmps29
    go_wp2
    go_ret
    have : q = false := by rw [← HQ.out, decide_eq_false (p := (n : Int) ≤ most) (by omega)]; simp
    exact ⟨by rw [this]; rfl, hb0⟩
  have d3 : decide (most < (n : Int)) = false := by simp; omega
  have hq2 : s.tags.all (tgSmall most) = q := by
    rw [← HQ.out, decide_eq_true (p := (s.service.size : Int) ≤ most) (by omega), decide_eq_true (p := (s.name.size : Int) ≤ most) (by omega), decide_eq_true (p := (n : Int) ≤ most) (by omega)]
    simp
  have HQ2 := Lib.hid hq2
  clear hq2
  obtain ⟨w1, hw1⟩ : ∃ w1, w.alloc (.cells (spC s A n c) 32) = w1 := ⟨_, rfl⟩
  rw [hw1] at hb0 hf1 bk
  obtain ⟨g, hg⟩ : ∃ g, w.heap.size = g := ⟨_, rfl⟩
  rw [hg] at bk
  have HW := Lib.hid hw1
  have HG := Lib.hid hg
  have k10 : w1.cell? ⟨g, 10, none⟩ = some (.slice A n c) := bk.cell 10
  have k4 : w1.cell? ⟨g, 4, none⟩ = some (.string s.service) := bk.cell 4
  have k5 : w1.cell? ⟨g, 5, none⟩ = some (.string s.name) := bk.cell 5
  clear hw1 bk hg
  go_enter Try.func29, Try.ntmps29
  go_wp2_with fail
  rw [HW.out, HG.out]
  go_loopw [5] (fun iv_ wr => ∃ j : Nat, j ≤ n ∧ iv_ = .int .i64 j ∧ (s.tags.take j).all (tgSmall most) = true ∧ ∃ d, wr = w1.drewN d) (fun i _ => n - (intOf i).toNat)
  case atStart => exact ⟨0, by omega, rfl, rfl, 0, rfl⟩
  case round =>
    obtain ⟨j, hj, rfl, hall, d, rfl⟩ := hrel
    have HA := Lib.hid hall
    clear hall
    have k10' : (w1.drewN d).cell? ⟨g, 10, none⟩ = some (.slice A n c) := k10
    by_cases hlt : j < n
    · have hlt' : (j : Int) < (n : Int) := by omega
      obtain ⟨x, hx⟩ : ∃ x, s.tags[j]? = some x := ⟨_, List.getElem?_eq_getElem (by rw [HN.out]; exact hlt)⟩
      obtain ⟨b, o, rfl, hbb, c1, c2⟩ := RbT.get hf1 hx
      have c1' : (w1.drewN d).cell? ⟨b, o + j * 2, none⟩ = some (.string x.key) := c1
      have c2' : (w1.drewN d).cell? ⟨b, o + j * 2 + 1, none⟩ = some (.string x.val) := c2
      have HX := Lib.hid hx
      clear hx c1 c2
      have hno : tgSmall most x = false → q = false := fun h => by
        rw [← HQ2.out, List.all_eq_false]
        exact ⟨x, List.mem_of_getElem? HX.out, by rw [h]; simp⟩
      have HNO := Lib.hid hno
      clear hno
      by_cases g1 : most < (x.key.size : Int)
      · go_wp2
        all_goals go_ret
        all_goals exact ⟨by rw [HNO.out (by rw [tgSmall, decide_eq_false (p := (x.key.size : Int) ≤ most) (by omega)]; rfl)]; rfl, below_drewN hb0 _⟩
      have e1 : decide (most < (x.key.size : Int)) = false := by simp; omega
      by_cases g2 : most < (x.val.size : Int)
      · go_wp2
        all_goals go_ret
        all_goals exact ⟨by rw [HNO.out (by rw [tgSmall, decide_eq_false (p := (x.val.size : Int) ≤ most) (by omega)]; simp)]; rfl, below_drewN hb0 _⟩
      have e2 : decide (most < (x.val.size : Int)) = false := by simp; omega
      go_wp2
      go_roundw
      case rel => exact ⟨j + 1, by omega, by go_num, by rw [take_snoc HX.out, List.all_append, HA.out]; simp [tgSmall]; omega, _, rfl⟩
      case measure => simp [intOf]; omega
    · have hlt' : decide ((j : Int) < (n : Int)) = false := by simp; omega
      go_wp2
      go_ret
      have : q = true := by
        rw [← HQ2.out]
        have h1 := HA.out
        rwa [List.take_of_length_le (by rw [HN.out]; omega)] at h1
      exact ⟨by rw [this]; rfl, below_drewN hb0 _⟩
end Go.Proofs.Ytchpekidnbdpdaa


/- Spans: bootprintkit.SmallSpan, SameSpan. -/
namespace Go.Proofs.Ytchpekidnbdpdaa
open Go.RowKit

end Go.Proofs.Ytchpekidnbdpdaa


/- Spans: the examples that each statement of layer 17 asks first. -/
namespace Go.Proofs.Ytchpekidnbdpdaa
open Go.RowKit

def oneS : Sp := ⟨1, 255, 7, 0, ⟨#[97]⟩, ⟨#[120]⟩, 1, 300, 5, true, [⟨⟨#[107]⟩, ⟨#[118]⟩⟩]⟩
theorem one_chk : spChk oneS = 0 := by decide +kernel
theorem one_err : prErr (spEnc oneS) = 0 := by decide +kernel
theorem one_sp : (prAll (spEnc oneS)).1 = oneS := by decide +kernel
theorem zero_chk : spChk zeroSp = 2 := by decide +kernel
theorem one_trc : (strOfNums (idL 1) ++ strOfNums (idL 255)) = ⟨#[48, 48, 48, 48, 48, 48, 48, 48, 48, 48, 48, 48, 48, 48, 48, 49, 48, 48, 48, 48, 48, 48, 48, 48, 48, 48, 48, 48, 48, 48, 102, 102]⟩ := by decide +kernel
def OnePost (w : World) (e : Ending) (w' : World) : Prop := ∃ A, e = .returned (spV oneS A 1 1) ∧ RbT w' w'.heap.size A oneS.tags ∧ Below w.heap.size w w'
end Go.Proofs.Ytchpekidnbdpdaa


/- Spans: 'lives' answers true. -/
namespace Go.Proofs.Ytchpekidnbdpdaa
open Go.RowKit

theorem Byt.nil : Byt [] := fun x hx => by simp at hx
theorem Byt.one {x : Int} (h0 : 0 ≤ x) (h1 : x ≤ 255) : Byt [x] := fun y hy => by simp at hy; omega
theorem pie_byt (s : ByteArray) : Byt (pie s) := (numEnc_byt _).append (nums_byt s)
theorem byt_flat {α : Type} {f : α → List Int} (l : List α) (h : ∀ x ∈ l, Byt (f x)) : Byt (l.flatMap f) := fun y hy => by
  obtain ⟨x, hx, hy⟩ := List.mem_flatMap.1 hy
  exact h x hx y hy
theorem spEnc_byt (s : Sp) : Byt (spEnc s) := by
  unfold spEnc spHead
  refine (((((byt_flat _ fun x _ => ordEnc_byt x).append ((pie_byt _).append (pie_byt _))).append (Byt.one (by omega) (by omega))).append ((numEnc_byt _).append (numEnc_byt _))).append ?_ |>.append (numEnc_byt _)).append (byt_flat _ fun t _ => (pie_byt _).append (pie_byt _))
  split
  · exact Byt.one (by omega) (by omega)
  · exact Byt.one (by omega) (by omega)
theorem one_u64 : oneS.U64 := by unfold Sp.U64 oneS; simp
theorem one_len : (spEnc oneS).length ≤ 1000 ∧ spEnc oneS ≠ [] := by decide +kernel

theorem kitSameOne {A1 A2 : Option Addr} {c1 c2 n : Nat} (w : World) (hn : n = oneS.tags.length) (h1 : RbT w w.heap.size A1 oneS.tags) (h2 : RbT w w.heap.size A2 oneS.tags) : Calls Try.prog 32 #[spV oneS A1 n c1, spV oneS A2 1 c2] w fun e w' => e = .returned (.bool true) ∧ Below w.heap.size w w' := by
  subst hn
  have h := kitSameTags (c1 := c1) (c2 := c2) (n := 1) oneS oneS.tags oneS.tags w h1 h2 rfl rfl (Nat.le_refl _) (by omega)
  rw [decide_eq_true rfl] at h
  exact h
end Go.Proofs.Ytchpekidnbdpdaa


/- Spans: Compare. -/
namespace Go.Proofs.Ytchpekidnbdpdaa
open Go.RowKit

set_option maxRecDepth 100000 in
set_option maxHeartbeats 8000000 in
theorem spCompare {A1 A2 : Option Addr} {c1 c2 n m B : Nat} (a b : Sp) (w : World) (hf : RbT w B A1 a.tags) (hg : RbT w B A2 b.tags) (hn : a.tags.length = n) (hm : b.tags.length = m) (hB : B ≤ w.heap.size) (hnl : n ≤ 9223372036854775807) (hml : m ≤ 9223372036854775807) :
    Calls Try.prog 38 #[spV a A1 n c1, spV b A2 m c2] w fun e w' => e = .returned (.int .i64 (spCmp a b)) ∧ Below w.heap.size w w' := by
  have hb0 : Below w.heap.size w ((w.alloc (.cells (spC a A1 n c1) 32)).alloc (.cells (spC b A2 m c2) 32)) := ((Below.refl _ w).alloc (Nat.le_refl _) _).alloc (by simp) _
  have hff := Rd.below hf (hb0.mono hB)
  have hgg := Rd.below hg (hb0.mono hB)
  have bk1 := (Bk.new w 32 (spC a A1 n c1)).alloc (.cells (spC b A2 m c2) 32)
  have bk2 := Bk.new (w.alloc (.cells (spC a A1 n c1) 32)) 32 (spC b A2 m c2)
  rw [World.size_alloc] at bk2
  have hs1 : ((w.alloc (.cells (spC a A1 n c1) 32)).alloc (.cells (spC b A2 m c2) 32)).heap.size = w.heap.size + 2 := by simp
  obtain ⟨W, hW⟩ : ∃ W, (w.alloc (.cells (spC a A1 n c1) 32)).alloc (.cells (spC b A2 m c2) 32) = W := ⟨_, rfl⟩
  rw [hW] at hb0 hff hgg bk1 bk2 hs1
  have HW := Lib.hid hW
  obtain ⟨g, hgq⟩ : ∃ g, w.heap.size = g := ⟨_, rfl⟩
  rw [hgq] at bk1 bk2
  have HG := Lib.hid hgq
  have bd1 := bk1.drew
  have bd2 := bk2.drew
  have fd := Rd.drew hff
  have gd := Rd.drew hgg
  have hbd : Below w.heap.size w W.drew := below_drewN hb0 1
  have hBW : B ≤ W.drew.heap.size := by show B ≤ W.heap.size; omega
  obtain ⟨fa, hfa⟩ : ∃ fa : Int, (if a.fails = true then 1 else 0) = fa := ⟨_, rfl⟩
  obtain ⟨fb, hfb⟩ : ∃ fb : Int, (if b.fails = true then 1 else 0) = fb := ⟨_, rfl⟩
  have hT1 := fun W => spTruth W a.fails
  rw [hfa] at hT1
  have hT2 := fun W => spTruth W b.fails
  rw [hfb] at hT2
  have hres : spCmp a b = orL [cmpTr a.hi a.lo b.hi b.lo, cmpI a.id b.id, cmpI a.parent b.parent, cmpI a.start b.start, cmpI a.length b.length, cmpS a.service b.service, cmpS a.name b.name, cmpI a.kind b.kind, cmpI fa fb, cmpTL a.tags b.tags] := by rw [spCmp, hfa, hfb]
  rw [hres]
  clear hres hfa hfb
  have HN := Lib.hid hn
  have HM := Lib.hid hm
  clear hW hgq hf hg hn hm hb0 hff hgg bk1 bk2 hs1
  go_enter Try.func38, Try.ntmps38
  go_upto_region 1 with fail
  rw [HW.out, HG.out]
  go_region_held3 (fun w' => (w'.cell? ⟨g, 0, none⟩ = some (.int .u64 a.hi) ∧ w'.cell? ⟨g, 1, none⟩ = some (.int .u64 a.lo) ∧ w'.cell? ⟨g, 2, none⟩ = some (.int .u64 a.id) ∧ w'.cell? ⟨g, 3, none⟩ = some (.int .u64 a.parent) ∧ w'.cell? ⟨g, 4, none⟩ = some (.string a.service) ∧ w'.cell? ⟨g, 5, none⟩ = some (.string a.name) ∧ w'.cell? ⟨g, 6, none⟩ = some (.int .i64 a.kind) ∧ w'.cell? ⟨g, 7, none⟩ = some (.int .i64 a.start) ∧ w'.cell? ⟨g, 8, none⟩ = some (.int .i64 a.length) ∧ w'.cell? ⟨g, 9, none⟩ = some (.bool a.fails) ∧ w'.cell? ⟨g, 10, none⟩ = some (.slice A1 n c1)) ∧ (w'.cell? ⟨g + 1, 0, none⟩ = some (.int .u64 b.hi) ∧ w'.cell? ⟨g + 1, 1, none⟩ = some (.int .u64 b.lo) ∧ w'.cell? ⟨g + 1, 2, none⟩ = some (.int .u64 b.id) ∧ w'.cell? ⟨g + 1, 3, none⟩ = some (.int .u64 b.parent) ∧ w'.cell? ⟨g + 1, 4, none⟩ = some (.string b.service) ∧ w'.cell? ⟨g + 1, 5, none⟩ = some (.string b.name) ∧ w'.cell? ⟨g + 1, 6, none⟩ = some (.int .i64 b.kind) ∧ w'.cell? ⟨g + 1, 7, none⟩ = some (.int .i64 b.start) ∧ w'.cell? ⟨g + 1, 8, none⟩ = some (.int .i64 b.length) ∧ w'.cell? ⟨g + 1, 9, none⟩ = some (.bool b.fails) ∧ w'.cell? ⟨g + 1, 10, none⟩ = some (.slice A2 m c2)))
    (exact ⟨cells11 (by assumption), cells11 (by assumption)⟩)
    (first
      | (go_at_call 58
         refine (spCmpTraces a.hi a.lo b.hi b.lo W.drew).mono ?_
         rintro e w5 ⟨rfl, hb5⟩
         have be1 := bd1.below hb5 bd1.lt
         have be2 := bd2.below hb5 bd2.lt
         have fe := Rd.below fd (hb5.mono hBW)
         have ge := Rd.below gd (hb5.mono hBW)
         have hbe := hbd.trans (hb5.mono hbd.size)
         have hBe := Nat.le_trans hBW hb5.size)
      | (go_at_call 37
         refine (cmpU _ _ _).mono ?_
         rintro e w' ⟨rfl, hw⟩
         rw [hw]
         clear hw w')
      | (go_at_call 59
         refine (cmpJ _ _ _).mono ?_
         rintro e w' ⟨rfl, hw⟩
         rw [hw]
         clear hw w')
      | (go_at_call 60
         refine (cmpStr _ _ _).mono ?_
         rintro e w' ⟨rfl, hw⟩
         rw [hw]
         clear hw w')
      | (go_at_call 61
         refine (cmpN' _ _ _).mono ?_
         rintro e w' ⟨rfl, hw⟩
         rw [hw]
         clear hw w')
      | (go_at_call_of 62 (Value.bool a.fails)
         refine (hT1 _).mono ?_
         rintro e w' ⟨rfl, hw⟩
         rw [hw]
         clear hw w')
      | (go_at_call_of 62 (Value.bool b.fails)
         refine (hT2 _).mono ?_
         rintro e w' ⟨rfl, hw⟩
         rw [hw]
         clear hw w')
      | (go_at_call 63
         refine (spCmpTL w5 fe ge HN.out HM.out hBe hnl hml).mono ?_
         rintro e w6 ⟨rfl, hb6⟩
         have bf1 := be1.below hb6 be1.lt
         have bf2 := be2.below hb6 be2.lt
         have hbf := hbe.trans (hb6.mono hbe.size)
         have hor := cmpOr (l := [cmpTr a.hi a.lo b.hi b.lo, cmpI a.id b.id, cmpI a.parent b.parent, cmpI a.start b.start, cmpI a.length b.length, cmpS a.service b.service, cmpS a.name b.name, cmpI a.kind b.kind, cmpI fa fb, cmpTL a.tags b.tags]) (n := 10) _ rfl (by decide) (Bk.new w6 3 _)
         have hbz := hbf.alloc hbf.size (.cells #[.int .i64 (cmpTr a.hi a.lo b.hi b.lo), .int .i64 (cmpI a.id b.id), .int .i64 (cmpI a.parent b.parent), .int .i64 (cmpI a.start b.start), .int .i64 (cmpI a.length b.length), .int .i64 (cmpS a.service b.service), .int .i64 (cmpS a.name b.name), .int .i64 (cmpI a.kind b.kind), .int .i64 (cmpI fa fb), .int .i64 (cmpTL a.tags b.tags)] 3)
         have bg1 := bf1.alloc (.cells #[.int .i64 (cmpTr a.hi a.lo b.hi b.lo), .int .i64 (cmpI a.id b.id), .int .i64 (cmpI a.parent b.parent), .int .i64 (cmpI a.start b.start), .int .i64 (cmpI a.length b.length), .int .i64 (cmpS a.service b.service), .int .i64 (cmpS a.name b.name), .int .i64 (cmpI a.kind b.kind), .int .i64 (cmpI fa fb), .int .i64 (cmpTL a.tags b.tags)] 3)
         have bg2 := bf2.alloc (.cells #[.int .i64 (cmpTr a.hi a.lo b.hi b.lo), .int .i64 (cmpI a.id b.id), .int .i64 (cmpI a.parent b.parent), .int .i64 (cmpI a.start b.start), .int .i64 (cmpI a.length b.length), .int .i64 (cmpS a.service b.service), .int .i64 (cmpS a.name b.name), .int .i64 (cmpI a.kind b.kind), .int .i64 (cmpI fa fb), .int .i64 (cmpTL a.tags b.tags)] 3))
      | (go_at_call 36
         refine hor.mono ?_
         rintro e w' ⟨rfl, hw⟩
         rw [hw]
         clear hw w')
      | fail)
  all_goals
    go_wp2
    go_ret
    exact ⟨rfl, hbz⟩
end Go.Proofs.Ytchpekidnbdpdaa


/- What a copy of a span is. -/
namespace Go.Proofs.Ytchpekidnbdpdaa
open Go.RowKit

/-- Copy hands back the same span, its tags in memory of its own. -/
def CopyPost (w : World) (s : Sp) (n : Nat) (A : Option Addr) (e : Ending) (w' : World) : Prop :=
  ∃ A' c', e = .returned (.agg (spC s A' n c')) ∧ RbT w' w'.heap.size A' s.tags ∧ Below w.heap.size w w' ∧ n ≤ c' ∧ (∀ a, A' = some a → w.heap.size ≤ a.block) ∧ (A' = none → A = none ∧ n = 0 ∧ c' = 0)

@[go_sem] theorem nil_eq_tags (W : World) (a : Option Addr) (n c n' c' : Nat) : (binOp .eql 30 (.slice a n c) (.slice none n' c')).run Try.prog W = .ok (.bool a.isNone) W :=
  Lib.run_eql_slice_nil W _ _ a n c n' c' Try.underlying30
theorem wpList_appTg (w : World) {ops : Array Oper} {rest : List Oper} {o : Oper} {a : Act} {Q : Exit → Act → World → Prop} (hgd : o.guard = none) (s x : Operand)
    (ho : o.op = .call { callee := .builtin .append, args := #[s, x], argTypes := #[30, 30] })
    (base : Nat) (v : Value) (n : Nat) (l : List Tg) (hs : a.eval s = v) (hown : w.ownsRow base 80 2 v n (tgs l))
    (B : Nat) (A : Option Addr) (m c : Nat) (news : List Tg) (hx : a.eval x = .slice A m c) (hl : news.length = m) (hr : RbT w B A news)
    (hbytes : n + m ≤ 4398046511104) (hbase : base ≤ w.heap.size)
    (h : ∀ A' c' w', App base 80 2 w v w' (.slice A' (n + m) c') (n + m) (tgs (l ++ news)) → (A' = none → v = .slice none 0 0 ∧ m = 0) → wpList Try.prog ops Q rest (a.put o.dst (.slice A' (n + m) c')) w') :
    wpList Try.prog ops Q (o :: rest) a w :=
  wpList_plain hgd fun _ hK => wp_appT w s x ho base v n l hs hown B A m c news hx hl hr hbytes hbase fun A' c' w' h1 h2 => hK _ _ (h A' c' w' h1 h2)

theorem tags_nil {w : World} {B : Nat} {l : List Tg} (h : RbT w B none l) : l = [] := by
  cases l with
  | nil => rfl
  | cons x l =>
    obtain ⟨b, o, e, _⟩ := h (by intro e; have := tgs_length (x :: l); rw [e] at this; simp at this)
    cases e
theorem grown_setCell (W : World) (b o : Nat) (v : Value) : W.grownBy (W.setCell ⟨b, o, none⟩ v) (some b) :=
  ⟨rfl, rfl, rfl, by simp, fun i _ hne => Below.heap_setCell W ⟨b, o, none⟩ v i (fun e => hne (by rw [e]))⟩

end Go.Proofs.Ytchpekidnbdpdaa


/- Rows of spans of the call's own; a span laid into one. -/
namespace Go.Proofs.Ytchpekidnbdpdaa
open Go.RowKit
attribute [local go_sem ↓] loadK_shut
attribute [local go_sem ↓] appK_shut

def sps (l : List El) : List Sp := l.map (·.s)
theorem sps_length (l : List El) : (sps l).length = l.length := by simp [sps]
theorem sps_get {l : List El} {i : Nat} {e : El} (h : l[i]? = some e) : (sps l)[i]? = some e.s := by simp [sps, h]
/-- A row of spans that is the walk's own; their tags lie elsewhere. -/
structure RowS (w : World) (base : Nat) (v : Value) (n : Nat) (l : List El) : Prop where
  own : w.ownsRow base 32 11 v n (els l)
  len : l.length = n
  ok : ∀ e ∈ l, ElOk w w.heap.size e
  far : ∀ e ∈ l, e.s.tags ≠ [] → ∀ a, e.A = some a → v.ownBlock ≠ some a.block

theorem spinfo : (Try.prog.info? 32).map (fun i => (i.zero, i.size, i.bytes)) = some (some (.agg zspC), 11, 120) := by kernel_rfl
/-- append of spans. -/
theorem wpList_appS (w : World) {ops : Array Oper} {rest : List Oper} {o : Oper} {a : Act} {Q : Exit → Act → World → Prop} (hgd : o.guard = none) (s x : Operand)
    (ho : o.op = .call { callee := .builtin .append, args := #[s, x], argTypes := #[34, 34] })
    (base : Nat) (v : Value) (n : Nat) (l : List El) (hs : a.eval s = v) (hown : w.ownsRow base 32 11 v n (els l))
    (B : Nat) (A : Option Addr) (m c : Nat) (news : List El) (hx : a.eval x = .slice A m c) (hl : news.length = m) (hr : Rd w B A (els news))
    (hbytes : n + m ≤ 1048576) (hbase : base ≤ w.heap.size)
    (h : ∀ A' c' w', App base 32 11 w v w' (.slice A' (n + m) c') (n + m) (els (l ++ news)) → (A' = none → v = .slice none 0 0 ∧ m = 0) → wpList Try.prog ops Q rest (a.put o.dst (.slice A' (n + m) c')) w') :
    wpList Try.prog ops Q (o :: rest) a w := by
  obtain ⟨i0, hi0, hz0, hz1, hz2⟩ := info_parts spinfo
  refine wpList_app w hgd s x _ ho base 32 i0 _ 11 120 Try.underlying34 hi0 hz0 hz1 hz2 rfl (by omega) v n (els l) hs hown B A m c (els news) hx (by rw [els_length]; omega) hr (els_one news) (by simp only [maxLen]; omega) (by omega) hbase ?_
  intro A' c' w' h1 h2 h3 h4
  rw [← els_append] at h1
  exact h A' c' w' ((App.refl hown).step h1 h2 h3) h4

theorem RowS.app {w w' : World} {base j : Nat} {v v' : Value} {l es : List El} (h : RowS w base v j l) (hap : App base 32 11 w v w' v' (j + es.length) (els (l ++ es)))
    (hes : ∀ e ∈ es, ElOk w w.heap.size e) (hfe : ∀ e ∈ es, e.s.tags ≠ [] → ∀ a, e.A = some a → v.ownBlock ≠ some a.block) : RowS w' base v' (j + es.length) (l ++ es) := by
  have hall : ∀ e ∈ l ++ es, ElOk w w.heap.size e ∧ (e.s.tags ≠ [] → ∀ a, e.A = some a → v.ownBlock ≠ some a.block) := fun e he => by
    rcases List.mem_append.1 he with he | he
    · exact ⟨h.ok e he, h.far e he⟩
    · exact ⟨hes e he, hfe e he⟩
  refine ⟨hap.own, by simp [h.len], fun e he => ?_, fun e he ht a ha => ?_⟩
  · obtain ⟨h1, h2⟩ := hall e he
    refine ⟨?_, h1.len, h1.max⟩
    by_cases ht : e.s.tags = []
    · rw [ht]
      exact Rd.nil
    · exact h1.rd.grownS hap.grown fun a ha => h2 ht a ha
  · obtain ⟨h1, h2⟩ := hall e he
    rcases hap.block with hb | ⟨k, hb, hk⟩
    · rw [hb]
      exact h2 ht a ha
    · rw [hb]
      intro e1
      have e2 := Option.some.inj e1
      obtain ⟨b, o, hA, hlt, _⟩ := h1.rd (by intro e0; have := tgs_length e.s.tags; rw [e0] at this; exact ht (List.eq_nil_of_length_eq_zero (by simp at this; omega)))
      rw [ha] at hA
      have e3 := Option.some.inj hA
      subst e3
      simp only at e2
      omega
theorem RowS.bS {w w' : World} {base n : Nat} {v : Value} {l : List El} (h : RowS w base v n l) (hb : Below w.heap.size w w') : RowS w' base v n l :=
  ⟨((App.refl h.own).later hb).own, h.len, fun e he => ((h.ok e he).below hb).more hb.size, h.far⟩
theorem RowS.own_lt {w : World} {base n : Nat} {v : Value} {l : List El} (h : RowS w base v n l) : ∀ k, v.ownBlock = some k → k < w.heap.size ∧ base ≤ k := fun k hk => by
  rcases h.own.2 with ⟨h1, _⟩ | ⟨g, cap, cur, h1, hbase, hb, _⟩
  · rw [h1] at hk
    cases hk
  · rw [h1] at hk
    have e := Option.some.inj hk
    simp only at e
    subst e
    exact ⟨(Array.getElem?_eq_some_iff.1 hb).1, hbase⟩
theorem RowS.nil (w : World) (base : Nat) : RowS w base (.slice none 0 0) 0 [] := ⟨World.ownsRow_nil _ _ _ _, rfl, fun _ h => absurd h (by simp), fun _ h => absurd h (by simp)⟩
theorem RowS.rbs {w : World} {base n c : Nat} {A : Option Addr} {l : List El} (h : RowS w base (.slice A n c) n l) : RbS w w.heap.size A l := ⟨Rd.of_own h.own, h.ok⟩
theorem sps_append (a b : List El) : sps (a ++ b) = sps a ++ sps b := by simp [sps]
theorem els_single (e : El) : els [e] = elC e := by simp [els]
theorem rd_span {w : World} {g : Nat} (hg : w.heap.size = g) (e : El) : Rd (w.alloc (.cells (spC e.s e.A e.n e.c) 32)) (g + 1) (some ⟨g, 0, none⟩) (els [e]) := by
  rw [els_single]
  exact Rd.lit' hg

/-- A slice of spans of the call's own, in the order l tells. -/
def OutPost (w : World) (n : Nat) (ss : List Sp) (e : Ending) (w' : World) : Prop :=
  ∃ A' c' l', e = .returned (.slice A' n c') ∧ sps l' = ss ∧ RowS w' w.heap.size (.slice A' n c') n l' ∧ Below w.heap.size w w'
/-- Where a part of a row of spans begins. -/
def cutA (a : Option Addr) (m k s : Nat) : Option Addr := if m = k then a else a.map (·.add (k * s))
theorem sliced_s (a : Option Addr) (k h m s : Nat) : sliced a k h m s = .slice (cutA a m k s) (h - k) (m - k) := rfl
theorem sliced_s0 (a : Option Addr) (h m s : Nat) : sliced a 0 h m s = .slice a h m := by
  simp only [sliced, Nat.zero_mul, Nat.sub_zero]
  split
  · rfl
  · cases a <;> rfl
theorem own_take {w : World} {base n c k size : Nat} {e : TypeId} {A : Option Addr} {xs : List Value} (h : w.ownsRow base e size (.slice A n c) n xs) (hk : k ≤ n) : w.ownsRow base e size (.slice A k c) k (xs.take (k * size)) := by
  refine ⟨by rw [List.length_take, h.1]; exact Nat.min_eq_left (Nat.mul_le_mul_right size hk), ?_⟩
  rcases h.2 with ⟨h1, h2⟩ | ⟨g, cap, cur, h1, hb, hg, hn, hc, hs, ht⟩
  · injection h1 with e1 _ e3
    subst e1 e3 h2
    obtain rfl : k = 0 := by omega
    exact .inl ⟨rfl, rfl⟩
  · injection h1 with e1 _ e3
    subst e1 e3
    refine .inr ⟨g, c, cur, rfl, hb, hg, by omega, hc, hs, ?_⟩
    rw [← ht, List.take_take, Nat.min_eq_left (Nat.mul_le_mul_right size hk)]
theorem RowS.take {w : World} {base n c k : Nat} {A : Option Addr} {l : List El} (h : RowS w base (.slice A n c) n l) (hk : k ≤ n) : RowS w base (.slice A k c) k (l.take k) := by
  have h1 := own_take h.own hk
  rw [els_take] at h1
  exact ⟨h1, by rw [List.length_take, h.len]; omega, fun e he => h.ok e (List.mem_of_mem_take he), fun e he ht a ha => by
    have := h.far e (List.mem_of_mem_take he) ht a ha
    cases A with
    | none => intro e1; cases e1
    | some q => exact this⟩
theorem Rd.dropS {w : World} {B k cap : Nat} {A : Option Addr} {l : List El} (h : Rd w B A (els l)) (hc : l.length ≤ cap) : Rd w B (cutA A cap k 11) (els (l.drop k)) := by
  unfold cutA
  rw [← els_drop]
  have h1 := Rd.drop (k := k * 11) (cap := cap * 11) h (by rw [els_length]; omega)
  by_cases hk : cap = k
  · rw [if_pos hk]
    rwa [if_pos (by omega)] at h1
  · rw [if_neg hk]
    rwa [if_neg (by omega)] at h1
theorem RowS.drewN {w : World} {base n : Nat} {v : Value} {l : List El} (h : RowS w base v n l) (k : Nat) : RowS (w.drewN k) base v n l := h.bS (below_drewN (Below.refl _ _) k)
theorem RowS.cap {w : World} {base n c : Nat} {A : Option Addr} {l : List El} (h : RowS w base (.slice A n c) n l) : n ≤ c := by
  rcases h.own.2 with ⟨h1, h2⟩ | ⟨g, cap, cur, h1, _, _, hn, _⟩
  · omega
  · injection h1 with _ _ e3
    omega
theorem run_appS (w : World) (base : Nat) (v : Value) (n : Nat) (l : List El) (hown : w.ownsRow base 32 11 v n (els l))
    (B : Nat) (A : Option Addr) (m c : Nat) (news : List El) (hl : news.length = m) (hr : Rd w B A (els news)) (hbytes : n + m ≤ 1048576) (hbase : base ≤ w.heap.size) :
    ∃ A' c' w', (appK #[34, 34] 34 #[v, .slice A m c]).run Try.prog w = .ok (.slice A' (n + m) c') w' ∧ App base 32 11 w v w' (.slice A' (n + m) c') (n + m) (els (l ++ news)) := by
  obtain ⟨i0, hi0, hz0, hz1, hz2⟩ := info_parts spinfo
  obtain ⟨v', w', hrun, h2, h3, h4, ⟨A', c', rfl⟩, h6⟩ := run_app (P := Try.prog) w base 34 34 32 i0 _ 11 120 Try.underlying34 hi0 hz0 hz1 hz2 rfl (by omega) v n (els l) hown B A m c (els news) (by rw [els_length, hl]) hr (els_one news) (by simp only [maxLen]; omega) (by omega) hbase
  rw [← els_append] at h2
  exact ⟨A', c', w', hrun, (App.refl hown).step h2 h3 h4⟩
/-- A span beside a row. -/
def OkF (w : World) (v : Value) (e : El) : Prop := ElOk w w.heap.size e ∧ (e.s.tags ≠ [] → ∀ a, e.A = some a → v.ownBlock ≠ some a.block)
theorem OkF.app {w w' : World} {base n : Nat} {v v' : Value} {xs : List Value} {e : El} (h : OkF w v e) (hap : App base 32 11 w v w' v' n xs) : OkF w' v' e := by
  obtain ⟨h1, h2⟩ := h
  refine ⟨⟨?_, h1.len, h1.max⟩, fun ht a ha => ?_⟩
  · by_cases ht : e.s.tags = []
    · rw [ht]
      exact Rd.nil
    · exact h1.rd.grownS hap.grown fun a ha => h2 ht a ha
  · rcases hap.block with hb | ⟨k, hb, hk⟩
    · rw [hb]
      exact h2 ht a ha
    · rw [hb]
      intro e1
      have e2 := Option.some.inj e1
      obtain ⟨b, o, hA, hlt, _⟩ := h1.rd (by intro e0; have := tgs_length e.s.tags; rw [e0] at this; exact ht (List.eq_nil_of_length_eq_zero (by simp at this; omega)))
      rw [ha] at hA
      have e3 := Option.some.inj hA
      subst e3
      simp only at e2
      omega
/-- One span laid into a row at k, what lay behind it being put back. -/
theorem insRow {base lo j k c c3 : Nat} {A A3 : Option Addr} {l : List El} {e : El} (W3 W4 : World) (hrow : RowS W3 base (.slice A j c) j l) (hk : k ≤ j) (hj : j ≤ 100000)
    (hA3 : W3.ownsRow lo 32 11 (.slice A3 (j - k) c3) (j - k) (els (l.drop k))) (hne : ∀ a, A3 = some a → (Value.slice A j c).ownBlock ≠ some a.block) (hbase : base ≤ W3.heap.size)
    (hb4 : Below W3.heap.size W3 W4) (hek : ElOk W4 W4.heap.size e) (hef : ∀ a, e.A = some a → W3.heap.size ≤ a.block) :
    ∃ A5 c5 w5 A6 c6 w6, (appK #[34, 34] 34 #[.slice A k c, .slice (some ⟨W4.heap.size, 0, none⟩) 1 1]).run Try.prog (W4.alloc (.cells (spC e.s e.A e.n e.c) 32)) = .ok (.slice A5 (k + 1) c5) w5 ∧
      (appK #[34, 34] 34 #[.slice A5 (k + 1) c5, .slice A3 (j - k) c3]).run Try.prog w5 = .ok (.slice A6 (j + 1) c6) w6 ∧ RowS w6 base (.slice A6 (j + 1) c6) (j + 1) (l.take k ++ e :: l.drop k) ∧ Below base W3 w6 := by
  have hb5 : Below W3.heap.size W3 (W4.alloc (.cells (spC e.s e.A e.n e.c) 32)) := hb4.alloc hb4.size _
  have hrd : Rd (W4.alloc (.cells (spC e.s e.A e.n e.c) 32)) (W4.heap.size + 1) (some ⟨W4.heap.size, 0, none⟩) (els [e]) := rd_span rfl e
  have hek5 : ElOk (W4.alloc (.cells (spC e.s e.A e.n e.c) 32)) (W4.alloc (.cells (spC e.s e.A e.n e.c) 32)).heap.size e :=
    (hek.below ((Below.refl _ W4).alloc (Nat.le_refl _) _)).more (by simp)
  obtain ⟨W5, hW5⟩ : ∃ W5, W4.alloc (.cells (spC e.s e.A e.n e.c) 32) = W5 := ⟨_, rfl⟩
  rw [hW5] at hb5 hrd hek5 ⊢
  have hrow5 := hrow.bS hb5
  have hob : (Value.slice A k c).ownBlock = (Value.slice A j c).ownBlock := by cases A <;> rfl
  have hlt := hrow.own_lt
  have hF : ∀ x ∈ e :: l, OkF W5 (.slice A k c) x := fun x hx => by
    rcases List.mem_cons.1 hx with rfl | hx
    · refine ⟨hek5, fun _ a ha e1 => ?_⟩
      rw [hob] at e1
      have h1 := (hlt _ e1).1
      have h2 := hef a ha
      omega
    · refine ⟨hrow5.ok x hx, fun ht a ha => ?_⟩
      rw [hob]
      exact hrow5.far x hx ht a ha
  have hbW : base ≤ W5.heap.size := Nat.le_trans hbase hb5.size
  obtain ⟨A5, c5, w5, hrun5, hap5⟩ := run_appS W5 base (.slice A k c) k (l.take k) (hrow5.take hk).own _ _ 1 1 [e] rfl hrd (by omega) hbW
  have hgr5 := hap5.grown
  rw [hob] at hgr5
  have hA5 := Rd.grownS (Rd.of_own ((App.refl hA3).later hb5).own) hgr5 hne
  have hl2 : (l.drop k).length = j - k := by rw [List.length_drop, hrow.len]
  obtain ⟨A6, c6, w6, hrun6, hap6⟩ := run_appS w5 base (.slice A5 (k + 1) c5) (k + 1) (l.take k ++ [e]) hap5.own _ A3 (j - k) c3 (l.drop k) hl2 hA5 (by omega) (Nat.le_trans hbW hap5.heap)
  rw [show k + 1 + (j - k) = j + 1 from by omega, List.append_assoc, List.singleton_append] at hap6
  rw [show k + 1 + (j - k) = j + 1 from by omega] at hrun6
  have hF6 : ∀ x ∈ l.take k ++ e :: l.drop k, OkF w6 (.slice A6 (j + 1) c6) x := fun x hx => by
    refine OkF.app (OkF.app (hF x ?_) hap5) hap6
    rcases List.mem_append.1 hx with hx | hx
    · exact List.mem_cons_of_mem _ (List.mem_of_mem_take hx)
    · rcases List.mem_cons.1 hx with rfl | hx
      · exact List.mem_cons_self
      · exact List.mem_cons_of_mem _ (List.mem_of_mem_drop hx)
  refine ⟨A5, c5, w5, A6, c6, w6, hrun5, hrun6, ⟨hap6.own, ?_, fun x hx => (hF6 x hx).1, fun x hx => (hF6 x hx).2⟩, ?_⟩
  · rw [List.length_append, List.length_take, List.length_cons, hl2, hrow.len]
    omega
  · have h5 : Below base W5 w5 := hap5.below hbW (fun q hq => (hlt q (by rw [← hob]; exact hq)).2)
    have h6 : Below base w5 w6 := hap6.below (Nat.le_trans hbW hap5.heap) (fun q hq => by
      rcases hap5.block with hb | ⟨r, hb, hr⟩
      · rw [hb, hob] at hq
        exact (hlt q hq).2
      · rw [hb] at hq
        have := Option.some.inj hq
        omega)
    exact ((hb5.mono hbase).trans h5).trans h6
end Go.Proofs.Ytchpekidnbdpdaa


/- Spans: bootprintkit.SameSpan of two spans that are unlike, part. -/
namespace Go.Proofs.Ytchpekidnbdpdaa
open Go.RowKit

set_option maxRecDepth 100000 in
set_option maxHeartbeats 8000000 in
theorem kitSameNeA {A1 A2 : Option Addr} {c1 c2 n m B : Nat} (a b : Sp) (w : World) (hf : RbT w B A1 a.tags) (hg : RbT w B A2 b.tags) (hn : a.tags.length = n) (hm : b.tags.length = m) (hB : B ≤ w.heap.size) (hcase : (a.hi ≠ b.hi) ∨ (a.hi = b.hi ∧ a.lo ≠ b.lo) ∨ (a.hi = b.hi ∧ a.lo = b.lo ∧ a.id ≠ b.id) ∨ (a.hi = b.hi ∧ a.lo = b.lo ∧ a.id = b.id ∧ a.parent ≠ b.parent)) (hnl : n ≤ 9223372036854775807) (hml : m ≤ 9223372036854775807) :
    Calls Try.prog 32 #[spV a A1 n c1, spV b A2 m c2] w fun e w' => e = .returned (.bool false) ∧ Below w.heap.size w w' := by
  have HCASE := Lib.hid hcase
  have hb0 : Below w.heap.size w ((w.alloc (.cells (spC a A1 n c1) 32)).alloc (.cells (spC b A2 m c2) 32)) := ((Below.refl _ w).alloc (Nat.le_refl _) _).alloc (by simp) _
  have bk1 := (Bk.new w 32 (spC a A1 n c1)).alloc (.cells (spC b A2 m c2) 32)
  have bk2 := Bk.new (w.alloc (.cells (spC a A1 n c1) 32)) 32 (spC b A2 m c2)
  rw [World.size_alloc] at bk2
  obtain ⟨w1, hw1⟩ : ∃ w1, ((w.alloc (.cells (spC a A1 n c1) 32)).alloc (.cells (spC b A2 m c2) 32)) = w1 := ⟨_, rfl⟩
  rw [hw1] at hb0 bk1 bk2
  have HW := Lib.hid hw1
  obtain ⟨g, hgq⟩ : ∃ g, w.heap.size = g := ⟨_, rfl⟩
  rw [hgq] at bk1 bk2
  have HG := Lib.hid hgq
  have kp0 : w1.cell? ⟨g, 0, none⟩ = some (.int .u64 a.hi) := bk1.cell 0
  have kp1 : w1.cell? ⟨g, 1, none⟩ = some (.int .u64 a.lo) := bk1.cell 1
  have kp2 : w1.cell? ⟨g, 2, none⟩ = some (.int .u64 a.id) := bk1.cell 2
  have kp3 : w1.cell? ⟨g, 3, none⟩ = some (.int .u64 a.parent) := bk1.cell 3
  have kp4 : w1.cell? ⟨g, 4, none⟩ = some (.string a.service) := bk1.cell 4
  have kp5 : w1.cell? ⟨g, 5, none⟩ = some (.string a.name) := bk1.cell 5
  have kp6 : w1.cell? ⟨g, 6, none⟩ = some (.int .i64 a.kind) := bk1.cell 6
  have kp7 : w1.cell? ⟨g, 7, none⟩ = some (.int .i64 a.start) := bk1.cell 7
  have kp8 : w1.cell? ⟨g, 8, none⟩ = some (.int .i64 a.length) := bk1.cell 8
  have kp9 : w1.cell? ⟨g, 9, none⟩ = some (.bool a.fails) := bk1.cell 9
  have kp10 : w1.cell? ⟨g, 10, none⟩ = some (.slice A1 n c1) := bk1.cell 10
  have kq0 : w1.cell? ⟨g + 1, 0, none⟩ = some (.int .u64 b.hi) := bk2.cell 0
  have kq1 : w1.cell? ⟨g + 1, 1, none⟩ = some (.int .u64 b.lo) := bk2.cell 1
  have kq2 : w1.cell? ⟨g + 1, 2, none⟩ = some (.int .u64 b.id) := bk2.cell 2
  have kq3 : w1.cell? ⟨g + 1, 3, none⟩ = some (.int .u64 b.parent) := bk2.cell 3
  have kq4 : w1.cell? ⟨g + 1, 4, none⟩ = some (.string b.service) := bk2.cell 4
  have kq5 : w1.cell? ⟨g + 1, 5, none⟩ = some (.string b.name) := bk2.cell 5
  have kq6 : w1.cell? ⟨g + 1, 6, none⟩ = some (.int .i64 b.kind) := bk2.cell 6
  have kq7 : w1.cell? ⟨g + 1, 7, none⟩ = some (.int .i64 b.start) := bk2.cell 7
  have kq8 : w1.cell? ⟨g + 1, 8, none⟩ = some (.int .i64 b.length) := bk2.cell 8
  have kq9 : w1.cell? ⟨g + 1, 9, none⟩ = some (.bool b.fails) := bk2.cell 9
  have kq10 : w1.cell? ⟨g + 1, 10, none⟩ = some (.slice A2 m c2) := bk2.cell 10
  clear hw1 bk1 bk2 hgq hf hg hn hm hcase
  go_enter Try.func32, Try.ntmps32
  go_upto_region 1 with fail
  rw [HW.out, HG.out]
  have hcase := HCASE.out
  clear HCASE
  rcases hcase with x1 | ⟨x1, x2⟩ | ⟨x1, x2, x3⟩ | ⟨x1, x2, x3, x4⟩
  · have d : ((a.hi : Int) != (b.hi : Int)) = true := by rw [bne_iff_ne]; omega
    have d' : ((a.hi : Int) == (b.hi : Int)) = false := by rw [beq_eq_false_iff_ne]; omega
    go_wp2
    go_ret
    exact ⟨rfl, hb0⟩
  · have d : ((a.lo : Int) != (b.lo : Int)) = true := by rw [bne_iff_ne]; omega
    have d' : ((a.lo : Int) == (b.lo : Int)) = false := by rw [beq_eq_false_iff_ne]; omega
    go_wp2
    go_ret
    exact ⟨rfl, hb0⟩
  · have d : ((a.id : Int) != (b.id : Int)) = true := by rw [bne_iff_ne]; omega
    have d' : ((a.id : Int) == (b.id : Int)) = false := by rw [beq_eq_false_iff_ne]; omega
    go_wp2
    go_ret
    exact ⟨rfl, hb0⟩
  · have d : ((a.parent : Int) != (b.parent : Int)) = true := by rw [bne_iff_ne]; omega
    have d' : ((a.parent : Int) == (b.parent : Int)) = false := by rw [beq_eq_false_iff_ne]; omega
    go_wp2
    go_ret
    exact ⟨rfl, hb0⟩
end Go.Proofs.Ytchpekidnbdpdaa

