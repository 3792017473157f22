/- Texts of the proof of AdjustTreeSaid, joined: SpJ RdrE WireOrd WireRO SpR SpC SpK SpL. -/
import Derived.Test.YtchpekidnbdpdaaJAdjustTree3
import Derived.Test.YtchpekidnbdpdaaJAdjustTree2
import Derived.Test.YtchpekidnbdpdaaJAdjustTree1
/- Spans: slices.CompareFunc of tags. -/
namespace Go.Proofs.Ytchpekidnbdpdaa
open Go.RowKit

set_option maxRecDepth 100000 in
set_option maxHeartbeats 2000000 in
theorem spCmpTL {A1 A2 : Option Addr} {c1 c2 n m B : Nat} {la lb : List Tg} (w : World) (hf : RbT w B A1 la) (hg : RbT w B A2 lb) (hn : la.length = n) (hm : lb.length = m) (hB : B ≤ w.heap.size) (hnl : n ≤ 9223372036854775807) (hml : m ≤ 9223372036854775807) :
    Calls Try.prog 63 #[.slice A1 n c1, .slice A2 m c2, .func (.func 64) #[] #[]] w fun e w' => e = .returned (.int .i64 (cmpTL la lb)) ∧ Below w.heap.size w w' := by
  have HN := Lib.hid hn
  have HM := Lib.hid hm
  obtain ⟨q, hq⟩ : ∃ q, cmpTL la lb = q := ⟨_, rfl⟩
  rw [hq]
  have HQ := Lib.hid hq
  clear hn hm hq
  go_enter Try.func63, Try.ntmps63
  go_wp2
  go_loopw [13] (fun iv_ wr => ∃ j : Nat, j ≤ n ∧ j ≤ m ∧ iv_ = .int .i64 j ∧ cmpTL (la.drop j) (lb.drop j) = q ∧ Below w.heap.size w wr) (fun i _ => n - (intOf i).toNat)
  case atStart => exact ⟨0, by omega, by omega, rfl, HQ.out, Below.refl _ _⟩
  case round =>
    obtain ⟨j, hj, hjm, rfl, hd, hb⟩ := hrel
    have HD := Lib.hid hd
    have hsr := hb.size
    clear hd
    by_cases hlt : j < n
    · have hlt' : (j : Int) < (n : Int) := by omega
      obtain ⟨x, hx⟩ : ∃ x, la[j]? = some x := ⟨_, List.getElem?_eq_getElem (by rw [HN.out]; exact hlt)⟩
      obtain ⟨b1, o1, rfl, hbb1, c11, c12⟩ := RbT.get (Rd.below hf (hb.mono hB)) hx
      by_cases hlm : j < m
      · have hlm' : decide ((m : Int) ≤ (j : Int)) = false := by simp; omega
        have hlm2 : (j : Int) < (m : Int) := by omega
        obtain ⟨y, hy⟩ : ∃ y, lb[j]? = some y := ⟨_, List.getElem?_eq_getElem (by rw [HM.out]; exact hlm)⟩
        obtain ⟨b2, o2, rfl, hbb2, c21, c22⟩ := RbT.get (Rd.below hg (hb.mono hB)) hy
        have hst := cmpTL_step hx hy
        rw [HD.out] at hst
        obtain ⟨cv, hcv⟩ : ∃ cv, cmpTg x y = cv := ⟨_, rfl⟩
        have hct := fun W => spCmpTags x y W
        rw [hcv] at hst hct
        have HST := Lib.hid hst
        have HCT := Lib.hid hct
        have d21 : (wr.alloc (.cells #[.string x.key, .string x.val] 80)).cell? ⟨b2, o2 + j * 2, none⟩ = some (.string y.key) := (World.cell?_alloc_lt wr _ ⟨b2, o2 + j * 2, none⟩ (by show b2 < _; omega)).trans c21
        have d22 : (wr.alloc (.cells #[.string x.key, .string x.val] 80)).cell? ⟨b2, o2 + j * 2 + 1, none⟩ = some (.string y.val) := (World.cell?_alloc_lt wr _ ⟨b2, o2 + j * 2 + 1, none⟩ (by show b2 < _; omega)).trans c22
        have hb2 := (hb.alloc hsr (.cells #[.string x.key, .string x.val] 80)).alloc (by simp; omega) (.cells #[.string y.key, .string y.val] 80)
        have HB2 := Lib.hid hb2
        clear hst hct hcv hb2 hx hy hbb1 hbb2
        by_cases h0 : cv = 0
        · subst h0
          have hd := HST.out
          rw [if_neg (by simp)] at hd
          have HD2 := Lib.hid hd
          clear hd
          go_wp2_with (go_at_call 64; refine (HCT.out _).mono ?_; rintro en w' ⟨rfl, hb3⟩)
          go_roundw
          case rel => exact ⟨j + 1, by omega, by omega, by go_num, HD2.out.symm, HB2.out.trans (hb3.mono HB2.out.size)⟩
          case measure => simp [intOf]; omega
        · have hxb : (cv != 0) = true := by simp [h0]
          have hd := HST.out
          rw [if_pos h0] at hd
          have HD2 := Lib.hid hd
          clear hd
          go_wp2_with (go_at_call 64; refine (HCT.out _).mono ?_; rintro en w' ⟨rfl, hb3⟩)
          go_ret
          exact ⟨by rw [HD2.out]; rfl, HB2.out.trans (hb3.mono HB2.out.size)⟩
      · have hlm' : (m : Int) ≤ (j : Int) := by omega
        have hq1 : q = 1 := by
          have h1 := (List.getElem?_eq_some_iff.1 hx).1
          rw [← HD.out, show lb.drop j = [] from List.drop_eq_nil_of_le (by rw [HM.out]; omega), List.drop_eq_getElem_cons h1, cmpTL]
        have HQ1 := Lib.hid hq1
        clear hq1 hx
        go_wp2
        go_ret
        exact ⟨by rw [HQ1.out]; rfl, hb.alloc hsr _⟩
    · have hlt' : decide ((j : Int) < (n : Int)) = false := by simp; omega
      obtain rfl : j = n := by omega
      have e1 : la.drop j = [] := List.drop_eq_nil_of_le (by rw [HN.out]; omega)
      have hd := HD.out
      rw [e1] at hd
      by_cases hlm : j < m
      · have hlm2 : (j : Int) < (m : Int) := by omega
        have hq1 : q = -1 := by
          have h1 : j < lb.length := by rw [HM.out]; exact hlm
          rw [← hd, List.drop_eq_getElem_cons h1, cmpTL]
        have HQ1 := Lib.hid hq1
        clear hq1 hd e1
        go_wp2
        go_ret
        exact ⟨by rw [HQ1.out]; rfl, hb⟩
      · have hlm2 : decide ((j : Int) < (m : Int)) = false := by simp; omega
        have hq1 : q = 0 := by
          rw [← hd, List.drop_eq_nil_of_le (by rw [HM.out]; omega), cmpTL]
        have HQ1 := Lib.hid hq1
        clear hq1 hd e1
        go_wp2
        go_ret
        exact ⟨by rw [HQ1.out]; rfl, hb⟩
end Go.Proofs.Ytchpekidnbdpdaa


/- A reader's End. -/
namespace Go.Proofs.Ytchpekidnbdpdaa
open Go.RowKit
end Go.Proofs.Ytchpekidnbdpdaa


/- (wire.Ordered, wire.Piece alone) Contracts of wire's writers. -/
namespace Go.Proofs.Ytchpekidnbdpdaa
open Go.RowKit

theorem shr_byte {x : Nat} {e : Nat} (k : Nat) (h : e = 8 * k) : (x : Int) / 2 ^ e % 256 = ((x / 256 ^ k % 256 : Nat) : Int) := by
  subst h
  have e : (2 : Nat) ^ (8 * k) = 256 ^ k := by rw [Nat.pow_mul]
  rw [← e]
  simp

end Go.Proofs.Ytchpekidnbdpdaa


/- (wire.ReadOrdered alone) Contracts of wire's readers. -/
namespace Go.Proofs.Ytchpekidnbdpdaa
open Go.RowKit

/-- A byte behind a number that was moved left. -/
theorem or_byte (v : Nat) (x : Int) (hv : v < 72057594037927936) (h0 : 0 ≤ x) (h1 : x ≤ 255) : bits .or .u64 ((v : Int) * 256) x = ((v * 256 + x.toNat : Nat) : Int) := by
  rw [u64_or _ _ (by omega) (by omega) h0 (by omega)]
  have e : ((v : Int) * 256).toNat = 2 ^ 8 * v := by omega
  rw [e, ← Nat.two_pow_add_eq_or_of_lt (show x.toNat < 2 ^ 8 from by omega) v]
  omega

end Go.Proofs.Ytchpekidnbdpdaa


/- Spans: the reader that keeps the first error. -/
namespace Go.Proofs.Ytchpekidnbdpdaa
open Go.RowKit

/-- What a reader's state is: the place, the error, whether something else was bad. -/
structure RS where
  p : Nat
  e : Nat
  bad : Bool
def RS.stop (s : RS) : Bool := s.bad || decide (s.e ≠ 0)
def rEight (zs : List Int) (s : RS) : Nat × RS := if s.stop = true then (0, s) else (if (rdFix zs s.p s.e 8).1.length < 8 then 0 else ordVal (rdFix zs s.p s.e 8).1, ⟨(rdFix zs s.p s.e 8).2.1, (rdFix zs s.p s.e 8).2.2, s.bad⟩)
def rText (zs : List Int) (s : RS) : ByteArray × RS := if s.stop = true then (⟨#[]⟩, s) else (strOfNums (rdPiece zs s.p s.e).1, ⟨(rdPiece zs s.p s.e).2.1, (rdPiece zs s.p s.e).2.2, s.bad⟩)
def rOne (most : Int) (zs : List Int) (s : RS) : Int × RS := if s.stop = true then (0, s) else
  match (rdFix zs s.p s.e 1).1 with
  | [x] => (x, ⟨(rdFix zs s.p s.e 1).2.1, (rdFix zs s.p s.e 1).2.2, decide (most < x)⟩)
  | _ => (0, ⟨(rdFix zs s.p s.e 1).2.1, (rdFix zs s.p s.e 1).2.2, s.bad⟩)
def rShort (most : Nat) (zs : List Int) (s : RS) : Nat × RS := if s.stop = true then (0, s) else
  if most < (rdNum zs s.p s.e).1 then (0, ⟨(rdNum zs s.p s.e).2.1, (rdNum zs s.p s.e).2.2, true⟩) else ((rdNum zs s.p s.e).1, ⟨(rdNum zs s.p s.e).2.1, (rdNum zs s.p s.e).2.2, s.bad⟩)

/-- w' is w but for what lies in g and h. -/
structure Only2 (w w' : World) (g h : Nat) : Prop where
  os : w'.os = w.os
  tape : w'.tape = w.tape
  output : w'.output = w.output
  size : w.heap.size ≤ w'.heap.size
  block : ∀ i, i < w.heap.size → i ≠ g → i ≠ h → w'.heap[i]? = w.heap[i]?
theorem Only2.refl (w : World) (g h : Nat) : Only2 w w g h := ⟨rfl, rfl, rfl, Nat.le_refl _, fun _ _ _ _ => rfl⟩
theorem Only2.trans {a b c : World} {g h : Nat} (x : Only2 a b g h) (y : Only2 b c g h) : Only2 a c g h :=
  ⟨y.os.trans x.os, y.tape.trans x.tape, y.output.trans x.output, Nat.le_trans x.size y.size, fun i hi h1 h2 => (y.block i (Nat.lt_of_lt_of_le hi x.size) h1 h2).trans (x.block i hi h1 h2)⟩
theorem Only2.of {w w' : World} {g : Nat} (x : w.grownBy w' (some g)) (h : Nat) : Only2 w w' g h := ⟨x.os, x.tape, x.output, x.size, fun i hi h1 _ => x.block i hi (fun e => h1 (by injection e))⟩
theorem Only2.set {w w' : World} {g h : Nat} (x : Only2 w w' g h) (o : Nat) (u : Value) : Only2 w (w'.setCell ⟨h, o, none⟩ u) g h :=
  ⟨x.os, x.tape, x.output, by simpa [World.setCell] using x.size, fun i hi h1 h2 => (Below.heap_setCell w' _ u i (by rintro rfl; exact h2 rfl)).trans (x.block i hi h1 h2)⟩
theorem Only2.drewN {w w' : World} {g h : Nat} (x : Only2 w w' g h) (n : Nat) : Only2 w (w'.drewN n) g h := ⟨x.os, x.tape, x.output, x.size, x.block⟩
theorem Only2.bk {w w' : World} {g h k : Nat} {t : TypeId} {cs : Array Value} (x : Only2 w w' g h) (b : Bk w k t cs) (h1 : k ≠ g) (h2 : k ≠ h) : Bk w' k t cs := (x.block k b.lt h1 h2).trans b
theorem Only2.below {w w' : World} {g h B : Nat} (x : Only2 w w' g h) (hB : B ≤ w.heap.size) (h1 : B ≤ g) (h2 : B ≤ h) : Below B w w' := ⟨x.os, x.tape, x.output, x.size, fun i hi => x.block i (by omega) (by omega) (by omega)⟩

theorem rdFix_err (zs : List Int) (p e n : Nat) (he : e ≤ 100) : (rdFix zs p e n).2.2 ≤ 100 := by
  unfold rdFix; split
  · exact he
  · split <;> simp
theorem rdFix_byt {zs : List Int} (hz : Byt zs) (p e n : Nat) : Byt (rdFix zs p e n).1 := by
  unfold rdFix; split
  · intro x hx; simp at hx
  · split
    · intro x hx; simp at hx
    · exact (hz.drop p).take n
theorem rdPiece_byt {zs : List Int} (hz : Byt zs) (p e : Nat) : Byt (rdPiece zs p e).1 := by
  unfold rdPiece; split
  · intro x hx; simp at hx
  · split
    · intro x hx; simp at hx
    · split
      · intro x hx; simp at hx
      · split
        · intro x hx; simp at hx
        · exact (hz.drop _).take _
theorem rdPiece_err {zs : List Int} (hz : Byt zs) (p e : Nat) (he : e ≤ 100) : (rdPiece zs p e).2.2 ≤ 100 := by
  have := shortOf_le (hz.drop p)
  unfold rdPiece; split
  · exact he
  · split
    · simp only; omega
    · split
      · simp
      · split <;> simp
theorem rdNum_err {zs : List Int} (hz : Byt zs) (p e : Nat) (he : e ≤ 100) : (rdNum zs p e).2.2 ≤ 100 := by
  have := shortOf_le (hz.drop p)
  unfold rdNum; split
  · exact he
  · simp only; omega

theorem stop_false {s : RS} (h : s.stop = false) : s.e = 0 ∧ s.bad = false := by
  unfold RS.stop at h
  simp at h
  exact ⟨h.2, h.1⟩
theorem rdFix_len (zs : List Int) (p e n : Nat) : (rdFix zs p e n).1 = [] ∨ (rdFix zs p e n).1.length = n := by
  unfold rdFix
  split
  · exact .inl rfl
  · split
    · exact .inl rfl
    · right
      simp only [List.length_take, List.length_drop]
      omega

end Go.Proofs.Ytchpekidnbdpdaa


/- Spans: long, Check. -/
namespace Go.Proofs.Ytchpekidnbdpdaa
open Go.RowKit

/-- The first that p tells, or -1. -/
def idxT (p : Tg → Bool) (l : List Tg) : Int := match l.findIdx? p with | some i => (i : Int) | none => -1
theorem idxT_hit {p : Tg → Bool} {l : List Tg} {j : Nat} {x : Tg} (h : (l.take j).any p = false) (hx : l[j]? = some x) (hp : p x = true) : idxT p l = j := by
  have hj := (List.getElem?_eq_some_iff.1 hx).1
  have : l.findIdx? p = some j := by
    rw [List.findIdx?_eq_some_iff_getElem]
    refine ⟨hj, by rw [(List.getElem?_eq_some_iff.1 hx).2]; exact hp, fun i hi => ?_⟩
    have h1 := List.any_eq_false.1 h (l[i]'(by omega)) (List.mem_of_getElem? (i := i) (by rw [List.getElem?_take, if_pos hi]; exact List.getElem?_eq_getElem _))
    simpa using h1
  rw [idxT, this]
theorem idxT_none {p : Tg → Bool} {l : List Tg} (h : l.any p = false) : idxT p l = -1 := by
  have : l.findIdx? p = none := by
    rw [List.findIdx?_eq_none_iff]
    intro x hx
    have := List.any_eq_false.1 h x hx
    simpa using this
  rw [idxT, this]
theorem idxT_any (p : Tg → Bool) (l : List Tg) : decide (0 ≤ idxT p l) = l.any p := by
  by_cases h : l.any p = true
  · rw [h, decide_eq_true_iff, idxT]
    cases hf : l.findIdx? p with
    | none =>
      rw [List.findIdx?_eq_none_iff] at hf
      obtain ⟨x, hx, hp⟩ := List.any_eq_true.1 h
      rw [hf x hx] at hp
      cases hp
    | some i => simp only; omega
  · have h : l.any p = false := by simpa using h
    rw [h, idxT_none h]
    rfl

set_option maxHeartbeats 400000 in
theorem spIndexLong {A : Option Addr} {c n B : Nat} {l : List Tg} (w : World) (hf : RbT w B A l) (hn : l.length = n) (hB : B ≤ w.heap.size) (hnl : n ≤ 9223372036854775807) :
    Calls Try.prog 82 #[.slice A n c, .func (.func 73) #[] #[]] w fun e w' => e = .returned (.int .i64 (idxT tgLong l)) ∧ Below w.heap.size w w' := by
  have HN := Lib.hid hn
  obtain ⟨q, hq⟩ : ∃ q, idxT tgLong l = q := ⟨_, rfl⟩
  rw [hq]
  have HQ := Lib.hid hq
  clear hn hq
  go_enter Try.func82, Try.ntmps82
  go_wp2
  go_loopw [8] (fun iv_ wr => ∃ j : Nat, j ≤ n ∧ iv_ = .int .i64 j ∧ (l.take j).any tgLong = false ∧ Below w.heap.size w wr) (fun i _ => n - (intOf i).toNat)
  case atStart => exact ⟨0, by omega, rfl, rfl, Below.refl _ _⟩
  case round =>
    obtain ⟨j, hj, rfl, hall, hb⟩ := hrel
    have HA := Lib.hid hall
    clear hall
    by_cases hlt : j < n
    · have hlt' : (j : Int) < (n : Int) := by omega
      obtain ⟨x, hx⟩ : ∃ x, l[j]? = some x := ⟨_, List.getElem?_eq_getElem (by rw [HN.out]; exact hlt)⟩
      obtain ⟨b, o, rfl, hbb, h1, h2⟩ := RbT.get (Rd.below hf (hb.mono hB)) hx
      have HX := Lib.hid hx
      clear hx
      go_wp2_with (go_at_call 73; refine (spLong1 _ x).mono ?_; rintro e w' ⟨rfl, hb'⟩)
      · have hb2 := hb.trans (hb'.mono hb.size)
        rename_i hpx
        go_ret
        have hqt : q = (j : Int) := by
          rw [← HQ.out]
          exact idxT_hit HA.out HX.out (by first | exact hpx | simpa using hpx)
        exact ⟨by rw [hqt]; rfl, hb2⟩
      · have hb2 := hb.trans (hb'.mono hb.size)
        rename_i hpx
        go_roundw
        case rel => exact ⟨j + 1, by omega, by go_num, by rw [take_snoc HX.out, List.any_append, HA.out]; simpa using hpx, hb2⟩
        case measure => simp [intOf]; omega
    · have hlt' : decide ((j : Int) < (n : Int)) = false := by simp; omega
      go_wp2
      go_ret
      have : q = -1 := by
        rw [← HQ.out]
        have h1 := HA.out
        rw [List.take_of_length_le (by rw [HN.out]; omega)] at h1
        exact idxT_none h1
      exact ⟨by rw [this]; rfl, hb⟩

theorem spHasLong {A : Option Addr} {c n B : Nat} {l : List Tg} (w : World) (hf : RbT w B A l) (hn : l.length = n) (hB : B ≤ w.heap.size) (hnl : n ≤ 9223372036854775807) :
    Calls Try.prog 72 #[.slice A n c, .func (.func 73) #[] #[]] w fun e w' => e = .returned (.bool (l.any tgLong)) ∧ Below w.heap.size w w' := by
  have hc := spIndexLong (c := c) w hf hn hB hnl
  have ha := idxT_any tgLong l
  obtain ⟨q, hq⟩ : ∃ q, idxT tgLong l = q := ⟨_, rfl⟩
  rw [hq] at hc ha
  rw [← ha]
  have HC := Lib.hid hc
  clear hc hq ha
  go_enter Try.func72, Try.ntmps72
  go_wp2_with (go_at_call 82; refine HC.out.mono ?_; rintro e w' ⟨rfl, hb'⟩)
  go_ret
  exact ⟨rfl, hb'⟩

set_option maxHeartbeats 400000 in
theorem spLong {A : Option Addr} {c n B : Nat} (s : Sp) (w : World) (hf : RbT w B A s.tags) (hn : s.tags.length = n) (hB : B ≤ w.heap.size) (hnl : n ≤ 9223372036854775807) :
    Calls Try.prog 50 #[spV s A n c] w fun e w' => e = .returned (.bool (longB s)) ∧ Below w.heap.size w w' := by
  obtain ⟨q, hq⟩ : ∃ q, longB s = q := ⟨_, rfl⟩
  rw [hq]
  unfold longB at hq
  rw [hn] at hq
  have HQ := Lib.hid hq
  have hb0 : Below w.heap.size w (w.alloc (.cells (spC s A n c) 32)) := (Below.refl _ w).alloc (Nat.le_refl _) _
  have hf1 := Rd.alloc hf hB (.cells (spC s A n c) 32)
  clear hq
  by_cases h1 : 128 < s.service.size
  · have d1 : (128 : Int) < (s.service.size : Int) := by omega
    go_enter Try.func50, Try.ntmps50
    go_wp2
    go_ret
    have : q = true := by rw [← HQ.out]; simp [h1]
    exact ⟨by rw [this]; rfl, hb0⟩
  have d1 : decide ((128 : Int) < (s.service.size : Int)) = false := by simp; omega
  by_cases h2 : 128 < s.name.size
  · have d2 : (128 : Int) < (s.name.size : Int) := by omega
    go_enter Try.func50, Try.ntmps50
    go_wp2
    go_ret
    have : q = true := by rw [← HQ.out]; simp [h2]
    exact ⟨by rw [this]; rfl, hb0⟩
  have d2 : decide ((128 : Int) < (s.name.size : Int)) = false := by simp; omega
  by_cases h3 : 16 < n
  · have d3 : (16 : Int) < (n : Int) := by omega
    go_enter Try.func50, Try.ntmps50
    go_wp2
    go_ret
    have : q = true := by rw [← HQ.out]; simp [h3]
    exact ⟨by rw [this]; rfl, hb0⟩
  have d3 : decide ((16 : Int) < (n : Int)) = false := by simp; omega
  have hc := spHasLong (c := c) _ hf1 hn (by simp; omega) hnl
  obtain ⟨a, ha⟩ : ∃ a, s.tags.any tgLong = a := ⟨_, rfl⟩
  rw [ha] at hc
  have hqa : q = a := by rw [← HQ.out, ha]; simp [h1, h2, h3]
  have HC := Lib.hid hc
  clear hc ha
  go_enter Try.func50, Try.ntmps50
  go_wp2_with (go_at_call 72; refine HC.out.mono ?_; rintro e w' ⟨rfl, hb'⟩)
  go_ret
  exact ⟨by rw [hqa]; rfl, hb0.trans (hb'.mono (by simp))⟩
end Go.Proofs.Ytchpekidnbdpdaa


/- Spans: Check. -/
namespace Go.Proofs.Ytchpekidnbdpdaa
open Go.RowKit

theorem tagOk_at {l : List Tg} {i : Nat} {t : Tg} (h : l[i]? = some t) : tagOk l i = (nameB t.key && txtB t.val && (decide (i = 0) || match l[i - 1]? with | none => true | some u => strLt u.key t.key)) := by
  simp only [tagOk, h]
  rfl
set_option maxRecDepth 100000 in
set_option maxHeartbeats 2000000 in
/-- Check of a span that is not too long and whose head is right. -/
theorem spCheck1 {A : Option Addr} {c n B : Nat} (s : Sp) (w : World) (hf : RbT w B A s.tags) (hn : s.tags.length = n) (hB : B ≤ w.heap.size) (hnl : n ≤ 9223372036854775807) (hlong : longB s = false) (hhead : headB s = true) :
    Calls Try.prog 23 #[spV s A n c] w fun e w' => e = .returned (.int .i64 (if tagsOk s.tags n = true then 0 else 2 : Nat)) ∧ Below w.heap.size w w' := by
  have hb0 : Below w.heap.size w (w.alloc (.cells (spC s A n c) 32)) := (Below.refl _ w).alloc (Nat.le_refl _) _
  have hf1 := Rd.alloc hf hB (.cells (spC s A n c) 32)
  have bk := Bk.new w 32 (spC s A n c)
  have hs1 : (w.alloc (.cells (spC s A n c) 32)).heap.size = w.heap.size + 1 := by simp
  obtain ⟨w1, hw1⟩ : ∃ w1, w.alloc (.cells (spC s A n c) 32) = w1 := ⟨_, rfl⟩
  rw [hw1] at hb0 hf1 bk hs1
  have HW := Lib.hid hw1
  have hc := spLong (c := c) s w1 hf1 hn (by omega) hnl
  rw [hlong] at hc
  have HC := Lib.hid hc
  obtain ⟨q, hq⟩ : ∃ q, tagsOk s.tags n = q := ⟨_, rfl⟩
  rw [hq]
  have HQ := Lib.hid hq
  have HN := Lib.hid hn
  clear hw1 hc hq hn hlong
  simp only [headB, Bool.and_eq_true, Bool.or_eq_true, decide_eq_true_eq, ne_eq] at hhead
  obtain ⟨⟨⟨⟨⟨⟨⟨⟨⟨h0, h1⟩, h2⟩, h3⟩, h4⟩, h5⟩, h6⟩, h7⟩, h8⟩, h9⟩ := hhead
  have N2 := Lib.hid h2
  have N3 := Lib.hid h3
  have d1 : ((s.id : Int) != 0) = true := by rw [bne_iff_ne]; omega
  go_enter Try.func23, Try.ntmps23
  go_wp2_with fail
  rw [HW.out]
  refine HC.out.mono ?_
  rintro e w2 ⟨rfl, hb2⟩
  have hs2 := hb2.size
  have hb02 := hb0.trans (hb2.mono (by omega))
  have hf2 := (Rd.below hf1 (hb2.mono (by omega))).more (show B ≤ w2.heap.size by omega)
  have bk2 := bk.below hb2 (by omega)
  obtain ⟨g, hg⟩ : ∃ g, w.heap.size = g := ⟨_, rfl⟩
  rw [hg] at bk2 ⊢
  have k0 : w2.cell? ⟨g, 0, none⟩ = some (.int .u64 s.hi) := bk2.cell 0
  have k1 : w2.cell? ⟨g, 1, none⟩ = some (.int .u64 s.lo) := bk2.cell 1
  have k2 : w2.cell? ⟨g, 2, none⟩ = some (.int .u64 s.id) := bk2.cell 2
  have k4 : w2.cell? ⟨g, 4, none⟩ = some (.string s.service) := bk2.cell 4
  have k5 : w2.cell? ⟨g, 5, none⟩ = some (.string s.name) := bk2.cell 5
  have k6 : w2.cell? ⟨g, 6, none⟩ = some (.int .i64 s.kind) := bk2.cell 6
  have k7 : w2.cell? ⟨g, 7, none⟩ = some (.int .i64 s.start) := bk2.cell 7
  have k8 : w2.cell? ⟨g, 8, none⟩ = some (.int .i64 s.length) := bk2.cell 8
  have k10 : w2.cell? ⟨g, 10, none⟩ = some (.slice A n c) := bk2.cell 10
  clear bk hf1 hb0 HW
  have HHS := Lib.hid hs2
  have HH1 := Lib.hid hs1
  have HHB := Lib.hid hB
  have HHG := Lib.hid hg
  have HB02 := Lib.hid hb02
  have HF2 := Lib.hid hf2
  have HBK := Lib.hid bk2
  clear hs2 hs1 hB hg hb02 hf2 bk2 hf hb2 h2 h3
  have h6' : decide (s.kind ≤ 5) = true := by simpa using h5
  go_wp2_with (first
    | (go_at_call 51; refine (spName _ _).mono ?_; rintro e w' ⟨rfl, hw⟩; rw [hw]; clear hw w'; first | rw [N2.out] | rw [N3.out]))
  all_goals
    go_loopw [3, 63] (fun fv iv_ wr => ∃ j : Nat, j ≤ n ∧ iv_ = .int .i64 j ∧ fv = .bool (tagsOk s.tags j) ∧ Below w2.heap.size w2 wr) (fun _ i _ => n - (intOf i).toNat)
    case atStart => exact ⟨0, by omega, rfl, rfl, Below.refl _ _⟩
    case round =>
      obtain ⟨j, hj, rfl, rfl, hb⟩ := hrel
      obtain ⟨f, hf⟩ : ∃ f, tagsOk s.tags j = f := ⟨_, rfl⟩
      rw [hf]
      have HF := Lib.hid hf
      clear hf
      have hgl : g < w2.heap.size := by have := HHG.out; have := HHS.out; have := HH1.out; omega
      by_cases hlt : j < n
      · have hlt' : (j : Int) < (n : Int) := by omega
        obtain ⟨x, hx⟩ : ∃ x, s.tags[j]? = some x := ⟨_, List.getElem?_eq_getElem (by rw [HN.out]; exact hlt)⟩
        have hRb : Rd wr w2.heap.size A (tgs s.tags) := (Rd.more HF2.out (Nat.le_refl _)).below hb
        obtain ⟨b, o, rfl, hbb, c1, c2⟩ := RbT.get hRb hx
        have k10' : wr.cell? ⟨g, 10, none⟩ = some (.slice (some ⟨b, o, none⟩) n c) := (hb.cell (p := ⟨g, 10, none⟩) hgl).trans k10
        have HX := Lib.hid hx
        clear hx
        go_wp2_with fail
        have hsr := hb.size
        have m0 : (wr.alloc (.cells #[.string x.key, .string x.val] 80)).cell? ⟨wr.heap.size, 0, none⟩ = some (.string x.key) := (Bk.new wr 80 #[.string x.key, .string x.val]).cell 0
        have m1 : (wr.alloc (.cells #[.string x.key, .string x.val] 80)).cell? ⟨wr.heap.size, 1, none⟩ = some (.string x.val) := (Bk.new wr 80 #[.string x.key, .string x.val]).cell 1
        have k10W := (World.cell?_alloc_lt wr (.cells #[.string x.key, .string x.val] 80) ⟨g, 10, none⟩ (by simp only; omega)).trans k10'
        have hRW := Rd.alloc hRb hsr (.cells #[.string x.key, .string x.val] 80)
        have hbW := hb.alloc hsr (.cells #[.string x.key, .string x.val] 80)
        obtain ⟨W, hW⟩ : ∃ W, wr.alloc (.cells #[.string x.key, .string x.val] 80) = W := ⟨_, rfl⟩
        rw [hW] at m0 m1 k10W hRW hbW ⊢
        obtain ⟨r, hr⟩ : ∃ r, wr.heap.size = r := ⟨_, rfl⟩
        rw [hr] at m0 m1 ⊢
        have HHRW := Lib.hid hRW
        have HBW := Lib.hid hbW
        clear hW hr hsr hRW hbW hRb hb hgl
        have hstep : tagsOk s.tags (j + 1) = (f && (nameB x.key && txtB x.val && (decide (j = 0) || match s.tags[j - 1]? with | none => true | some u => strLt u.key x.key))) := by
          rw [tagsOk_succ, HF.out, tagOk_at HX.out]
        by_cases hft : f = false
        · subst hft
          have HST : Hid (tagsOk s.tags (j + 1) = false) := by rw [hstep]; rfl
          clear hstep
          go_quiet (fail)
          go_wp2
          go_roundw
          case rel => exact ⟨j + 1, by omega, by go_num, by rw [HST.out], below_drewN HBW.out _⟩
          case measure => simp [intOf]; omega
        obtain rfl : f = true := by simpa using hft
        obtain ⟨n1, hn1⟩ : ∃ n1, nameB x.key = n1 := ⟨_, rfl⟩
        have cN : ∀ W', Calls Try.prog 51 #[.string x.key] W' fun e w' => e = .returned (.bool n1) ∧ w' = W' := by intro W'; have := spName W' x.key; rwa [hn1] at this
        rw [hn1] at hstep
        clear hn1 hft
        cases n1 with
        | false =>
          have HST : Hid (tagsOk s.tags (j + 1) = false) := by rw [hstep]; rfl
          clear hstep
          go_quiet ((go_at_call 51; go_loud (exact Calls.quiet_of_same (cN _))))
          go_wp2
          go_roundw
          case rel => exact ⟨j + 1, by omega, by go_num, by rw [HST.out], below_drewN HBW.out _⟩
          case measure => simp [intOf]; omega
        | true =>
        obtain ⟨t1, ht1⟩ : ∃ t1, txtB x.val = t1 := ⟨_, rfl⟩
        have cT : ∀ W', Calls Try.prog 52 #[.string x.val] W' fun e w' => e = .returned (.bool t1) ∧ w' = W' := by intro W'; have := spText W' x.val; rwa [ht1] at this
        rw [ht1] at hstep
        clear ht1
        cases t1 with
        | false =>
          have HST : Hid (tagsOk s.tags (j + 1) = false) := by rw [hstep]; rfl
          clear hstep
          go_quiet (first
            | (go_at_call 51; go_loud (exact Calls.quiet_of_same (cN _)))
            | (go_at_call 52; go_loud (exact Calls.quiet_of_same (cT _))))
          go_wp2
          go_roundw
          case rel => exact ⟨j + 1, by omega, by go_num, by rw [HST.out], below_drewN HBW.out _⟩
          case measure => simp [intOf]; omega
        | true =>
        cases j with
        | zero =>
          have HST : Hid (tagsOk s.tags (0 + 1) = true) := by rw [hstep]; rfl
          clear hstep
          go_quiet (first
            | (go_at_call 51; go_loud (exact Calls.quiet_of_same (cN _)))
            | (go_at_call 52; go_loud (exact Calls.quiet_of_same (cT _))))
          go_wp2
          go_roundw
          case rel => exact ⟨0 + 1, by omega, by go_num, by rw [HST.out], below_drewN HBW.out _⟩
          case measure => simp [intOf]; omega
        | succ k =>
          obtain ⟨u, hu⟩ : ∃ u, s.tags[k]? = some u := ⟨_, List.getElem?_eq_getElem (by rw [HN.out]; omega)⟩
          obtain ⟨b', o', e', _, p1, _⟩ := RbT.get HHRW.out hu
          cases e'
          have e1 : (k : Int) + 1 - 1 = (k : Int) := by omega
          have e2 : ((k : Int) + 1 == 0) = false := by rw [beq_eq_false_iff_ne]; omega
          have hkn : (k : Int) < (n : Int) := by omega
          have hkn' : k < n := by omega
          have hst : tagsOk s.tags (k + 1 + 1) = strLt u.key x.key := by rw [hstep, show k + 1 - 1 = k from rfl, hu]; simp
          have HST := Lib.hid hst
          clear hst
          clear hstep hu c1 c2
          go_quiet (first
            | (go_at_call 51; go_loud (exact Calls.quiet_of_same (cN _)))
            | (go_at_call 52; go_loud (exact Calls.quiet_of_same (cT _))))
          go_wp2
          go_roundw
          case rel => exact ⟨k + 1 + 1, by omega, by go_num, by rw [HST.out]; rfl, below_drewN HBW.out _⟩
          case measure => simp [intOf]; omega
      · have hlt' : decide ((j : Int) < (n : Int)) = false := by simp; omega
        obtain rfl : j = n := by omega
        have hqf : f = q := by rw [← HF.out, HQ.out]
        subst hqf
        cases f
        · go_wp2
          go_ret
          exact ⟨rfl, HB02.out.trans (hb.mono (by have := HHS.out; have := HH1.out; omega))⟩
        · go_wp2
          go_ret
          exact ⟨rfl, HB02.out.trans (hb.mono (by have := HHS.out; have := HH1.out; omega))⟩
end Go.Proofs.Ytchpekidnbdpdaa


/- Spans: Check of a span whose head is not right; Check of any span. -/
namespace Go.Proofs.Ytchpekidnbdpdaa
open Go.RowKit

set_option maxRecDepth 100000 in
set_option maxHeartbeats 8000000 in
/-- Check of a span that is not too long and whose head is not right. -/
theorem spCheck0 {A : Option Addr} {c n B : Nat} (s : Sp) (w : World) (hf : RbT w B A s.tags) (hn : s.tags.length = n) (hB : B ≤ w.heap.size) (hnl : n ≤ 9223372036854775807) (hlong : longB s = false) (hhead : headB s = false) :
    Calls Try.prog 23 #[spV s A n c] w fun e w' => e = .returned (.int .i64 2) ∧ Below w.heap.size w w' := by
  have hb0 : Below w.heap.size w (w.alloc (.cells (spC s A n c) 32)) := (Below.refl _ w).alloc (Nat.le_refl _) _
  have hf1 := Rd.alloc hf hB (.cells (spC s A n c) 32)
  have bk := Bk.new w 32 (spC s A n c)
  have hs1 : (w.alloc (.cells (spC s A n c) 32)).heap.size = w.heap.size + 1 := by simp
  obtain ⟨w1, hw1⟩ : ∃ w1, w.alloc (.cells (spC s A n c) 32) = w1 := ⟨_, rfl⟩
  rw [hw1] at hb0 hf1 bk hs1
  have HW := Lib.hid hw1
  have hc := spLong (c := c) s w1 hf1 hn (by omega) hnl
  rw [hlong] at hc
  have HC := Lib.hid hc
  have HN := Lib.hid hn
  clear hw1 hc hn hlong
  have hcase : (s.hi = 0 ∧ s.lo = 0) ∨ ((s.hi ≠ 0 ∨ s.lo ≠ 0) ∧ (s.id = 0 ∨ s.id ≠ 0 ∧ (nameB s.service = false ∨ nameB s.service = true ∧ (nameB s.name = false ∨ nameB s.name = true ∧ (decide (0 ≤ s.kind) = false ∨ 0 ≤ s.kind ∧ (decide (s.kind ≤ 5) = false ∨ s.kind ≤ 5 ∧
      (decide (0 ≤ s.start) = false ∨ 0 ≤ s.start ∧ (decide (0 ≤ s.length) = false ∨ 0 ≤ s.length ∧ (decide (s.start ≤ 4611686018427387903) = false ∨ s.start ≤ 4611686018427387903 ∧ decide (s.length ≤ 4611686018427387903 - s.start) = false))))))))) := by
    by_cases a0 : s.hi = 0 ∧ s.lo = 0
    · exact .inl a0
    refine .inr ⟨by omega, ?_⟩
    by_cases a1 : s.id = 0
    · exact .inl a1
    refine .inr ⟨a1, ?_⟩
    cases a2 : nameB s.service with
    | false => exact .inl rfl
    | true =>
    refine .inr ⟨rfl, ?_⟩
    cases a3 : nameB s.name with
    | false => exact .inl rfl
    | true =>
    refine .inr ⟨rfl, ?_⟩
    by_cases a4 : 0 ≤ s.kind
    case neg => exact .inl (by simpa using a4)
    refine .inr ⟨a4, ?_⟩
    by_cases a5 : s.kind ≤ 5
    case neg => exact .inl (by simpa using a5)
    refine .inr ⟨a5, ?_⟩
    by_cases a6 : 0 ≤ s.start
    case neg => exact .inl (by simpa using a6)
    refine .inr ⟨a6, ?_⟩
    by_cases a7 : 0 ≤ s.length
    case neg => exact .inl (by simpa using a7)
    refine .inr ⟨a7, ?_⟩
    by_cases a8 : s.start ≤ 4611686018427387903
    case neg => exact .inl (by simpa using a8)
    refine .inr ⟨a8, ?_⟩
    by_cases a9 : s.length ≤ 4611686018427387903 - s.start
    case neg => simpa using a9
    have : headB s = true := by
      simp only [headB, a2, a3, Bool.and_eq_true, Bool.or_eq_true, decide_eq_true_eq, ne_eq]
      exact ⟨⟨⟨⟨⟨⟨⟨⟨⟨by omega, a1⟩, trivial⟩, trivial⟩, a4⟩, a5⟩, a6⟩, a7⟩, a8⟩, a9⟩
    rw [hhead] at this
    cases this
  have HCASE := Lib.hid hcase
  clear hcase hhead
  go_enter Try.func23, Try.ntmps23
  go_wp2_with fail
  rw [HW.out]
  refine HC.out.mono ?_
  rintro e w2 ⟨rfl, hb2⟩
  have hs2 := hb2.size
  have hb02 := hb0.trans (hb2.mono (by omega))
  have hf2 := (Rd.below hf1 (hb2.mono (by omega))).more (show B ≤ w2.heap.size by omega)
  have bk2 := bk.below hb2 (by omega)
  obtain ⟨g, hg⟩ : ∃ g, w.heap.size = g := ⟨_, rfl⟩
  rw [hg] at bk2 ⊢
  have k0 : w2.cell? ⟨g, 0, none⟩ = some (.int .u64 s.hi) := bk2.cell 0
  have k1 : w2.cell? ⟨g, 1, none⟩ = some (.int .u64 s.lo) := bk2.cell 1
  have k2 : w2.cell? ⟨g, 2, none⟩ = some (.int .u64 s.id) := bk2.cell 2
  have k4 : w2.cell? ⟨g, 4, none⟩ = some (.string s.service) := bk2.cell 4
  have k5 : w2.cell? ⟨g, 5, none⟩ = some (.string s.name) := bk2.cell 5
  have k6 : w2.cell? ⟨g, 6, none⟩ = some (.int .i64 s.kind) := bk2.cell 6
  have k7 : w2.cell? ⟨g, 7, none⟩ = some (.int .i64 s.start) := bk2.cell 7
  have k8 : w2.cell? ⟨g, 8, none⟩ = some (.int .i64 s.length) := bk2.cell 8
  have k10 : w2.cell? ⟨g, 10, none⟩ = some (.slice A n c) := bk2.cell 10
  clear bk hf1 hb0 HW
  have HHS := Lib.hid hs2
  have HH1 := Lib.hid hs1
  have HHB := Lib.hid hB
  have HHG := Lib.hid hg
  have HB02 := Lib.hid hb02
  have HF2 := Lib.hid hf2
  have HBK := Lib.hid bk2
  clear hs2 hs1 hB hg hb02 hf2 bk2 hf hb2
  have hcase := HCASE.out
  clear HCASE
  rcases hcase with ⟨a0, a0'⟩ | ⟨a0, a1 | ⟨a1, a2 | ⟨a2, a3 | ⟨a3, a4 | ⟨a4, a5 | ⟨a5, a6 | ⟨a6, a7 | ⟨a7, a8 | ⟨a8, a9⟩⟩⟩⟩⟩⟩⟩⟩⟩
  all_goals first
    | (have d1 : ((s.id : Int) != 0) = true := by rw [bne_iff_ne]; omega)
    | (have d1 : ((s.id : Int) != 0) = false := by rw [a1]; rfl)
    | skip
  all_goals go_wp2_with (first
    | (go_at_call 51; refine (spName _ _).mono ?_; rintro e w' ⟨rfl, hw⟩; rw [hw]; clear hw w'; first | rw [a2] | rw [a3]))
  all_goals
    go_loopw [3, 63] (fun fv iv_ wr => ∃ j : Nat, j ≤ n ∧ iv_ = .int .i64 j ∧ fv = .bool false ∧ Below w2.heap.size w2 wr) (fun _ i _ => n - (intOf i).toNat)
    case atStart => exact ⟨0, by omega, rfl, rfl, Below.refl _ _⟩
    case round =>
      obtain ⟨j, hj, rfl, rfl, hb⟩ := hrel
      have hgl : g < w2.heap.size := by have := HHG.out; have := HHS.out; have := HH1.out; omega
      by_cases hlt : j < n
      · have hlt' : (j : Int) < (n : Int) := by omega
        obtain ⟨x, hx⟩ : ∃ x, s.tags[j]? = some x := ⟨_, List.getElem?_eq_getElem (by rw [HN.out]; exact hlt)⟩
        have hRb : Rd wr w2.heap.size A (tgs s.tags) := (Rd.more HF2.out (Nat.le_refl _)).below hb
        obtain ⟨b, o, rfl, hbb, c1, c2⟩ := RbT.get hRb hx
        have k10' : wr.cell? ⟨g, 10, none⟩ = some (.slice (some ⟨b, o, none⟩) n c) := (hb.cell (p := ⟨g, 10, none⟩) hgl).trans k10
        have HX := Lib.hid hx
        clear hx
        go_wp2_with fail
        have hbW := hb.alloc hb.size (.cells #[.string x.key, .string x.val] 80)
        obtain ⟨W, hW⟩ : ∃ W, wr.alloc (.cells #[.string x.key, .string x.val] 80) = W := ⟨_, rfl⟩
        rw [hW] at hbW ⊢
        have HBW := Lib.hid hbW
        clear hW hbW hRb hb hgl c1 c2 k10'
        go_quiet (fail)
        go_wp2
        go_roundw
        case rel => exact ⟨j + 1, by omega, by go_num, rfl, below_drewN HBW.out _⟩
        case measure => simp [intOf]; omega
      · have hlt' : decide ((j : Int) < (n : Int)) = false := by simp; omega
        go_wp2
        go_ret
        exact ⟨rfl, HB02.out.trans (hb.mono (by have := HHS.out; have := HH1.out; omega))⟩

set_option maxHeartbeats 400000 in
/-- Check of any span. -/
theorem spCheck {A : Option Addr} {c n B : Nat} (s : Sp) (w : World) (hf : RbT w B A s.tags) (hn : s.tags.length = n) (hB : B ≤ w.heap.size) (hnl : n ≤ 9223372036854775807) :
    Calls Try.prog 23 #[spV s A n c] w fun e w' => e = .returned (.int .i64 (spChk s)) ∧ Below w.heap.size w w' := by
  cases hl : longB s with
  | true =>
    have hr : spChk s = 3 := by rw [spChk, if_pos hl]
    rw [hr]
    have hf1 := Rd.alloc hf hB (.cells (spC s A n c) 32)
    have hb0 : Below w.heap.size w (w.alloc (.cells (spC s A n c) 32)) := (Below.refl _ w).alloc (Nat.le_refl _) _
    have hc := spLong (c := c) s _ hf1 hn (by simp; omega) hnl
    rw [hl] at hc
    have HC := Lib.hid hc
    clear hc hl
    go_enter Try.func23, Try.ntmps23
    go_wp2_with fail
    refine HC.out.mono ?_
    rintro e w2 ⟨rfl, hb2⟩
    go_wp2
    go_ret
    exact ⟨rfl, hb0.trans (hb2.mono (by simp))⟩
  | false =>
    cases hh : headB s with
    | false =>
      have hr : spChk s = 2 := by rw [spChk, hl, hh]; rfl
      rw [hr]
      exact spCheck0 s w hf hn hB hnl hl hh
    | true =>
      have hr : spChk s = if tagsOk s.tags n = true then 0 else 2 := by rw [spChk, hl, hh, hn]; rfl
      rw [hr]
      exact spCheck1 s w hf hn hB hnl hl hh
end Go.Proofs.Ytchpekidnbdpdaa

