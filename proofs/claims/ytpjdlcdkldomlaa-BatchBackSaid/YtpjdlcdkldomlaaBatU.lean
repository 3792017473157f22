/- Entries: SortFunc of two; Entries of two writes. -/
import Derived.Test.YtpjdlcdkldomlaaBatT
namespace Go.Proofs.Ytpjdlcdkldomlaa
open Go.RowKit

set_option maxRecDepth 100000 in
set_option maxHeartbeats 4000000 in
theorem sort2 {A1 A2 A3 A4 : Option Addr} {n1 c1 n2 c2 n3 c3 n4 c4 sa sb g c B : Nat} {kinda kindb : Int} {ka kb : List Int} (w : World)
    (h : Two w g (.slice A1 n1 c1, sa, kinda, .slice A2 n2 c2) (.slice A3 n3 c3, sb, kindb, .slice A4 n4 c4)) (hfz : ∀ j, w.frozen? ⟨g, j, none⟩ = false) (hgl : g < w.heap.size)
    (ha : Rb w w.heap.size A1 ka) (hb : Rb w w.heap.size A3 kb) (ba : Byt ka) (bb : Byt kb) (h1 : ka.length = n1) (h3 : kb.length = n3) (hlt : entCmp kb sb ka sa < 0) (hBg : B ≤ g) :
    Calls Try.prog 36 #[.slice (some ⟨g, 0, none⟩) 2 c, .func (.func 7) #[] #[]] w fun e w' => (∃ v, e = .returned v) ∧ Below B w w' ∧
      w'.cell? ⟨g, 1, none⟩ = some (.int .u64 sb) ∧ w'.cell? ⟨g, 5, none⟩ = some (.int .u64 sa) := by
  have hins := insert2 (c := c) w h hfz hgl ha hb ba bb h1 h3 hlt hBg
  have hlen := Try.bits_Len 2 w (by omega) (by omega)
  obtain ⟨bl, hbl⟩ : ∃ bl, Lib.bitLen (2 : Int).toNat = bl := ⟨_, rfl⟩
  rw [hbl] at hlen
  clear h hfz hgl ha hb ba bb h1 h3 hlt hBg hbl
  go_enter Try.func36, Try.ntmps36
  go_wp2_with (first
    | (go_at_call 46; refine hlen.mono ?_; rintro e w ⟨rfl, rfl⟩)
    | (go_at_call 45; go_in))
  go_loopw [1, 2] (fun av bv wr => av = .int .i64 0 ∧ bv = .int .i64 2 ∧ wr = w) (fun _ _ _ => 0)
  case atStart => exact ⟨rfl, rfl, rfl⟩
  case round =>
    obtain ⟨rfl, rfl, rfl⟩ := hrel
    go_wp2_with (first
      | (go_at_call 48; refine hins.mono ?_; rintro e w2 ⟨⟨v, rfl⟩, hp⟩)
      | fail)
    go_end0
    exact ⟨⟨_, rfl⟩, hp⟩

theorem entinfo : (Try.prog.info? 25).map (fun i => (i.zero, i.size, i.bytes)) = some (some (.agg #[.slice none 0 0, .int .u64 0, .int .i64 0, .slice none 0 0]), 4, 64) := by kernel_rfl
theorem EnAt.keep {w w' : World} {B : Nat} {r : Option Nat} {hs : List Value} {i : Nat} {x : En} (h : EnAt w B r hs i x) (hk : ∀ p : Addr, p.block < B → w'.cell? p = w.cell? p) : EnAt w' B r hs i x := by
  obtain ⟨A1, c1, A2, c2, h1, h2, h3, h4, h5, h6, h7, h8, h9⟩ := h
  exact ⟨A1, c1, A2, c2, h1, h2, h3, h4, h5, h6.keep hk, h7, h8.keep hk, h9⟩
theorem EnAt.more {w : World} {B B' : Nat} {r : Option Nat} {hs : List Value} {i : Nat} {x : En} (h : EnAt w B r hs i x) (hB : B ≤ B') : EnAt w B' r hs i x := by
  obtain ⟨A1, c1, A2, c2, h1, h2, h3, h4, h5, h6, h7, h8, h9⟩ := h
  exact ⟨A1, c1, A2, c2, h1, h2, h3, h4, h5, h6.more hB, h7, h8.more hB, h9⟩

theorem cmpN_self : ∀ (a : List Int), cmpN a a = 0
  | [] => rfl
  | x :: a => by rw [cmpN, if_neg (by omega), if_neg (by omega)]; exact cmpN_self a
theorem nil_of {w : World} {B : Nat} {A : Option Addr} {zs : List Int} (h : Rb w B A zs) (e : A = none) : zs = [] := by
  by_cases hz : zs = []
  · exact hz
  · obtain ⟨b, o, e', _⟩ := h (by simpa [bv] using hz)
    rw [e] at e'
    cases e'
theorem Rb.beside {w w' : World} {row : Option Nat} {A : Option Addr} {zs : List Int} (h : Rb w w.heap.size A zs) (hg : w.grownBy w' row) (hs : zs ≠ [] → ∀ a, A = some a → row ≠ some a.block) : Rb w' w'.heap.size A zs := fun hn => by
  obtain ⟨b, o, rfl, hb, hc⟩ := h hn
  exact ⟨b, o, rfl, Nat.lt_of_lt_of_le hb hg.size, fun j u hu => (World.cell?_of_block (a := ⟨b, o + j, none⟩) (hg.block b hb (fun e => hs (by simpa [bv] using hn) _ rfl e.symm))).trans (hc j u hu)⟩
theorem far_app {base : Nat} {e : TypeId} {size n : Nat} {w w' : World} {v v' : Value} {xs : List Value} {A : Option Addr} {zs : List Int} (k : App base e size w v w' v' n xs) (h : Rb w w.heap.size A zs) (hs : zs ≠ [] → ∀ a, A = some a → v.ownBlock ≠ some a.block) :
    zs ≠ [] → ∀ a, A = some a → v'.ownBlock ≠ some a.block := fun hz a ha e => by
  rcases k.block with hb | ⟨q, hq, hl⟩
  · exact hs hz a ha (hb.symm.trans e)
  · rw [hq] at e
    cases e
    obtain ⟨b, o, e2, hb, _⟩ := h (by simpa [bv] using hz)
    rw [ha] at e2
    cases e2
    simp at hl
    omega
theorem EnAt.app {base : Nat} {e : TypeId} {size n i : Nat} {w w' : World} {v v' : Value} {xs hs more : List Value} {x : En} (h : EnAt w w.heap.size v.ownBlock hs i x) (k : App base e size w v w' v' n xs) : EnAt w' w'.heap.size v'.ownBlock (hs ++ more) i x := by
  obtain ⟨A1, c1, A2, c2, h1, h2, h3, h4, h5, h6, h7, h8, h9, h10⟩ := h
  have lt : ∀ {j : Nat} {u : Value}, hs[j]? = some u → (hs ++ more)[j]? = some u := fun {j u} hj => by
    rw [List.getElem?_append_left (List.getElem?_eq_some_iff.1 hj).1]; exact hj
  exact ⟨A1, c1, A2, c2, lt h1, lt h2, lt h3, lt h4, h5, h6.beside k.grown h9, h7, h8.beside k.grown h10, far_app k h6 h9, far_app k h8 h10⟩
theorem EnAt.belowS {w w' : World} {r : Option Nat} {hs : List Value} {i : Nat} {x : En} (h : EnAt w w.heap.size r hs i x) (hb : Below w.heap.size w w') : EnAt w' w'.heap.size r hs i x := (h.keep fun _ hp => hb.cell hp).more hb.size
/-- append of one entry, at a step of a region that draws its order. -/
theorem step_appE {w : World} {ops : Array Oper} {o : Oper} {a : Act} {K : Act → World → Prop} {Q : Exit → Act → World → Prop} {E : Prop} (hgd : o.guard = none) (s x : Operand)
    (ho : o.op = .call { callee := .builtin .append, args := #[s, x], argTypes := #[47, 47] })
    (base : Nat) (v : Value) (n : Nat) (xs : List Value) (hs : a.eval s = v) (hown : w.ownsRow base 25 4 v n xs)
    (B : Nat) (A : Option Addr) (c : Nat) (news : List Value) (hx : a.eval x = .slice A 1 c) (hl : news.length = 4) (hr : Rd w B A news) (h1 : ∀ u ∈ news, u.oneCell' = true)
    (hbytes : n ≤ 1048576) (hbase : base ≤ w.heap.size)
    (h : ∀ A' c' w', App base 25 4 w v w' (.slice A' (n + 1) c') (n + 1) (xs ++ news) → K (a.put o.dst (.slice A' (n + 1) c')) w') :
    if Region.wanted o (yielded ops a.tmps) = true then Oper.wp Try.prog o a w K Q else E := by
  have hw : Region.wanted o (yielded ops a.tmps) = true := by simp [Region.wanted, hgd]
  rw [if_pos hw]
  obtain ⟨i0, hi0, hz0, hz1, hz2⟩ := info_parts entinfo
  refine wp_app w s x _ ho base 25 i0 _ 4 64 Try.underlying47 hi0 hz0 hz1 hz2 rfl (by omega) v n xs hs hown B A 1 c news hx (by rw [hl]) hr h1 (by simp only [maxLen]; omega) (by omega) hbase ?_
  intro A' c' w' h1 h2 h3 h4
  exact h A' c' w' ((App.refl hown).step h1 h2 h3)

set_option maxRecDepth 100000 in
set_option maxHeartbeats 4000000 in
theorem entries2 {Aw : Option Addr} {cw B seq : Nat} {x0 x1 : Wr} (w : World) (hf : RbW w B Aw [x0, x1]) (hb : ∀ x ∈ [x0, x1], BytW x) (hB : B ≤ w.heap.size) (hseq : seq < 1000) (hchk : batChk seq [x0, x1] = 0) (hkey : x0.key = x1.key) :
    Calls Try.prog 19 #[.agg #[.int .u64 seq, .slice Aw 2 cw]] w fun e w' => ∃ g c, e = .returned (.tuple #[.slice (some ⟨g, 0, none⟩) 2 c, .int .i64 0]) ∧ Below w.heap.size w w' ∧
      w'.cell? ⟨g, 1, none⟩ = some (.int .u64 ((seq + 1 : Nat) : Int)) ∧ w'.cell? ⟨g, 5, none⟩ = some (.int .u64 (seq : Int)) := by
  have hshort := (chk0' hchk).1
  have bB : Bk (w.alloc (.cells #[.int .u64 seq, .slice Aw 2 cw] 36)) w.heap.size 36 #[.int .u64 seq, .slice Aw 2 cw] := Bk.new w _ _
  have hb0 : Below w.heap.size w (w.alloc (.cells #[.int .u64 seq, .slice Aw 2 cw] 36)) := (Below.refl _ w).alloc (Nat.le_refl _) _
  have hf1 := hf.keep (w' := w.alloc (.cells #[.int .u64 seq, .slice Aw 2 cw] 36)) (fun p hp => World.cell?_alloc_lt _ _ _ (by omega))
  obtain ⟨w1, hw1⟩ : ∃ w1, w.alloc (.cells #[.int .u64 seq, .slice Aw 2 cw] 36) = w1 := ⟨_, rfl⟩
  have hs1 : w1.heap.size = w.heap.size + 1 := by rw [← hw1]; simp
  rw [hw1] at bB hb0 hf1
  have HW := Lib.hid hw1
  have hck := batCheck (seq := seq) (nw := 2) (cw := cw) w1 hf1 hb rfl (by omega) (by omega) (by omega)
  rw [hchk] at hck
  have HB := Lib.hid hb
  have HSH := Lib.hid hshort
  have HK := Lib.hid hkey
  clear hw1 hchk hb hshort hkey
  go_enter Try.func19, Try.ntmps19
  go_wp2_with fail
  rw [HW.out]
  refine hck.mono ?_
  rintro e w2 ⟨rfl, hb2⟩
  have bB2 : Bk w2 w.heap.size 36 #[.int .u64 seq, .slice Aw 2 cw] := bB.below hb2 (by omega)
  have hf2 := hf1.below (hb2.mono (by omega : B ≤ w1.heap.size))
  have hb02 := hb0.trans (hb2.mono (by omega))
  have k1 : w2.cell? ⟨w.heap.size, 1, none⟩ = some (.slice Aw 2 cw) := bB2.cell 1
  have hs2 := hb2.size
  clear hck hb2 bB hf1 hb0
  go_wp2_with fail
  go_loopw [5, 16] (fun ov iv_ wr => ∃ (j : Nat) (A : Option Addr) (c : Nat) (hs : List Value), j ≤ 2 ∧ iv_ = .int .i64 j ∧ ov = .slice A j c ∧ wr.ownsRow (w.heap.size + 1) 25 4 (.slice A j c) j hs ∧
      (∀ (i : Nat) (x : Wr), i < j → [x0, x1][i]? = some x → EnAt wr wr.heap.size (Value.slice A j c).ownBlock hs i ⟨x.key, seq + i, x.kind, x.val⟩) ∧ Below w.heap.size w wr ∧ Bk wr w.heap.size 36 #[.int .u64 seq, .slice Aw 2 cw] ∧ w2.heap.size ≤ wr.heap.size) (fun _ i _ => 2 - (intOf i).toNat)
  case atStart => exact ⟨0, none, 0, [], by omega, rfl, rfl, World.ownsRow_nil .., (fun i x h => by omega), hb02, bB2, Nat.le_refl _⟩
  case round =>
    obtain ⟨j, A, c, hs, hj, rfl, rfl, hown, hen, hbr, bBr, hsr⟩ := hrel
    clear hb02 bB2 k1
    by_cases hlt : j < 2
    · obtain ⟨x, hx⟩ : ∃ x, [x0, x1][j]? = some x := ⟨_, List.getElem?_eq_getElem (by simpa using hlt)⟩
      have hmem := List.mem_of_getElem? hx
      obtain ⟨b, o, A1, c1, A2, c2, rfl, hbb, e1, e2, e3, hl1, hr1, hl2, hr2, hn1, hn2⟩ := (hf.below (hbr.mono hB)).get hx
      have hsx := HSH.out x hmem
      have hkb := HB.out x hmem
      simp only [wrShort, Bool.and_eq_true, decide_eq_true_eq] at hsx
      have HX := Lib.hid hx
      have HEN := Lib.hid hen
      clear hx hmem hen
      have bW : Bk (wr.alloc (.cells #[.int .i64 x.kind, .slice A1 x.key.length c1, .slice A2 x.val.length c2] 31)) wr.heap.size 31 #[.int .i64 x.kind, .slice A1 x.key.length c1, .slice A2 x.val.length c2] := Bk.new wr _ _
      have own5 := hown.alloc (.cells #[.int .i64 x.kind, .slice A1 x.key.length c1, .slice A2 x.val.length c2] 31)
      have rk5 := hr1.alloc (w := wr) (by omega) (.cells #[.int .i64 x.kind, .slice A1 x.key.length c1, .slice A2 x.val.length c2] 31)
      have rv5 := hr2.alloc (w := wr) (by omega) (.cells #[.int .i64 x.kind, .slice A1 x.key.length c1, .slice A2 x.val.length c2] 31)
      have hb5 := hbr.alloc hbr.size (.cells #[.int .i64 x.kind, .slice A1 x.key.length c1, .slice A2 x.val.length c2] 31)
      have b5 := bBr.alloc (.cells #[.int .i64 x.kind, .slice A1 x.key.length c1, .slice A2 x.val.length c2] 31)
      have hwr := bBr.lt
      have hrowlt : ∀ k, (Value.slice A j c).ownBlock = some k → w.heap.size < k ∧ k < wr.heap.size := fun k hk => by have := hown.lt k hk; omega
      have hen5 : ∀ (i : Nat) (y : Wr), i < j → [x0, x1][i]? = some y → EnAt (wr.alloc (.cells #[.int .i64 x.kind, .slice A1 x.key.length c1, .slice A2 x.val.length c2] 31)) (wr.alloc (.cells #[.int .i64 x.kind, .slice A1 x.key.length c1, .slice A2 x.val.length c2] 31)).heap.size (Value.slice A j c).ownBlock hs i ⟨y.key, seq + i, y.kind, y.val⟩ := fun i y hi hy => (HEN.out i y hi hy).belowS ((Below.refl _ wr).alloc (Nat.le_refl _) _)
      go_wp2_with fail
      obtain ⟨w5, hw5⟩ : ∃ w5, wr.alloc (.cells #[.int .i64 x.kind, .slice A1 x.key.length c1, .slice A2 x.val.length c2] 31) = w5 := ⟨_, rfl⟩
      have hs5 : w5.heap.size = wr.heap.size + 1 := by rw [← hw5]; simp
      rw [hw5] at bW own5 rk5 rv5 hb5 b5 hen5 ⊢
      obtain ⟨g6, hg6⟩ : ∃ g6, wr.heap.size = g6 := ⟨_, rfl⟩
      rw [hg6] at bW hs5 hrowlt hwr hsr ⊢
      have HEN5 := Lib.hid hen5
      have HS5 := Lib.hid hs5
      have hlt5 : g6 < w5.heap.size := by omega
      have hlw5 : w.heap.size < w5.heap.size := by omega
      clear hw5 e1 e2 e3 hown hen5 hr1 hr2 hbr bBr hs5 HEN
      have k0 : w5.cell? ⟨g6, 0, none⟩ = some (.int .i64 x.kind) := bW.cell 0
      have k1 : w5.cell? ⟨g6, 1, none⟩ = some (.slice A1 x.key.length c1) := bW.cell 1
      have k2 : w5.cell? ⟨g6, 2, none⟩ = some (.slice A2 x.val.length c2) := bW.cell 2
      have k3 : w5.cell? ⟨w.heap.size, 0, none⟩ = some (.int .u64 seq) := b5.cell 0
      have hadd : IntKind.u64.wrap ((seq : Int) + IntKind.u64.wrap (j : Int)) = ((seq + j : Nat) : Int) := by simp only [IntKind.wrap_u64]; omega
      have hadd2 : IntKind.u64.wrap ((seq : Int) + (j : Int)) = ((seq + j : Nat) : Int) := by simp only [IntKind.wrap_u64]; omega
      go_region_held3 (fun w' => w'.cell? ⟨g6, 0, none⟩ = some (.int .i64 x.kind) ∧ w'.cell? ⟨g6, 1, none⟩ = some (.slice A1 x.key.length c1) ∧ w'.cell? ⟨g6, 2, none⟩ = some (.slice A2 x.val.length c2) ∧ w'.cell? ⟨w.heap.size, 0, none⟩ = some (.int .u64 seq))
        (go_keep)
        (first
          | (go_at_call_of 35 (Value.slice A1 x.key.length c1)
             refine (bytesClone (A := A1) (c := c1) (xs := x.key) wV (rk5.below (hb1.mono (by omega))) (by have := hb1.size; omega) (by omega) (fun e => ⟨nil_of (rk5.below (hb1.mono (by omega))) e, hn1 e⟩) rfl).mono ?_
             rintro e wE ⟨Ak, ck, rfl, happk, -⟩
             have rkE := happk.rd
             have capk := happk.cap
             have lok := happk.lo
             have rvE := rv1.belowS happk.below0
             have hbE : Below w5.heap.size w5 wE := hb1.trans (happk.below0.mono hb1.size)
             have ownE := own5.kept (row := none) (w' := wE) ⟨hbE.os, hbE.tape, hbE.output, hbE.size, fun k hk _ => hbE.block k hk⟩ (by cases (Value.slice A j c).ownBlock <;> simp)
             have j0E := (hbE.cell (p := ⟨g6, 0, none⟩) (by show g6 < w5.heap.size; omega)).trans k0
             have j1E := (hbE.cell (p := ⟨g6, 1, none⟩) (by show g6 < w5.heap.size; omega)).trans k1
             have j2E := (hbE.cell (p := ⟨g6, 2, none⟩) (by show g6 < w5.heap.size; omega)).trans k2
             have j3E := (hbE.cell (p := ⟨w.heap.size, 0, none⟩) (by show w.heap.size < w5.heap.size; omega)).trans k3)
          | (go_at_call_of 35 (Value.slice A1 x.key.length c1)
             refine (bytesClone (A := A1) (c := c1) (xs := x.key) w5.drew rk5 (by show B ≤ w5.heap.size; omega) (by omega) (fun e => ⟨nil_of rk5 e, hn1 e⟩) rfl).mono ?_
             rintro e wK ⟨Ak, ck, rfl, happk, -⟩
             have rk1 := happk.rd
             have capk := happk.cap
             have lok := happk.lo
             have hb1 : Below w5.heap.size w5 wK := ⟨happk.below0.os, happk.below0.tape, happk.below0.output, happk.below0.size, happk.below0.block⟩
             have j01 := (hb1.cell (p := ⟨g6, 0, none⟩) (by show g6 < w5.heap.size; omega)).trans k0
             have j11 := (hb1.cell (p := ⟨g6, 1, none⟩) (by show g6 < w5.heap.size; omega)).trans k1
             have j21 := (hb1.cell (p := ⟨g6, 2, none⟩) (by show g6 < w5.heap.size; omega)).trans k2
             have j31 := (hb1.cell (p := ⟨w.heap.size, 0, none⟩) (by show w.heap.size < w5.heap.size; omega)).trans k3)
          | (go_at_call_of 35 (Value.slice A2 x.val.length c2)
             refine (bytesClone (A := A2) (c := c2) (xs := x.val) wK (rv5.below (hb1.mono (by omega))) (by have := hb1.size; omega) (by omega) (fun e => ⟨nil_of (rv5.below (hb1.mono (by omega))) e, hn2 e⟩) rfl).mono ?_
             rintro e wE ⟨Av, cv, rfl, happv, -⟩
             have rvE := happv.rd
             have capv := happv.cap
             have lov := happv.lo
             have rkE := rk1.belowS happv.below0
             have hbE : Below w5.heap.size w5 wE := hb1.trans (happv.below0.mono hb1.size)
             have ownE := own5.kept (row := none) (w' := wE) ⟨hbE.os, hbE.tape, hbE.output, hbE.size, fun k hk _ => hbE.block k hk⟩ (by cases (Value.slice A j c).ownBlock <;> simp)
             have j0E := (hbE.cell (p := ⟨g6, 0, none⟩) (by show g6 < w5.heap.size; omega)).trans k0
             have j1E := (hbE.cell (p := ⟨g6, 1, none⟩) (by show g6 < w5.heap.size; omega)).trans k1
             have j2E := (hbE.cell (p := ⟨g6, 2, none⟩) (by show g6 < w5.heap.size; omega)).trans k2
             have j3E := (hbE.cell (p := ⟨w.heap.size, 0, none⟩) (by show w.heap.size < w5.heap.size; omega)).trans k3)
          | (go_at_call_of 35 (Value.slice A2 x.val.length c2)
             refine (bytesClone (A := A2) (c := c2) (xs := x.val) w5.drew rv5 (by show B ≤ w5.heap.size; omega) (by omega) (fun e => ⟨nil_of rv5 e, hn2 e⟩) rfl).mono ?_
             rintro e wV ⟨Av, cv, rfl, happv, -⟩
             have rv1 := happv.rd
             have capv := happv.cap
             have lov := happv.lo
             have hb1 : Below w5.heap.size w5 wV := ⟨happv.below0.os, happv.below0.tape, happv.below0.output, happv.below0.size, happv.below0.block⟩
             have j01 := (hb1.cell (p := ⟨g6, 0, none⟩) (by show g6 < w5.heap.size; omega)).trans k0
             have j11 := (hb1.cell (p := ⟨g6, 1, none⟩) (by show g6 < w5.heap.size; omega)).trans k1
             have j21 := (hb1.cell (p := ⟨g6, 2, none⟩) (by show g6 < w5.heap.size; omega)).trans k2
             have j31 := (hb1.cell (p := ⟨w.heap.size, 0, none⟩) (by show w.heap.size < w5.heap.size; omega)).trans k3)
          | (refine step_appE (by rfl) (.tmp 21) (.tmp 36) (by rfl) (w.heap.size + 1) (.slice A j c) j hs (by rfl) (ownE.alloc _) _ _ _ [.slice Ak x.key.length ck, .int .u64 ((seq + j : Nat) : Int), .int .i64 x.kind, .slice Av x.val.length cv] (by rfl) (by rfl) (Rd.lit wE _ _) (by simp [Value.oneCell']) (by omega) (by show _ ≤ (wE.alloc _).heap.size; have := hbE.size; simp; omega) ?_
             intro A9 c9 w9 happ9
             have b69 := ((bW.below hbE hlt5).alloc _).grown happ9.grown (fun e => by have := hrowlt _ e.symm; omega)
             have bb9 := ((b5.below hbE hlw5).alloc _).grown happ9.grown (fun e => by have := hrowlt _ e.symm; omega)
             have j09 : w9.cell? ⟨g6, 0, none⟩ = some (.int .i64 x.kind) := b69.cell 0
             have j19 : w9.cell? ⟨g6, 1, none⟩ = some (.slice A1 x.key.length c1) := b69.cell 1
             have j29 : w9.cell? ⟨g6, 2, none⟩ = some (.slice A2 x.val.length c2) := b69.cell 2
             have j39 : w9.cell? ⟨w.heap.size, 0, none⟩ = some (.int .u64 seq) := bb9.cell 0)
          | fail)
      all_goals
        have hEs := hbE.size
        have hrowE : ∀ k, (Value.slice A j c).ownBlock = some k → k < w5.heap.size := fun k hk => by have := hrowlt k hk; omega
        have hsz9 := happ9.heap
        have hszE : ∀ o, (wE.alloc o).heap.size = wE.heap.size + 1 := fun o => by simp
        rw [hszE] at hsz9
        have hbel9 : Below w.heap.size w w9 := by
          have h1 : ∀ o, Below w.heap.size wE (wE.alloc o) := fun o => (Below.refl _ wE).alloc (by omega) _
          exact (hb5.trans (hbE.mono (by omega))).trans ((h1 _).trans (happ9.below (by rw [hszE]; omega) (fun k hk => by have := hrowlt k hk; omega)))
        have hEnAll : ∀ (i : Nat) (y : Wr), i < j + 1 → [x0, x1][i]? = some y → EnAt w9 w9.heap.size (Value.slice A9 (j + 1) c9).ownBlock (hs ++ [.slice Ak x.key.length ck, .int .u64 ((seq + j : Nat) : Int), .int .i64 x.kind, .slice Av x.val.length cv]) i ⟨y.key, seq + i, y.kind, y.val⟩ := by
          intro i y hi hy
          have hfk : x.key ≠ [] → ∀ a, Ak = some a → (Value.slice A j c).ownBlock ≠ some a.block := fun _ a ha e => by have h1 := hrowE _ e; have h2 : w5.heap.size ≤ a.block := (lok a ha).1; omega
          have hfv : x.val ≠ [] → ∀ a, Av = some a → (Value.slice A j c).ownBlock ≠ some a.block := fun _ a ha e => by have h1 := hrowE _ e; have h2 := lov a ha; have := hb1.size; omega
          by_cases hij : i < j
          · exact (((HEN5.out i y hij hy).belowS hbE).belowS ((Below.refl _ wE).alloc (Nat.le_refl _) _)).app happ9
          · have hij' : i = j := by omega
            subst hij'
            have hyx : y = x := Option.some.inj (hy.symm.trans HX.out)
            subst hyx
            have hl : hs.length = i * 4 := own5.1
            have hat : ∀ r, (hs ++ [.slice Ak y.key.length ck, .int .u64 ((seq + i : Nat) : Int), .int .i64 y.kind, .slice Av y.val.length cv])[i * 4 + r]? = [Value.slice Ak y.key.length ck, .int .u64 ((seq + i : Nat) : Int), .int .i64 y.kind, .slice Av y.val.length cv][r]? := fun r => by
              rw [List.getElem?_append_right (by omega), hl, Nat.add_sub_cancel_left]
            have rk' := fun o => rkE.allocS o
            have rv' := fun o => rvE.allocS o
            exact ⟨Ak, ck, Av, cv, hat 0, hat 1, hat 2, hat 3, capk, Rb.beside (rk' _) happ9.grown hfk, capv, Rb.beside (rv' _) happ9.grown hfv, far_app happ9 (rk' _) hfk, far_app happ9 (rv' _) hfv⟩
        have hown9 := happ9.own
        have HALL := Lib.hid hEnAll
        clear happ9 b69 ownE hEnAll
        go_wp2
        go_roundw
        case rel => exact ⟨j + 1, A9, c9, _, by omega, by go_num, rfl, hown9, HALL.out, hbel9, bb9, by omega⟩
        case measure => simp [intOf]; omega
    · have hj2 : j = 2 := by omega
      subst hj2
      have hwr := bBr.lt
      obtain ⟨g, cap, hv, hge, hgl⟩ := hown.form (by omega)
      injection hv with hv1 hv2 hv3
      subst hv1
      have hl8 : hs.length = 8 := hown.1
      obtain ⟨A1, c1, A2, c2, e0, e1, e2, e3, l1, r1, l2, r2, f1, f2⟩ := hen 0 x0 (by omega) rfl
      obtain ⟨A3, c3, A4, c4, e4, e5, e6, e7, l3, r3, l4, r4, f3, f4⟩ := hen 1 x1 (by omega) rfl
      have hcell : ∀ k, k < 8 → wr.cell? ⟨g, k, none⟩ = hs[k]? := fun k hk => hown.cellAt k (by omega)
      have h2 : Two wr g (.slice A1 x0.key.length c1, seq + 0, x0.kind, .slice A2 x0.val.length c2) (.slice A3 x1.key.length c3, seq + 1, x1.kind, .slice A4 x1.val.length c4) :=
        ⟨(hcell 0 (by omega)).trans e0, (hcell 1 (by omega)).trans e1, (hcell 2 (by omega)).trans e2, (hcell 3 (by omega)).trans e3, (hcell 4 (by omega)).trans e4, (hcell 5 (by omega)).trans e5, (hcell 6 (by omega)).trans e6, (hcell 7 (by omega)).trans e7⟩
      have hlt : entCmp x1.key (seq + 1) x0.key (seq + 0) < 0 := by
        have hkk := HK.out
        rw [entCmp, ← hkk, cmpN_self, if_neg (by simp), cmpI, if_pos (by omega)]
        omega
      have hso := sort2 (c := c) (B := w.heap.size) wr h2 (fun j => hown.frozenAt j) hgl r1 r3 (HB.out x0 (by simp)).1 (HB.out x1 (by simp)).1 rfl rfl hlt (by omega)
      clear h2 hcell hen hown e0 e1 e2 e3 e4 e5 e6 e7 l1 r1 l2 r2 f1 f2 l3 r3 l4 r4 f3 f4 hl8 hlt hv2 hv3
      go_wp2_with fail
      refine hso.mono ?_
      rintro e w6 ⟨⟨v, rfl⟩, hb6, c1', c5'⟩
      have hb66 := hbr.trans hb6
      go_wp2
      go_ret2
      exact ⟨g, c, rfl, hb66, c1', c5'⟩
end Go.Proofs.Ytpjdlcdkldomlaa
