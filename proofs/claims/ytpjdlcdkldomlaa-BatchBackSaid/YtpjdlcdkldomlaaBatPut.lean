/- Writes that go together: put. -/
import Derived.Test.YtpjdlcdkldomlaaBatP
namespace Go.Proofs.Ytpjdlcdkldomlaa
open Go.RowKit

theorem wrEnc_len (x : Wr) (h : wrShort x = true) : (wrEnc x).length ≤ 69653 := by
  simp only [wrShort, Bool.and_eq_true, decide_eq_true_eq] at h
  have h1 := numEnc_len10 (x := x.key.length) (by omega)
  have h2 := numEnc_len10 (x := x.val.length) (by omega)
  unfold wrEnc pieEnc
  split <;> simp only [List.length_append, List.length_cons, List.length_nil] <;> omega
theorem wsEnc_len (ws : List Wr) (h : ∀ x ∈ ws, wrShort x = true) : (wsEnc ws).length ≤ ws.length * 69653 := by
  induction ws with
  | nil => simp [wsEnc]
  | cons x ws ih =>
    have h1 := wrEnc_len x (h x (List.mem_cons_self ..))
    have h2 := ih (fun y hy => h y (List.mem_cons_of_mem _ hy))
    simp only [wsEnc, List.flatMap_cons, List.length_append, List.length_cons] at h2 ⊢
    omega
theorem ownsRow_down {w : World} {base base' size n : Nat} {e : TypeId} {v : Value} {xs : List Value} (h : w.ownsRow base e size v n xs) (hb : base' ≤ base) : w.ownsRow base' e size v n xs :=
  ⟨h.1, h.2.elim .inl (fun ⟨g, cap, cur, hv, hg, r⟩ => .inr ⟨g, cap, cur, hv, Nat.le_trans hb hg, r⟩)⟩
theorem below_drew {B : Nat} {a w : World} (h : Below B a w) : Below B a w.drew := ⟨h.os, h.tape, h.output, h.size, h.block⟩
/-- append of bytes, at a step of a region that draws its order. -/
theorem step_appb {w : World} {ops : Array Oper} {o : Oper} {a : Act} {K : Act → World → Prop} {Q : Exit → Act → World → Prop} {E : Prop} (hgd : o.guard = none) (s x : Operand)
    (ho : o.op = .call { callee := .builtin .append, args := #[s, x], argTypes := #[22, 22] })
    (base : Nat) (v : Value) (n : Nat) (xs : List Int) (hs : a.eval s = v) (hown : w.ownsRow base 5 1 v n (bv xs))
    (B : Nat) (A : Option Addr) (m c : Nat) (news : List Int) (hx : a.eval x = .slice A m c) (hl : news.length = m) (hr : Rb w B A news)
    (hbytes : n + m ≤ 140737488355328) (hbase : base ≤ w.heap.size)
    (h : ∀ A' c' w', App base 5 1 w v w' (.slice A' (n + m) c') (n + m) (bv (xs ++ news)) → (A' = none → v = .slice none 0 0 ∧ m = 0) → K (a.put o.dst (.slice A' (n + m) c')) w') :
    if Region.wanted o (yielded ops a.tmps) = true then Oper.wp Try.prog o a w K Q else E := by
  have hw : Region.wanted o (yielded ops a.tmps) = true := by simp [Region.wanted, hgd]
  rw [if_pos hw]
  obtain ⟨i0, hi0, hz0, hz1, hz2⟩ := info_parts (show (Try.prog.info? 5).map (fun i => (i.zero, i.size, i.bytes)) = some (some (.int .u8 0), 1, 1) from by kernel_rfl)
  refine wp_app w s x _ ho base 5 i0 _ 1 1 Try.underlying22 hi0 hz0 hz1 hz2 rfl (by omega) v n (bv xs) hs hown B A m c (bv news) hx (by rw [bv_length]; omega) hr (bv_one news) (by simp only [maxLen]; omega) (by omega) hbase ?_
  intro A' c' w' h1 h2 h3 h4
  rw [← bv_append] at h1
  exact h A' c' w' ((App.refl hown).step h1 h2 h3) h4
/-- What a round of put keeps: the write's own block, its bytes, what lay ahead of the call. -/
structure PutM (w W : World) (g B : Nat) (x : Wr) (A1 : Option Addr) (c1 : Nat) (A2 : Option Addr) (c2 : Nat) (v : Value) : Prop where
  blk : Bk W g 31 #[.int .i64 x.kind, .slice A1 x.key.length c1, .slice A2 x.val.length c2]
  rk : Rb W B A1 x.key
  rv : Rb W B A2 x.val
  hb : Below w.heap.size w W
  hB : B ≤ w.heap.size
  hv : ∀ k, v.ownBlock = some k → w.heap.size < k ∧ k ≠ g
  hg : w.heap.size ≤ g
theorem PutM.alloc {w W : World} {g B c1 c2 : Nat} {x : Wr} {A1 A2 : Option Addr} {v : Value} (h : PutM w W g B x A1 c1 A2 c2 v) (o : Obj) : PutM w (W.alloc o) g B x A1 c1 A2 c2 v :=
  have := h.hb.size
  have := h.hB
  ⟨h.blk.alloc o, h.rk.alloc (by omega) o, h.rv.alloc (by omega) o, h.hb.alloc h.hb.size o, h.hB, h.hv, h.hg⟩
theorem PutM.drew {w W : World} {g B c1 c2 : Nat} {x : Wr} {A1 A2 : Option Addr} {v : Value} (h : PutM w W g B x A1 c1 A2 c2 v) : PutM w W.drew g B x A1 c1 A2 c2 v := ⟨h.blk, h.rk, h.rv, below_drew h.hb, h.hB, h.hv, h.hg⟩
theorem PutM.app {w W w' : World} {g B c1 c2 base n : Nat} {x : Wr} {A1 A2 : Option Addr} {v v' : Value} {xs : List Value} (h : PutM w W g B x A1 c1 A2 c2 v) (k : App base 5 1 W v w' v' n xs) : PutM w w' g B x A1 c1 A2 c2 v' := by
  have h1 := h.hb.size
  have h2 := h.hB
  have h3 := h.blk.lt
  refine ⟨h.blk.grown k.grown (fun e => (h.hv _ e.symm).2 rfl), h.rk.grown k.grown (by omega) (fun r e => by have := (h.hv r e).1; omega), h.rv.grown k.grown (by omega) (fun r e => by have := (h.hv r e).1; omega), h.hb.trans (k.below h1 (fun r e => by have := (h.hv r e).1; omega)), h2, fun r e => ?_, h.hg⟩
  rcases k.block with hb | ⟨q, hq, hl⟩
  · exact h.hv r (hb.symm.trans e)
  · rw [hq] at e
    cases e
    have := h.hg
    exact ⟨by omega, by omega⟩
/-- Another block of the call's own, beside the row that is appended to. -/
theorem Bk.beside {W w' : World} {gl base n : Nat} {t ty : TypeId} {cs : Array Value} {v v' : Value} {xs : List Value} (h : Bk W gl t cs) (k : App base ty 1 W v w' v' n xs) (hne : v.ownBlock ≠ some gl) : Bk w' gl t cs ∧ v'.ownBlock ≠ some gl := by
  refine ⟨h.grown k.grown (fun e => hne e.symm), fun e => ?_⟩
  rcases k.block with hb | ⟨q, hq, hl⟩
  · exact hne (hb.symm.trans e)
  · rw [hq] at e
    cases e
    have := h.lt
    omega
theorem wireNumber0 {base x : Nat} (w : World) (hb : base ≤ w.heap.size) (hx : x < 18446744073709551616) :
    Calls Try.prog 40 #[.slice none 0 0, .int .u64 (x : Nat)] w (RetApp base 5 1 w (.slice none 0 0) (numEnc x).length (bv (numEnc x)) (· ≠ none)) := by
  have := wireNumber (base := base) (A := none) (n := 0) (c := 0) (xs := []) w (World.ownsRow_nil ..) hb hx (by omega)
  rwa [Nat.zero_add, List.nil_append] at this
set_option maxRecDepth 100000 in
set_option maxHeartbeats 4000000 in
theorem batPut {Aw : Option Addr} {nw cw B seq : Nat} {ws : List Wr} (w : World) (hf : RbW w B Aw ws) (hb : ∀ x ∈ ws, BytW x) (hs : ∀ x ∈ ws, wrShort x = true) (hn : ws.length = nw) (h1024 : nw ≤ 1024) (hB : B ≤ w.heap.size) (hseq : seq < 18446744073709551616) :
    Calls Try.prog 28 #[.slice none 0 0, .agg #[.int .u64 seq, .slice Aw nw cw]] w (RetApp w.heap.size 5 1 w (.slice none 0 0) (batEnc seq ws).length (bv (batEnc seq ws)) (· ≠ none)) := by
  have h10 := numEnc_len10 hseq
  have h10' := numEnc_len10 (x := nw) (by omega)
  have HN := Lib.hid hn
  have HS := Lib.hid hs
  have HSEQ := Lib.hid hseq
  clear hn hs hseq
  go_enter Try.func28, Try.ntmps28
  go_wp2_with fail
  have bB : Bk (w.alloc (.cells #[.int .u64 seq, .slice Aw nw cw] 36)) w.heap.size 36 #[.int .u64 seq, .slice Aw nw cw] := Bk.new w _ _
  obtain ⟨w1, hw1⟩ : ∃ w1, w.alloc (.cells #[.int .u64 seq, .slice Aw nw cw] 36) = w1 := ⟨_, rfl⟩
  have hsz1 : w1.heap.size = w.heap.size + 1 := by rw [← hw1]; simp
  have hg1 : w.grownBy w1 none := by rw [← hw1]; exact World.grownBy_alloc w _ none
  rw [hw1] at bB ⊢
  clear hw1
  have k0 : w1.cell? ⟨w.heap.size, 0, none⟩ = some (.int .u64 seq) := bB.cell 0
  have k1 : w1.cell? ⟨w.heap.size, 1, none⟩ = some (.slice Aw nw cw) := bB.cell 1
  have HSZ := Lib.hid hsz1
  clear hsz1
  have hwr : IntKind.u64.wrap ((nw : Nat) : Int) = (nw : Int) := by rw [IntKind.wrap_u64]; omega
  go_region_held3 (fun w' => w'.cell? ⟨w.heap.size, 0, none⟩ = some (.int .u64 seq) ∧ w'.cell? ⟨w.heap.size, 1, none⟩ = some (.slice Aw nw cw))
    (go_keep)
    (first
      | (go_at_call_of 40 (Value.int .u64 (seq : Int))
         refine (wireNumber0 (base := w.heap.size + 1) (x := seq) _ (by have := HSZ.out; show _ ≤ w1.heap.size; omega) HSEQ.out).mono ?_
         rintro e w2 ⟨A2, c2, rfl, happ, hne⟩
         have k0' : w2.cell? ⟨w.heap.size, 0, none⟩ = some (.int .u64 seq) := (World.cell?_of_block (happ.grown.block w.heap.size (by have := HSZ.out; show _ < w1.heap.size; omega) (by simp [Value.ownBlock]))).trans k0
         have k1' : w2.cell? ⟨w.heap.size, 1, none⟩ = some (.slice Aw nw cw) := (World.cell?_of_block (happ.grown.block w.heap.size (by have := HSZ.out; show _ < w1.heap.size; omega) (by simp [Value.ownBlock]))).trans k1)
      | (go_at_call_of 40 (Value.int .u64 (nw : Int))
         refine (wireNumber (A := A2) (c := c2) (x := nw) _ happ.own (by have := happ.heap; have := HSZ.out; have : w1.drew.heap.size = w1.heap.size := rfl; omega) (by omega) (by omega)).mono ?_
         rintro e w3 ⟨A3, c3, rfl, happ3, hne3⟩
         have k0'' : w3.cell? ⟨w.heap.size, 0, none⟩ = some (.int .u64 seq) := (World.cell?_of_block (happ3.grown.block w.heap.size (by have := happ.heap; have := HSZ.out; have : w1.drew.heap.size = w1.heap.size := rfl; omega) (fun e => by have := (happ.own.lt _ e.symm).1; omega))).trans k0'
         have k1'' : w3.cell? ⟨w.heap.size, 1, none⟩ = some (.slice Aw nw cw) := (World.cell?_of_block (happ3.grown.block w.heap.size (by have := happ.heap; have := HSZ.out; have : w1.drew.heap.size = w1.heap.size := rfl; omega) (fun e => by have := (happ.own.lt _ e.symm).1; omega))).trans k1')
      | fail)
  have hown := (happ.trans happ3).own
  have hbel : Below w.heap.size w w3 := by
    have hh := (happ.trans happ3)
    have hs1 := HSZ.out
    have h1 : Below w.heap.size w1.drew w3 := hh.below (by show _ ≤ w1.heap.size; omega) (fun k hk => by simp [Value.ownBlock] at hk)
    exact ⟨h1.os.trans hg1.os, h1.tape.trans hg1.tape, h1.output.trans hg1.output, Nat.le_trans hg1.size h1.size, fun k hk => (h1.block k hk).trans (hg1.block k hk (by simp))⟩
  have hlo : w.heap.size + 1 ≤ w3.heap.size := by
    have := (happ.trans happ3).heap
    have := HSZ.out
    have : w1.drew.heap.size = w1.heap.size := rfl
    omega
  have hlen0 : (numEnc seq).length + (numEnc nw).length ≤ 20 := by omega
  clear happ happ3 hne k0 k1 k0' k1' bB hg1 hwr
  obtain ⟨hd, hhd⟩ : ∃ hd, numEnc seq ++ numEnc nw = hd := ⟨_, rfl⟩
  have hbe : ∀ l, hd ++ wsEnc l = numEnc seq ++ numEnc nw ++ wsEnc l := fun l => by rw [← hhd]
  have hhl : hd.length = (numEnc seq).length + (numEnc nw).length := by rw [← hhd, List.length_append]
  rw [hhd] at hown
  rw [← hhl] at hown hlen0 ⊢
  have HBE := Lib.hid hbe
  clear hhd hhl hbe h10 h10'
  go_wp2_with fail
  go_loopw [0, 19] (fun pv iv_ wr => ∃ (j : Nat) (A : Option Addr) (c n : Nat), j ≤ nw ∧ iv_ = .int .i64 j ∧ pv = .slice A n c ∧ n = (hd ++ wsEnc (ws.take j)).length ∧ wr.ownsRow (w.heap.size + 1) 5 1 (.slice A n c) n (bv (hd ++ wsEnc (ws.take j))) ∧ Below w.heap.size w wr ∧ w.heap.size + 1 ≤ wr.heap.size) (fun _ i _ => nw - (intOf i).toNat)
  case atStart => exact ⟨0, A3, c3, hd.length, by omega, rfl, rfl, by simp [wsEnc], by simpa [wsEnc] using hown, hbel, hlo⟩
  case round =>
    obtain ⟨j, A, c, n, hj, rfl, rfl, hnn, howr, hbr, hlor⟩ := hrel
    clear hown hbel hlo
    by_cases hlt : j < nw
    · obtain ⟨x, hx⟩ : ∃ x, ws[j]? = some x := ⟨_, List.getElem?_eq_getElem (by rw [HN.out]; exact hlt)⟩
      obtain ⟨b, o, A1, c1, A2, c2, rfl, hbb, e1, e2, e3, hl1, hr1, hl2, hr2, -⟩ := (hf.below (hbr.mono hB)).get hx
      have hsx := HS.out x (List.mem_of_getElem? hx)
      have hkb := hb x (List.mem_of_getElem? hx)
      have hws := hbr.size
      have hnb : n ≤ 20 + 1024 * 80000 := by
        have h1 := wsEnc_len (ws.take j) (fun y hy => HS.out y (List.mem_of_mem_take hy))
        have h2 : (ws.take j).length ≤ 1024 := by rw [List.length_take]; omega
        have h3 := Nat.mul_le_mul_right 69653 h2
        rw [hnn, List.length_append]
        omega
      obtain ⟨xs, hxs⟩ : ∃ xs, hd ++ wsEnc (ws.take j) = xs := ⟨_, rfl⟩
      have hnx : hd ++ wsEnc (ws.take (j + 1)) = xs ++ wrEnc x := by rw [take_snoc hx, wsEnc_snoc, ← List.append_assoc, hxs]
      rw [hxs] at hnn howr
      have HX := Lib.hid hx
      have HNX := Lib.hid hnx
      have HNN := Lib.hid hnn
      simp only [wrShort, Bool.and_eq_true, decide_eq_true_eq] at hsx
      clear hx hxs hnx hnn
      go_wp2_with fail
      have hvA : ∀ k, (Value.slice A n c).ownBlock = some k → w.heap.size < k ∧ k ≠ wr.heap.size := fun k hk => by have := howr.lt k hk; omega
      have m5 : PutM w (wr.alloc (.cells #[.int .i64 x.kind, .slice A1 x.key.length c1, .slice A2 x.val.length c2] 31)) wr.heap.size B x A1 c1 A2 c2 (.slice A n c) := ⟨Bk.new wr _ _, hr1.alloc (by omega) _, hr2.alloc (by omega) _, hbr.alloc hws _, hB, hvA, hws⟩
      have own5 := howr.alloc (.cells #[.int .i64 x.kind, .slice A1 x.key.length c1, .slice A2 x.val.length c2] 31)
      have hA6 : ∀ k, (Value.slice A n c).ownBlock = some k → k < wr.heap.size := fun k hk => (howr.lt k hk).2
      obtain ⟨w5, hw5⟩ : ∃ w5, wr.alloc (.cells #[.int .i64 x.kind, .slice A1 x.key.length c1, .slice A2 x.val.length c2] 31) = w5 := ⟨_, rfl⟩
      have hs5 : w5.heap.size = wr.heap.size + 1 := by rw [← hw5]; simp
      rw [hw5] at m5 own5 ⊢
      clear hw5 e1 e2 e3 howr hr1 hr2 hbr
      obtain ⟨g6, hg6⟩ : ∃ g6, wr.heap.size = g6 := ⟨_, rfl⟩
      rw [hg6] at m5 hs5 hA6 hlor hws ⊢
      clear hvA
      have k0 : w5.cell? ⟨g6, 0, none⟩ = some (.int .i64 x.kind) := m5.blk.cell 0
      have k1 : w5.cell? ⟨g6, 1, none⟩ = some (.slice A1 x.key.length c1) := m5.blk.cell 1
      have HS5 := Lib.hid hs5
      have hlo5 : w.heap.size + 1 ≤ w5.heap.size := by omega
      have hA5 : ∀ k, (Value.slice A n c).ownBlock = some k → k < w5.heap.size := fun k hk => by have := hA6 k hk; omega
      clear hs5
      go_region_held3 (fun w' => w'.cell? ⟨g6, 0, none⟩ = some (.int .i64 x.kind) ∧ w'.cell? ⟨g6, 1, none⟩ = some (.slice A1 x.key.length c1))
        (go_keep)
        (first
          | (refine step_appb (by rfl) (.tmp 23) (.tmp 27) (by rfl) (w.heap.size + 1) (.slice A n c) n xs (by rfl) (own5.alloc (.cells #[.int .u8 (x.kind % 256)] 5)).drew _ _ 1 1 [x.kind % 256] (by rfl) (by rfl) (Rd.lit w5 _ _) (by omega) (by show _ ≤ (w5.alloc _).heap.size; simp; omega) ?_
             intro A7 c7 w7 happ7 _
             have m7 := (m5.alloc (.cells #[.int .u8 (x.kind % 256)] 5)).drew.app happ7
             have k0' : w7.cell? ⟨g6, 0, none⟩ = some (.int .i64 x.kind) := m7.blk.cell 0
             have k1' : w7.cell? ⟨g6, 1, none⟩ = some (.slice A1 x.key.length c1) := m7.blk.cell 1)
          | (refine step_appb (by rfl) (.tmp 23) (.tmp 27) (by rfl) (w.heap.size + 1) (.slice A n c) n xs (by rfl) ((own5.alloc (.cells #[.int .u8 (x.kind % 256)] 5)).alloc (.cells #[.slice A1 x.key.length c1] 22)).drew _ _ 1 1 [x.kind % 256] (by rfl) (by rfl) ((Rd.lit w5 _ _).alloc (by simp) (.cells #[.slice A1 x.key.length c1] 22)) (by omega) (by show _ ≤ ((w5.alloc _).alloc _).heap.size; simp; omega) ?_
             intro A7 c7 w7 happ7 _
             have m7 := ((m5.alloc (.cells #[.int .u8 (x.kind % 256)] 5)).alloc (.cells #[.slice A1 x.key.length c1] 22)).drew.app happ7
             have k0' : w7.cell? ⟨g6, 0, none⟩ = some (.int .i64 x.kind) := m7.blk.cell 0
             have k1' : w7.cell? ⟨g6, 1, none⟩ = some (.slice A1 x.key.length c1) := m7.blk.cell 1
             have bl7 := Bk.beside (gl := w5.heap.size + 1) (t := 22) (cs := #[.slice A1 x.key.length c1]) (W := ((w5.alloc (.cells #[.int .u8 (x.kind % 256)] 5)).alloc (.cells #[.slice A1 x.key.length c1] 22)).drew) (by have h := Bk.new (w5.alloc (.cells #[.int .u8 (x.kind % 256)] 5)) 22 #[.slice A1 x.key.length c1]; rw [World.size_alloc] at h; exact h) happ7 (fun e => by have := hA5 _ e; omega))
          | (refine step_appb (by rfl) (.tmp 23) (.tmp 27) (by rfl) (w.heap.size + 1) (.slice A n c) n xs (by rfl) ((own5.alloc (.cells #[.slice A1 x.key.length c1] 22)).alloc (.cells #[.int .u8 (x.kind % 256)] 5)).drew _ _ 1 1 [x.kind % 256] (by rfl) (by rfl) (Rd.lit' (w := w5.alloc (.cells #[.slice A1 x.key.length c1] 22)) (cs := #[.int .u8 (x.kind % 256)]) (t := 5) (g := w5.heap.size + 1) (by simp)) (by omega) (by show _ ≤ ((w5.alloc _).alloc _).heap.size; simp; omega) ?_
             intro A7 c7 w7 happ7 _
             have m7 := ((m5.alloc (.cells #[.slice A1 x.key.length c1] 22)).alloc (.cells #[.int .u8 (x.kind % 256)] 5)).drew.app happ7
             have k0' : w7.cell? ⟨g6, 0, none⟩ = some (.int .i64 x.kind) := m7.blk.cell 0
             have k1' : w7.cell? ⟨g6, 1, none⟩ = some (.slice A1 x.key.length c1) := m7.blk.cell 1
             have bl7 := Bk.beside (gl := w5.heap.size) (t := 22) (cs := #[.slice A1 x.key.length c1]) (W := ((w5.alloc (.cells #[.slice A1 x.key.length c1] 22)).alloc (.cells #[.int .u8 (x.kind % 256)] 5)).drew) ((Bk.new w5 _ _).alloc _) happ7 (fun e => by have := hA5 _ e; omega))
          | (go_at_call_of 41 (Value.slice (some ⟨w7.heap.size, 0, none⟩) 1 1)
             refine (batPieces (base := w.heap.size + 1) (A1 := A1) (c1 := c1) (m := x.key.length) (B := B) (xs := xs ++ [x.kind % 256]) (zs := x.key) _ (happ7.own.alloc _) (by simp; have := happ7.heap; have := m7.hb.size; have := m7.blk.lt; omega) ((Bk.new w7 22 #[.slice A1 x.key.length c1]).cell 0)
               (m7.alloc _).rk rfl (by simp; have := m7.hb.size; have := m7.hB; omega) (fun e => by have := (happ7.own.lt _ e).2; omega) (fun r e => by have := (m7.hv r e).1; omega) (by simp) (by omega)).mono ?_
             rintro e w9 ⟨A9, c9, rfl, happ9, hne9⟩
             have m9 := (m7.alloc _).app happ9
             have k0'' : w9.cell? ⟨g6, 0, none⟩ = some (.int .i64 x.kind) := m9.blk.cell 0
             have k1'' : w9.cell? ⟨g6, 1, none⟩ = some (.slice A1 x.key.length c1) := m9.blk.cell 1)
          | (go_at_call 41
             refine (batPieces (base := w.heap.size + 1) (A1 := A1) (c1 := c1) (m := x.key.length) (B := B) (xs := xs ++ [x.kind % 256]) (zs := x.key) _ happ7.own (by have := happ7.heap; have := m7.hb.size; have := m7.blk.lt; omega) (bl7.1.cell 0)
               m7.rk rfl (by have := m7.hb.size; have := m7.hB; omega) bl7.2 (fun r e => by have := (m7.hv r e).1; omega) bl7.1.lt (by omega)).mono ?_
             rintro e w9 ⟨A9, c9, rfl, happ9, hne9⟩
             have m9 := m7.app happ9
             have k0'' : w9.cell? ⟨g6, 0, none⟩ = some (.int .i64 x.kind) := m9.blk.cell 0
             have k1'' : w9.cell? ⟨g6, 1, none⟩ = some (.slice A1 x.key.length c1) := m9.blk.cell 1)
          | fail)
      all_goals
        have hlen9 : n + 1 + (pieEnc x.key).length ≤ 20 + 1024 * 80000 + 4107 := by
          have h1 := numEnc_len10 (x := x.key.length) (by omega)
          rw [pieEnc, List.length_append]
          omega
        have hw9 : w.heap.size + 1 ≤ w9.heap.size := by have := m9.hg; have := m9.blk.lt; omega
        have k2 : w9.cell? ⟨g6, 2, none⟩ = some (.slice A2 x.val.length c2) := m9.blk.cell 2
        have hown9 := happ9.own
        clear happ9 happ7 m7
        by_cases hk1 : x.kind = 1
        · have hk1b : (x.kind == 1) = true := by simp [hk1]
          have hnx := HNX.out
          rw [wrEnc, if_pos hk1, ← List.append_assoc, ← List.append_assoc] at hnx
          have HNX := Lib.hid hnx
          clear hnx hk1
          go_wp2_with fail
          refine (batPieces (base := w.heap.size + 1) (A1 := A2) (c1 := c2) (m := x.val.length) (B := B) (zs := x.val) _ (hown9.alloc _) (by simp; omega) ((Bk.new w9 22 #[.slice A2 x.val.length c2]).cell 0)
            (m9.alloc _).rv rfl (by simp; have := m9.hb.size; have := m9.hB; omega) (fun e => by have := (hown9.lt _ e).2; omega) (fun r e => by have := (m9.hv r e).1; have := m9.hB; omega) (by simp) (by omega)).mono ?_
          rintro e w11 ⟨A11, c11, rfl, happ11, hne11⟩
          have m11 := (m9.alloc _).app happ11
          go_wp2
          go_roundw
          case rel =>
            have hlq : n + 1 + (pieEnc x.key).length + (pieEnc x.val).length = (hd ++ wsEnc (ws.take (j + 1))).length := by
              rw [HNX.out, List.length_append, List.length_append, List.length_append, ← HNN.out]
              rfl
            refine ⟨j + 1, A11, c11, n + 1 + (pieEnc x.key).length + (pieEnc x.val).length, by omega, by go_num, rfl, hlq, ?_, m11.hb, by have := m11.hg; have := m11.blk.lt; omega⟩
            have := happ11.own
            rw [HNX.out]
            simpa [List.append_assoc] using this
          case measure => simp [intOf]; omega
        · have hk1b : (x.kind == 1) = false := by simp [hk1]
          have hnx := HNX.out
          rw [wrEnc, if_neg hk1, List.append_nil, ← List.append_assoc] at hnx
          have HNX := Lib.hid hnx
          clear hnx hk1
          go_wp2
          go_roundw
          case rel =>
            have hlq : n + 1 + (pieEnc x.key).length = (hd ++ wsEnc (ws.take (j + 1))).length := by
              rw [HNX.out, List.length_append, List.length_append, ← HNN.out]
              rfl
            refine ⟨j + 1, A9, c9, n + 1 + (pieEnc x.key).length, by omega, by go_num, rfl, hlq, ?_, m9.hb, hw9⟩
            rw [HNX.out]
            simpa [List.append_assoc] using hown9
          case measure => simp [intOf]; omega
    · have hjn : j = nw := by omega
      have htk : ws.take j = ws := List.take_of_length_le (by rw [HN.out]; omega)
      have hfull : hd ++ wsEnc (ws.take j) = batEnc seq ws := by rw [htk, HBE.out, batEnc, HN.out]
      rw [hfull] at hnn howr
      have hpos : 0 < n := by
        have := numEnc_pos seq
        rw [hnn, batEnc, List.length_append, List.length_append]
        omega
      obtain ⟨g, cap, hv, hge, _⟩ := howr.form hpos
      injection hv with hv1 hv2 hv3
      subst hv1
      clear hfull htk hv2 hv3
      go_wp2
      go_ret
      rw [hnn] at howr ⊢
      exact ⟨some ⟨g, 0, none⟩, c, rfl, ⟨ownsRow_down howr (by omega), ⟨hbr.os, hbr.tape, hbr.output, hbr.size, fun k hk _ => hbr.block k hk⟩, .inr ⟨g, rfl, by omega⟩⟩, by simp⟩
end Go.Proofs.Ytpjdlcdkldomlaa
