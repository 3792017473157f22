/- Texts of the proof of VfsScriptSaid, joined: VgL VgM VgN VgO VgP VgQ VrA VrB. -/
import Derived.RangeFuncNested
import Derived.RangeFuncBound
import Derived.RangeFuncCalls
import Derived.RangeFuncLeaves
import Derived.RangeFuncBox
import Derived.Shelf.Abstract
import Derived.Shelf.RegionOpen
import Derived.WalkKit
import Derived.OwnWalkIn
import Derived.TacticsInMore
import Derived.LoopNIn
import Derived.LoopIn
import Derived.Maps.AppendAt
import Derived.Sort.QuietIn
import Derived.Deep.Onto
import Derived.Test.YtdjmmdhjjdnbdaaJVfsScript11
import Derived.Maps.OwnIn
import Derived.Test.YtdjmmdhjjdnbdaaJVfsScript2
import Derived.Deep.RegionHeld3
import Derived.Test.YtdjmmdhjjdnbdaaJVfsScript3
/- Layer 4: the iterator 'sorted'. -/
namespace Go.Proofs.Ytdjmmdhjjdnbdaa
open Go.RowKit Go.Shelf
attribute [local go_sem] Oper.semAt_some

/-- What a round keeps: cells, but those that it may change (Z); maps below n; and what it may change is what it might, or is new. -/
structure KpZ (n : Nat) (Z : World → Nat → Prop) (W W' : World) : Prop where
  size : W.heap.size ≤ W'.heap.size
  cells : ∀ b cs t fr, W.heap[b]? = some (.cells cs t fr) → ¬Z W b → W'.heap[b]? = W.heap[b]?
  maps : ∀ b es c, b < n → W.heap[b]? = some (.map es c) → W'.heap[b]? = W.heap[b]?
  own : ∀ b, Z W' b → Z W b ∨ W.heap.size ≤ b
section
variable {n : Nat} {Z : World → Nat → Prop} {A B C : World}
theorem KpZ.refl (W : World) : KpZ n Z W W := ⟨Nat.le_refl _, fun _ _ _ _ _ _ => rfl, fun _ _ _ _ _ => rfl, fun _ h => .inl h⟩
theorem KpZ.trans (h : KpZ n Z A B) (k : KpZ n Z B C) : KpZ n Z A C where
  size := Nat.le_trans h.size k.size
  cells b cs t fr hb hz := by
    have h1 := h.cells b cs t fr hb hz
    have hl := (Array.getElem?_eq_some_iff.1 hb).1
    refine (k.cells b cs t fr (h1.trans hb) fun e => ?_).trans h1
    rcases h.own b e with h2 | h2
    · exact hz h2
    · omega
  maps b es c hn hb := by
    have h1 := h.maps b es c hn hb
    exact (k.maps b es c hn (h1.trans hb)).trans h1
  own b e := by
    rcases k.own b e with h1 | h1
    · exact h.own b h1
    · exact .inr (Nat.le_trans h.size h1)
/-- Z hangs on what lies below n alone. -/
def Zlow (n : Nat) (Z : World → Nat → Prop) : Prop := ∀ W W', Below n W W' → ∀ b, Z W' b → Z W b
theorem KpZ.put (hz : Zlow n Z) (W : World) (l : Nat) (o o' : Obj) (hl : n ≤ l) (h : W.heap[l]? = some o) (hc : o.isCells = false) : KpZ n Z W (W.putObj l o') where
  size := by simp [World.putObj]
  cells b cs t fr hb _ := World.putObj_heap_other (fun e => by
    subst e
    rw [h] at hb
    cases hb
    cases hc)
  maps b es c hn _ := World.putObj_heap_other (by omega)
  own b e := .inl (hz W _ ((Below.refl n W).grown (grownBy_putObj' W l o') (by have := (Array.getElem?_eq_some_iff.1 h).1; omega) (fun k e => by cases e; omega)) b e)
end
/-- A name and its file, out of L. -/
abbrev Nf (L : List (ByteArray × Nat)) := { p : ByteArray × Nat // p ∈ L }
/-- All of them, in order. -/
def AllNf (L : List (ByteArray × Nat)) (xs : List (Nf L)) : Prop := SortV (xs.map fun x => x.1.1) ∧ (xs.map (·.1)).Perm L
theorem pairs_of {L : List (ByteArray × Nat)} (hn : (L.map (·.1)).Nodup) {l : List ByteArray} (h : l.Perm (L.map (·.1))) : ∃ xs : List (Nf L), xs.map (fun x => x.1.1) = l ∧ (xs.map (·.1)).Perm L := by
  have hl : l.Nodup := h.nodup_iff.2 hn
  have hg : ∀ s ∈ l, (s, (mgGet s L).getD 0) ∈ L := fun s hs => by
    obtain ⟨p, hp, rfl⟩ := List.mem_map.1 (h.mem_iff.1 hs)
    rw [mgGet_some (v := p.2) hn hp]
    exact hp
  have hp : (l.map fun s => (s, (mgGet s L).getD 0)).Perm L := by
    refine (List.perm_ext_iff_of_nodup ?_ (nodup_of_map hn)).2 fun p => ⟨fun hp => ?_, fun hp => ?_⟩
    · refine nodup_of_map (f := (·.1)) ?_
      have e : (l.map fun s => (s, (mgGet s L).getD 0)).map (·.1) = l := by
        rw [List.map_map]
        exact List.map_id l
      rw [e]
      exact hl
    · obtain ⟨s, hs, rfl⟩ := List.mem_map.1 hp
      exact hg s hs
    · refine List.mem_map.2 ⟨p.1, h.mem_iff.2 (List.mem_map.2 ⟨p, hp, rfl⟩), ?_⟩
      rw [mgGet_some (v := p.2) hn hp]
      rfl
  refine ⟨l.attach.map fun s => ⟨(s.1, (mgGet s.1 L).getD 0), hg s.1 s.2⟩, ?_, ?_⟩
  · rw [List.map_map]
    exact List.attach_map_subtype_val l
  · rw [List.map_map]
    have e : (l.attach.map ((fun x : Nf L => x.1) ∘ fun s => (⟨(s.1, (mgGet s.1 L).getD 0), hg s.1 s.2⟩ : Nf L))) = l.map fun s => (s, (mgGet s L).getD 0) := by
      conv => rhs; rw [← List.attach_map_subtype_val l]
      rw [List.map_map]
      rfl
    rw [e]
    exact hp
set_option maxRecDepth 100000 in
theorem vfSortedFn (N : Nat) (mb : Option Nat) (w : World) :
    CallsIn Fence.wide N Try.prog 47 #[.map mb] w fun e w' => e = .returned (.func (.func 72) #[] #[ptV w.heap.size]) ∧ w' = w.alloc (.cells #[.map mb] 56) := by
  have hmf : ∀ (fn : Fn) (first cap : Array Value) (w : World), (Instr.makeFunc fn first cap).run Try.prog w = .ok (.func fn first cap) w := fun _ _ _ _ => rfl
  refine callsIn_of_wp Try.func47 rfl trivial ?_ rfl
  simp only [Try.ntmps47, List.size_toArray, List.length_cons, List.length_nil, Nat.reduceAdd, Nat.reduceSub, Array.replicate_succ, Array.replicate_zero, List.push_toArray, List.append_toArray, List.nil_append, List.cons_append]
  gi_wp2
  go_ret
  exact ⟨rfl, rfl⟩
set_option maxRecDepth 100000 in
set_option maxHeartbeats 2000000 in
theorem sorted1_in (N : Nat) (hN : 1 ≤ N) (l mb Bn n0 : Nat) (Z : World → Nat → Prop) (hZ : Zlow n0 Z) (L : List (ByteArray × Nat)) (fb : Nat → Nat) (hs : ∀ p ∈ L, p.1.size ≤ maxLen) (hl : L.length ≤ 100000)
    (J Jx : List (Nf L) → World → Prop) (W : World) (hJ : AbidesFrom W.heap.size J) (hM : Mh strV (fiV fb) W mb L) (hB : Bk W Bn 56 #[maV mb]) (hmb : mb < n0) (hBn : Bn < n0) (hn0 : n0 ≤ W.heap.size) (hZB : ¬Z W Bn) (hZl : ∀ b, Z W b → b < W.heap.size) (hJ0 : J [] W)
    (hY : ∀ pre x W1, J pre W1 → pre.length < L.length → YieldAt Fence.wide (N - 1) Try.prog l #[.string x.1.1, ptV (fb x.1.2)] W1 fun e W' =>
      (e = .returned (.bool true) ∧ J (pre ++ [x]) W' ∧ KpZ n0 Z W1 W') ∨ (e = .returned (.bool false) ∧ Jx (pre ++ [x]) W')) :
    CallsIn Fence.wide N Try.prog 72 #[.func (.yield l) #[] #[], ptV Bn] W fun e W' => (∃ v, e = .returned v) ∧
      ((∃ xs, AllNf L xs ∧ J xs W') ∨ (∃ pre : List (Nf L), True ∧ Jx pre W')) := by
  have c0 : W.cell? ⟨Bn, 0, none⟩ = some (maV mb) := by rw [hB.cell 0]; rfl
  have cK := vfKeys (some mb) W
  have cS := vfSorted W hM hs hl
  have HY := Lib.hid hY
  have HJ := Lib.hid hJ
  have HM := Lib.hid hM
  have HB := Lib.hid hB
  have HZB := Lib.hid hZB
  have HZL := Lib.hid hZl
  have HZ := Lib.hid hZ
  clear hY hJ hM hB hZB hZl hZ hs
  refine callsIn_of_wp Try.func72 rfl trivial ?_ rfl
  simp only [Try.ntmps72, List.size_toArray, List.length_cons, List.length_nil, Nat.reduceAdd, Nat.reduceSub, Array.replicate_succ, Array.replicate_zero, List.push_toArray, List.append_toArray, List.nil_append, List.cons_append]
  gi_wp2_with (first
    | (refine ⟨trivial, ?_⟩; gi_at_call 74; refine (callsIn_wide.2 cK).mono ?_; rintro e w' ⟨rfl, rfl⟩)
    | (refine ⟨trivial, ?_⟩; gi_at_call 73; refine (callsIn_wide.2 cS).mono ?_; rintro e W2 ⟨A, c, zs, rfl, hso, hpe, hrow, hbel⟩))
  have hb0 : Below n0 W W2 := (((Below.refl _ W).alloc hn0 _).trans (hbel.mono (by simp; omega)))
  have hWs : W.heap.size < W2.heap.size := by
    have := hbel.size
    simp at this
    omega
  have hJ2 : J [] W2 := HJ.out [] W W2 none hJ0 ⟨hb0.os, hb0.tape, hb0.output, hb0.size, fun b hb _ => (hbel.block b (by simp; omega)).trans (Below.heap_alloc W _ b hb)⟩ fun r e => by cases e
  have hM2 := HM.out.of ((hbel.block mb (by have := HM.out.lt; simp; omega)).trans (Below.heap_alloc W _ mb HM.out.lt))
  have hB2 := (HB.out.alloc (.cells #[maV mb] 56)).below hbel (by have := HB.out.lt; simp; omega)
  obtain ⟨xs, hx1, hx2⟩ := pairs_of HM.out.nodup hpe
  have hxl : xs.length = zs.length := by rw [← hx1, List.length_map]
  have hxL : xs.length = L.length := by rw [← hx2.length_eq, List.length_map]
  have hall : AllNf L xs := ⟨by rw [hx1]; exact hso, hx2⟩
  have hZ2 : ∀ b, Z W2 b → b < W.heap.size ∧ Z W b := fun b e => by
    have := HZ.out W W2 hb0 b e
    exact ⟨HZL.out b this, this⟩
  have hlo : ∀ g, (Value.slice A zs.length c).ownBlock = some g → W.heap.size ≤ g := fun g hg => by
    have := (hrow.lt g hg).1
    simp at this
    omega
  have JJ := Lib.hid hJ2
  have M2 := Lib.hid hM2
  have B2 := Lib.hid hB2
  have X1 := Lib.hid hx1
  have XL := Lib.hid hxL
  have XZ := Lib.hid hxl
  have ALL := Lib.hid hall
  have Z2 := Lib.hid hZ2
  have ROW := Lib.hid hrow
  have LO := Lib.hid hlo
  have hzl : zs.length ≤ 100000 := by omega
  clear hb0 hJ2 hM2 hB2 hx1 hx2 hxl hxL hall hZ2 hrow hlo hso hpe hbel hJ0 cK cS c0
  generalize hn : zs.length = n at *
  have HN := Lib.hid hn
  clear hn
  gi_loopw [9] (fun i_ wr => ∃ k : Nat, k ≤ n ∧ i_ = .int .i64 k ∧ Hid (KpZ n0 Z W2 wr) ∧ Hid (J (xs.take k) wr)) (fun i_ _ => n - (intOf i_).toNat)
  case atStart => exact ⟨0, Nat.zero_le _, rfl, Lib.hid (KpZ.refl W2), JJ⟩
  case round =>
    obtain ⟨k, hk, rfl, HK, HJ1⟩ := hrel
    by_cases hlt : k < n
    · have hlt' : decide ((k : Int) < (n : Int)) = true := by simp; omega
      obtain ⟨x, hx⟩ : ∃ x, xs[k]? = some x := ⟨_, List.getElem?_eq_getElem (by rw [XZ.out]; exact hlt)⟩
      have hz : zs[k]? = some x.1.1 := by rw [← X1.out, List.getElem?_map, hx]; rfl
      have hBw : Bk wr Bn 56 #[maV mb] := (HK.out.cells Bn _ _ _ B2.out fun e => HZB.out (Z2.out Bn e).2).trans B2.out
      have c0 : wr.cell? ⟨Bn, 0, none⟩ = some (maV mb) := by rw [hBw.cell 0]; rfl
      obtain ⟨es, cl, hob⟩ := M2.out.obj
      have hMw : Mh strV (fiV fb) wr mb L := M2.out.of (HK.out.maps mb es cl hmb hob)
      have hlk : (Instr.lookup 56 (.map (some mb)) (.string x.1.1) false).run Try.prog wr = .ok (ptV (fb x.1.2)) wr := by
        have := run_mhLook (z := .pointer none) (e := 65) (strRun Try.underlying9) Try.underlying56 (by simp [Try.zeroValue65]) hMw x.1.1 false
        rw [mgGet_some (v := x.1.2) hMw.nodup x.2] at this
        exact this
      have hrw : wr.ownsRow (W.alloc (.cells #[maV mb] 56)).heap.size 9 1 (.slice A n c) n (zs.map strV) := own_of ROW.out fun g hg => by
        obtain ⟨cur, hc⟩ := own_bk ROW.out hg
        exact HK.out.cells g _ _ _ hc fun e => by
          have h1 := (Z2.out g e).1
          have h2 := LO.out g hg
          omega
      obtain ⟨bz, oz, eA, hcz⟩ := Rs.get (Rd.of_own hrw) hz
      obtain ⟨fn, tmps, assign, body, hy, hR⟩ := HY.out (xs.take k) x wr HJ1.out (by rw [List.length_take, ← XL.out]; have := XZ.out; omega)
      have hts : xs.take (k + 1) = xs.take k ++ [x] := take_snoc hx
      have HT := Lib.hid hts
      subst eA
      clear hx hz hBw hob hMw hrw hts
      gi_wp2
      refine hR.mono ?_
      rintro e W3 (⟨rfl, hJ3, hk3⟩ | ⟨rfl, hJx3⟩)
      · have HK3 := Lib.hid (HK.out.trans hk3)
        have HJ3 : Hid (J (xs.take (k + 1)) W3) := Lib.hid (by rw [HT.out]; exact hJ3)
        clear hJ3 hk3
        gi_wp2
        exact ⟨⟨k + 1, by omega, by go_num, HK3, HJ3⟩, by simp only [intOf]; omega⟩
      · gi_wp2
        refine bodyPost_ret (results_none rfl _ _ _) rfl ?_
        exact ⟨⟨_, rfl⟩, .inr ⟨_, trivial, hJx3⟩⟩
    · have hlt' : decide ((k : Int) < (n : Int)) = false := by simp; omega
      gi_wp2
      go_end0
      refine ⟨⟨_, rfl⟩, .inl ⟨xs, ALL.out, ?_⟩⟩
      have := HJ1.out
      rwa [List.take_of_length_le (by rw [XZ.out]; omega)] at this
theorem sorted_stops (N : Nat) (hN : 1 ≤ N) (mb Bn : Nat) (Z : World → Nat → Prop) (L : List (ByteArray × Nat)) (fb : Nat → Nat) (hs : ∀ p ∈ L, p.1.size ≤ maxLen) (hl : L.length ≤ 100000) (w : World) (hZ : Zlow w.heap.size Z)
    (hM : Mh strV (fiV fb) w mb L) (hB : Bk w Bn 56 #[maV mb]) (hZB : ¬Z w Bn) (hZl : ∀ b, Z w b → b < w.heap.size) :
    SeqStopsK Fence.wide N Try.prog 72 #[ptV Bn] (fun x : Nf L => #[.string x.1.1, ptV (fb x.1.2)]) (KpZ w.heap.size Z) (AllNf L) (fun _ => True) L.length w := fun l J Jx W hW hJ _ hY hj =>
  sorted1_in N hN l mb Bn w.heap.size Z hZ L fb hs hl J Jx W hJ (hM.bS hW) (hB.below hW hB.lt) hM.lt hB.lt hW.size (fun e => hZB (hZ w W hW _ e)) (fun b e => Nat.lt_of_lt_of_le (hZl b (hZ w W hW b e)) hW.size) hj hY
end Go.Proofs.Ytdjmmdhjjdnbdaa

/- Layer 4: Names. -/
namespace Go.Proofs.Ytdjmmdhjjdnbdaa
open Go.RowKit Go.Shelf
attribute [local go_sem] Oper.semAt_some

theorem strinfoV : (Try.prog.info? 9).map (fun i => (i.zero, i.size, i.bytes)) = some (some (.string ⟨#[]⟩), 1, 16) := by kernel_rfl
/-- What Names may change: its box, and the row that lies in it. -/
def ZBox (B : Nat) (W : World) (b : Nat) : Prop := b = B ∨ ∃ v, W.cell? ⟨B, 0, none⟩ = some v ∧ v.ownBlock = some b
theorem ZBox.low {B n : Nat} (h : B < n) : Zlow n (ZBox B) := fun W W' hb b e => by
  rcases e with e | ⟨v, h1, h2⟩
  · exact .inl e
  · exact .inr ⟨v, (hb.cell (p := ⟨B, 0, none⟩) h).symm.trans h1, h2⟩
/-- Names of a directory, in order. -/
def NamesPost (w : World) (L : List (ByteArray × Nat)) (e : Ending) (w' : World) : Prop :=
  ∃ A c l, e = .returned (.slice A l.length c) ∧ SortV l ∧ l.Perm (L.map (·.1)) ∧ Rd w' w'.heap.size A (l.map strV) ∧ (∀ a, A = some a → w.heap.size ≤ a.block) ∧ Below w.heap.size w w'
set_option maxRecDepth 100000 in
set_option maxHeartbeats 2000000 in
theorem vfNames {base F : Nat} {w : World} {K : Nat → Prop} {S : VSt} {m : VMem} (h : Vf base w K F S m) (hs : ∀ p ∈ S.now, p.1.size ≤ 64) (hl : S.now.length ≤ 100000) :
    Calls Try.prog 19 #[ptV F] w (NamesPost w S.now) := by
  refine (callsIn_wide (n := 4)).1 ?_
  obtain ⟨i0, hi, hz0, hz1, hz2⟩ := info_parts strinfoV
  have cN := (vfNone h).mono fun e w' he => And.intro he.1 he.2.symm
  have hF0 := (h.lo F h.kF).2
  have b0 : (w.alloc (.cells #[.slice none 0 0] 36)).cell? ⟨F, 2, none⟩ = some (maV m.db) := by rw [(h.blk.alloc _).cell 2]; rfl
  have hdL : ∀ p ∈ m.D, p.1.size ≤ maxLen := fun p hp => by
    have := hs p (h.dirP.mem_iff.1 hp)
    simp only [maxLen]
    omega
  have hdl : m.D.length ≤ 100000 := by rw [h.dirP.length_eq]; exact hl
  have hM := (h.dir.alloc (.cells #[.slice none 0 0] 36)).alloc (.cells #[maV m.db] 56)
  have hB := Bk.new (w.alloc (.cells #[.slice none 0 0] 36)) 56 #[maV m.db]
  have hO := (Boxed.new w 36 (.slice none 0 0)).alloc (.cells #[maV m.db] 56)
  have hb2 : Below w.heap.size w ((w.alloc (.cells #[.slice none 0 0] 36)).alloc (.cells #[maV m.db] 56)) := ((Below.refl _ w).alloc (Nat.le_refl _) _).alloc (by simp) _
  obtain ⟨w2, e2⟩ : ∃ w2, (w.alloc (.cells #[.slice none 0 0] 36)).alloc (.cells #[maV m.db] 56) = w2 := ⟨_, rfl⟩
  have s2 : w2.heap.size = w.heap.size + 2 := by rw [← e2]; simp
  rw [e2] at hM hB hO hb2
  rw [World.size_alloc] at hB
  have hD := h.dirP
  have HD := Lib.hid hD
  have HE := Lib.hid e2
  have HM := Lib.hid hM
  have HB := Lib.hid hB
  have HO := Lib.hid hO
  have HB2 := Lib.hid hb2
  have HDL := Lib.hid hdL
  have hdb := h.dir.lt
  have S2 := Lib.hid s2
  clear h hM hB hO hb2 hdL hD e2 s2 hs hl
  refine callsIn_of_wp_marks Try.func19 rfl trivial ?_ rfl
  simp only [Try.ntmps19, List.size_toArray, List.length_cons, List.length_nil, Nat.reduceAdd, Nat.reduceSub, Array.replicate_succ, Array.replicate_zero, List.push_toArray, List.append_toArray, List.nil_append, List.cons_append]
  gi_wp2_with (first
    | (refine ⟨trivial, ?_⟩; gi_at_call 44; refine (callsIn_wide.2 cN).mono ?_; rintro e w' ⟨rfl, rfl⟩)
    | (refine ⟨trivial, ?_⟩; gi_at_call 47; refine (vfSortedFn _ _ _).mono ?_; rintro e w' ⟨rfl, rfl⟩))
  rw [HE.out]
  have hs2 := S2.out
  refine wpIn_rangeFunc_ownG rfl (by omega) (gf := 72) (lb := #[ptV (w.heap.size + 1)]) rfl trivial (enters_of Try.func72 (by kernel_rfl) rfl)
    (sorted_stops 3 (by omega) m.db (w.heap.size + 1) (ZBox w.heap.size) m.D m.fb HDL.out hdl w2 (ZBox.low (by omega)) HM.out HB.out (fun e => by
      rcases e with e | ⟨v, h1, h2⟩
      · omega
      · rw [HO.out.cell] at h1
        cases h1
        cases h2) (fun b e => by
      rcases e with e | ⟨v, h1, h2⟩
      · omega
      · rw [HO.out.cell] at h1
        cases h1
        cases h2)) (fun a b => a.trans b) (fun W l o o' hl ho hc _ => KpZ.put (ZBox.low (by omega)) W l o o' hl ho hc) (Below.refl _ _) (fun _ => rfl)
    (fun (pre : List (Nf m.D)) W => (∃ v, Boxed W w.heap.size 36 v ∧ W.ownsRow w2.heap.size 9 1 v pre.length (pre.map fun x : Nf m.D => strV x.1.1) ∧ True) ∧ Below w.heap.size w W ∧ Boxed W (w.heap.size + 1) 56 (maV m.db))
    (fun _ _ _ => False)
    (OwnFrom.and (Own.from (holdsRow_own w2.heap.size w.heap.size 36 9 1 (fun pre : List (Nf m.D) => pre.length) (fun pre : List (Nf m.D) => pre.map fun x => strV x.1.1) (fun _ _ => True)) _) (OwnFrom.and (ownFrom_below (Nat.le_refl _) (by omega)) (Own.from (boxed_own _ _ _) _)))
    (fun _ _ _ _ _ hs _ _ => hs)
    ⟨⟨_, HO.out, World.ownsRow_nil _ _ _ _, trivial⟩, HB2.out, HB.out⟩
    (fun x => { tmps := #[ptV F, undef, .slice none 0 0, ptV w.heap.size, .string x.1.1, ptV F, .bool false, ptV F, ptV F, .pointer (some ⟨F, 2, none⟩), maV m.db, .func (.func 72) #[] #[ptV (w.heap.size + 1)], .string x.1.1, ptV (m.fb x.1.2), undef, undef, undef, undef, undef], defers := [] }) ?assign ?body ?done ?stop
  case assign =>
    intro l x W K hK
    gi_wp2
    exact hK
  case body =>
    rintro l pre x W ⟨⟨v, hv, hrow, _⟩, hB, hbx⟩ hlt
    have hsz2 := hbx.lt
    have HBX := Lib.hid hbx
    clear hbx
    have hc := hv.cell
    have hf := hv.frozen
    have hsz := hB.size
    have hne := hv.not_row (by decide) hrow
    have HRW := Lib.hid hrow
    have HVV := Lib.hid hv
    have HBB := Lib.hid hB
    have HNE := Lib.hid hne
    clear hrow hv hB hne
    gi_wp2_with (gi_at_builtin; go_loud (refine wpListIn_append_own_at _ rfl _ _ 36 rfl w2.heap.size 9 i0 (.string ⟨#[]⟩) 1 16 Try.underlying36 hi hz0 hz1 hz2 rfl (by decide) _ _ _ rfl (HRW.out.alloc _) ⟨W.heap.size, 0, none⟩ 1 1 [.string x.1.1] rfl rfl (cell_one_new _ _ _) (by simp [Value.oneCell']) (by simp only [maxLen]; omega) (by omega) (by simp; omega) ?_); intro v' w1 hown' hgrow _ hblk; go_loud (obtain ⟨g', cap', rfl⟩ := ownsRow_succ hown'); go_loud (have hv1 := (HVV.out.alloc (.cells #[.string x.1.1] 9)).kept hgrow HNE.out); have hc1 := hv1.cell; have hf1 := hv1.frozen)
    have hW' : Boxed (w1.setCell ⟨w.heap.size, 0, none⟩ (.slice (some ⟨g', 0, none⟩) (pre.length + 1) cap')) w.heap.size 36 (.slice (some ⟨g', 0, none⟩) (pre.length + 1) cap') := hv1.set _
    have hvo : ∀ g, v.ownBlock = some g → w2.heap.size ≤ g := fun g hg => (HRW.out.lt g hg).1
    have hsz1 : W.heap.size ≤ w1.heap.size := by
      have := hgrow.size
      simp at this
      omega
    have hkeep : ∀ b, b < W.heap.size → b ≠ w.heap.size → v.ownBlock ≠ some b → (w1.setCell ⟨w.heap.size, 0, none⟩ (.slice (some ⟨g', 0, none⟩) (pre.length + 1) cap')).heap[b]? = W.heap[b]? := fun b hb h1 h2 =>
      (Below.heap_setCell w1 ⟨w.heap.size, 0, none⟩ _ b h1).trans ((hgrow.block b (by simp; omega) (fun e => h2 e.symm)).trans (Below.heap_alloc W _ b hb))
    refine ⟨⟨by simp; omega, fun k o hk hko hoc => ?_⟩, ⟨by simp; omega, fun b cs t fr hb hz => ?_, fun b es c hn hb => ?_, fun b e => ?_⟩, ⟨_, hW', ?_, trivial⟩, ?_, ?_⟩
    · have hkl := (Array.getElem?_eq_some_iff.1 hko).1
      refine (hkeep k hkl (by omega) (fun e => ?_)).trans hko
      obtain ⟨cur, hc2⟩ := own_bk HRW.out e
      rw [show W.heap[k]? = _ from hc2] at hko
      cases hko
      cases hoc
    · exact hkeep b (Array.getElem?_eq_some_iff.1 hb).1 (fun e => hz (.inl e)) (fun e => hz (.inr ⟨v, hc, e⟩))
    · refine hkeep b (Array.getElem?_eq_some_iff.1 hb).1 (fun e => ?_) (fun e => ?_)
      · rw [e, show W.heap[w.heap.size]? = _ from HVV.out] at hb
        cases hb
      · have := hvo b e
        omega
    · rcases e with e | ⟨u, h1, h2⟩
      · exact .inl (.inl e)
      · rw [hW'.cell] at h1
        cases h1
        rcases hblk with h3 | h3
        · exact .inl (.inr ⟨v, hc, h3.symm.trans h2⟩)
        · rw [h3] at h2
          have := Option.some.inj h2
          simp at this
          exact .inr (by omega)
    · have h1 := World.ownsRow.kept hown' (grownBy_setCell' w1 w.heap.size (.slice (some ⟨g', 0, none⟩) (pre.length + 1) cap')) (.inr (hv1.not_row (by decide) hown').symm)
      simpa using h1
    · exact HBB.out.trans (((Below.refl _ W).alloc hsz _).trans ((grown_below hgrow (by simp; omega) (fun g hg => by have := hvo g hg; omega)).trans ((Below.refl _ w1).setCell (p := ⟨w.heap.size, 0, none⟩) (Nat.le_refl _) _)))
    · refine (hkeep _ HBX.out.lt (by omega) (fun e => ?_)).trans HBX.out
      have := hvo _ e
      omega
  case done =>
    rintro D xs W hD hall ⟨⟨v, hv, hrow, _⟩, hB, _⟩ hK
    have hc := hv.cell
    obtain ⟨A, c, rfl, -, -⟩ := own_form hrow
    gi_wp2
    refine ⟨by simp, .inl ⟨_, _, rfl, run_takeDeferred hK, ?_⟩⟩
    have hp : (xs.map fun x => x.1.1).Perm (S.now.map (·.1)) := by
      have := (hall.2.trans HD.out).map (·.1)
      rw [List.map_map] at this
      exact this
    have hrow2 := ownsRow_putObj hrow (.deferred none) hK rfl
    refine ⟨_, results_tmp rfl _ _ _, A, c, xs.map fun x => x.1.1, by rw [List.length_map]; rfl, hall.1, hp, ?_, fun a ha => ?_, hB.trans (belowK_b (w := w) (Nat.le_refl _) W D _ _ (by omega) hK rfl rfl)⟩
    · have := Rd.of_own hrow2
      rw [List.map_map]
      exact this
    · have := (hrow.lt a.block (by rw [ha]; rfl)).1
      omega
  case stop =>
    rintro D c pre W _ _ h _
    exact h.elim
end Go.Proofs.Ytdjmmdhjjdnbdaa

/- Layer 4: modulo; a file as a crash leaves it. -/
namespace Go.Proofs.Ytdjmmdhjjdnbdaa
open Go.RowKit

theorem modulo_le (n : Int) (t : Nat) : VSt.modulo n t ≤ t := by
  unfold VSt.modulo
  split
  · omega
  · have := Int.emod_lt_of_pos n (show (0 : Int) < (t : Int) + 1 by omega)
    omega
set_option maxRecDepth 100000 in
theorem vfModulo (w : World) (n : Int) (t : Nat) (hn : n ≤ 9223372036854775807) (hn2 : -9223372036854775808 ≤ n) (ht : t ≤ 4611686018427387904) :
    Calls Try.prog 45 #[.int .i64 n, .int .i64 (t : Nat)] w fun e w' => e = .returned (.int .i64 (VSt.modulo n t : Nat)) ∧ w' = w := by
  by_cases h0 : n < 0
  · have e1 : VSt.modulo n t = 0 := by unfold VSt.modulo; rw [if_pos h0]
    rw [e1]
    have hd : decide (n < 0) = true := decide_eq_true h0
    go_enter Try.func45, Try.ntmps45
    go_wp2_with fail
    go_ret
    exact ⟨rfl, rfl⟩
  · have h1 : 0 ≤ n := by omega
    have e1 : ((VSt.modulo n t : Nat) : Int) = n % ((t : Int) + 1) := by
      unfold VSt.modulo
      rw [if_neg h0]
      have := Int.emod_nonneg n (show (t : Int) + 1 ≠ 0 by omega)
      omega
    rw [e1]
    have hd : decide (n < 0) = false := decide_eq_false h0
    clear e1
    go_enter Try.func45, Try.ntmps45
    go_wp2_with fail
    go_ret
    exact ⟨rfl, rfl⟩
theorem own_take {w : World} {base : Nat} {t : TypeId} {n k c : Nat} {A : Option Addr} {xs : List Value} (h : w.ownsRow base t 1 (.slice A n c) n xs) (hk : k ≤ n) : w.ownsRow base t 1 (.slice A k c) k (xs.take k) := by
  refine ⟨by rw [List.length_take]; have := h.1; omega, ?_⟩
  rcases h.2 with ⟨e1, e2⟩ | ⟨g, cap, cur, e1, h2, h3, h4, h5, h6, h7⟩
  · injection e1 with e3 e4 e5
    subst e3
    subst e5
    have : k = 0 := by omega
    subst this
    exact .inl ⟨rfl, rfl⟩
  · injection e1 with e3 e4 e5
    subst e3
    subst e5
    refine .inr ⟨g, c, cur, rfl, h2, h3, by omega, h5, h6, ?_⟩
    rw [← h7, List.take_take]
    congr 1
    omega
theorem kept_le {x : VFile} (hx : x.s ≤ x.b.length) (keep : List Int) (i : Nat) : VSt.kept x keep i ≤ x.b.length := by
  unfold VSt.kept
  cases hk : keep[i]? with
  | none => simp only; omega
  | some k =>
    have := modulo_le k (x.b.length - x.s)
    simp only
    omega
/-- A file as a crash leaves it. -/
def cutFile (x : VFile) (keep : List Int) (i : Nat) : VFile := ⟨x.b.take (VSt.kept x keep i), VSt.kept x keep i⟩
theorem crashGo_snoc (keep : List Int) : ∀ (l : List Nat) (x i : Nat) (fs : List VFile), VSt.crashGo keep (l ++ [x]) i fs = (VSt.crashGo keep l i fs).set x (cutFile ((VSt.crashGo keep l i fs).getD x ⟨[], 0⟩) keep (i + l.length))
  | [], x, i, fs => rfl
  | y :: l, x, i, fs => by
    rw [List.cons_append, VSt.crashGo, VSt.crashGo, crashGo_snoc keep l x (i + 1)]
    rw [List.length_cons, show i + 1 + l.length = i + (l.length + 1) by omega]
theorem crashGo_len (keep : List Int) : ∀ (l : List Nat) (i : Nat) (fs : List VFile), (VSt.crashGo keep l i fs).length = fs.length
  | [], _, _ => rfl
  | y :: l, i, fs => by
    rw [VSt.crashGo, crashGo_len keep l, List.length_set]
theorem crashGo_ok (keep : List Int) : ∀ (l : List Nat) (i : Nat) (fs : List VFile), (∀ x ∈ fs, Byt x.b ∧ x.s ≤ x.b.length) → ∀ x ∈ VSt.crashGo keep l i fs, Byt x.b ∧ x.s ≤ x.b.length
  | [], _, _, h => h
  | y :: l, i, fs, h => by
    rw [VSt.crashGo]
    refine crashGo_ok keep l (i + 1) _ fun x hx => ?_
    by_cases hy : y < fs.length
    · rcases List.mem_or_eq_of_mem_set hx with h1 | h1
      · exact h x h1
      · have h2 := h (fs.getD y ⟨[], 0⟩) (by rw [List.getD_eq_getElem?_getD, List.getElem?_eq_getElem hy]; exact List.getElem_mem hy)
        subst h1
        refine ⟨h2.1.take _, ?_⟩
        have h3 := kept_le h2.2 keep i
        show VSt.kept (fs.getD y ⟨[], 0⟩) keep i ≤ ((fs.getD y ⟨[], 0⟩).b.take (VSt.kept (fs.getD y ⟨[], 0⟩) keep i)).length
        rw [List.length_take]
        omega
    · rw [List.set_eq_of_length_le (by omega)] at hx
      exact h x hx
theorem crashGo_small (keep : List Int) {B : Nat} : ∀ (l : List Nat) (i : Nat) (fs : List VFile), (∀ x ∈ fs, x.b.length ≤ B) → ∀ x ∈ VSt.crashGo keep l i fs, x.b.length ≤ B
  | [], _, _, h => h
  | y :: l, i, fs, h => by
    rw [VSt.crashGo]
    refine crashGo_small keep l (i + 1) _ fun x hx => ?_
    by_cases hy : y < fs.length
    · rcases List.mem_or_eq_of_mem_set hx with h1 | h1
      · exact h x h1
      · have h2 := h (fs.getD y ⟨[], 0⟩) (by rw [List.getD_eq_getElem?_getD, List.getElem?_eq_getElem hy]; exact List.getElem_mem hy)
        subst h1
        show ((fs.getD y ⟨[], 0⟩).b.take (VSt.kept (fs.getD y ⟨[], 0⟩) keep i)).length ≤ B
        rw [List.length_take]
        omega
    · rw [List.set_eq_of_length_le (by omega)] at hx
      exact h x hx
/-- A file is cut, in its place. -/
theorem Vf.cutAt {base F : Nat} {w w' : World} {K : Nat → Prop} {S : VSt} {m : VMem} (h : Vf base w K F S m) {i k c : Nat} {A : Option Addr} {x : VFile} (hx : S.fs[i]? = some x) (hv : m.bv i = .slice A x.b.length c) (hk : k ≤ x.b.length)
    (hf : FrK w w' (Kis (m.fb i))) (hb : Bk w' (m.fb i) 69 #[.slice A k c, .int .i64 (k : Nat)]) :
    Vf base w' K F (S.setFile i ⟨x.b.take k, k⟩) { m with bv := fun j => if j = i then .slice A k c else m.bv j } := by
  have hrow := h.row i x hx
  rw [hv] at hrow
  have hl : (x.b.take k).length = k := by rw [List.length_take]; omega
  have hr' : w'.ownsRow base 5 1 (.slice A k c) (x.b.take k).length (bv (x.b.take k)) := by
    rw [hl, ← bv_take]
    refine own_of (own_take hrow hk) fun g hg => ?_
    obtain ⟨cur, hc⟩ := own_bk (own_take hrow hk) hg
    exact hf.block g hc.lt (ne_of_type hc (h.file i x hx) (by decide))
  have hown : ∀ g, (Value.slice A k c).ownBlock = some g → (m.bv i).ownBlock = some g := fun g hg => by
    rw [hv]
    cases A with
    | none => cases hg
    | some a => exact hg
  have h2 := h.putFile (x' := ⟨x.b.take k, k⟩) hx (hf.mono fun b _ e => .inl e) hb hr' (fun g hg => .inl (hown g hg))
  have hlen : (S.setFile i ⟨x.b.take k, k⟩).fs.length = S.fs.length := by simp [VSt.setFile]
  have hil := (List.getElem?_eq_some_iff.1 hx).1
  exact { h2 with
    kF := h.kF
    kD := h.kD
    kS := h.kS
    kC := h.kC
    kM := h.kM
    kB := fun j hj => h.kB j (by rw [hlen] at hj; exact hj)
    kR := fun j hj g hg => by
      rw [hlen] at hj
      by_cases hji : j = i
      · subst hji
        simp only [if_true] at hg
        exact h.kR j hil g (hown g hg)
      · simp only [if_neg hji] at hg
        exact h.kR j hj g hg
    lo := fun b e => ⟨(h.lo b e).1, Nat.lt_of_lt_of_le (h.lo b e).2 hf.size⟩ }
/-- Another directory, no change noted. -/
theorem Vf.redir {base F n0 db' sb' : Nat} {w w' : World} {K K' : Nat → Prop} {S S' : VSt} {m : VMem} {D' : List (ByteArray × Nat)} (h : Vf base w K F S m) (hf : FrK w w' K') (hk : ∀ b, K' b → K b → b = F) (hfs : S'.fs = S.fs) (hch : S'.chg = [])
    (hb : Bk w' F 59 (fsC S' { m with db := db', sb := sb', cv := .slice none 0 0, cms := [], D := D', Y := D' })) (hD : Mh strV (fiV m.fb) w' db' D') (hS : Mh strV (fiV m.fb) w' sb' D') (hp : D'.Perm S'.syn) (hne : db' ≠ sb') (h1 : n0 ≤ db') (h2 : n0 ≤ sb') (hn0 : base ≤ n0) :
    Vf base w' (Kn K n0 w'.heap.size) F S' { m with db := db', sb := sb', cv := .slice none 0 0, cms := [], D := D', Y := D' } := by
  have hcell : ∀ {b : Nat} {t : TypeId} {cs : Array Value}, K b → Bk w b t cs → t ≠ 59 → w'.heap[b]? = w.heap[b]? := fun {b t cs} hKb hB h1 => hf.block b hB.lt fun e => ne_of_type hB h.blk h1 (hk b e hKb)
  have hnow : S'.now = S'.syn := by
    unfold VSt.now VSt.dirN
    rw [hch]
    rfl
  refine { blk := hb, dir := hD, dirP := by rw [hnow]; exact hp, syn := hS, synP := hp, chg := by rw [hch]; exact ⟨rfl, .inl ⟨rfl, rfl⟩⟩, maps := (fun j b c h1 h2 => by simp at h1), file := fun j y hy => ?_, row := fun j y hy => ?_, inj := by rw [hfs]; exact h.inj, rinj := by rw [hfs]; exact h.rinj, ne := hne, nec := (fun b hb => by cases hb), kF := .inl h.kF, kD := .inr ⟨h1, hD.lt⟩, kS := .inr ⟨h2, hS.lt⟩, kC := (fun g e => by cases e), kM := (fun b hb => by cases hb), kB := fun j e => .inl (h.kB j (by rw [← hfs]; exact e)), kR := fun j e g e2 => .inl (h.kR j (by rw [← hfs]; exact e) g e2), lo := ?_ }
  · rw [hfs] at hy
    exact (hcell (h.kB j (List.getElem?_eq_some_iff.1 hy).1) (h.file j y hy) (by decide)).trans (h.file j y hy)
  · rw [hfs] at hy
    refine own_of (h.row j y hy) fun g hg => ?_
    obtain ⟨cur, hc⟩ := own_bk (h.row j y hy) hg
    exact hcell (h.kR j (List.getElem?_eq_some_iff.1 hy).1 g hg) hc (by decide)
  · intro b e
    rcases e with e | ⟨h3, h4⟩
    · exact ⟨(h.lo b e).1, Nat.lt_of_lt_of_le (h.lo b e).2 hf.size⟩
    · exact ⟨Nat.le_trans hn0 h3, h4⟩
/-- What a crash's loop over the names may change: its counter, the files. -/
def ZCr (ib n : Nat) (fb : Nat → Nat) (b : Nat) : Prop := b = ib ∨ ∃ i, i < n ∧ b = fb i
/-- What the crash's loop keeps. -/
structure CrI (base : Nat) (w3 : World) (K : Nat → Prop) (F ib : Nat) (S : VSt) (m : VMem) (keep : List Int) {L : List (ByteArray × Nat)} (pre : List (Nf L)) (W : World) : Prop where
  vf : ∃ bv', Vf base W K F { S with fs := VSt.crashGo keep (pre.map fun x => x.1.2) 0 S.fs } { m with bv := bv' }
  fr : FrK w3 W (ZCr ib S.fs.length m.fb)
  bx : Go.Boxed W ib 3 (.int .i64 (pre.length : Nat))
section
variable {base F ib : Nat} {w3 W W1 W4 : World} {K : Nat → Prop} {S : VSt} {m : VMem} {keep : List Int} {L : List (ByteArray × Nat)} {pre : List (Nf L)}
theorem CrI.own (hK : ∀ b, K b → b < w3.heap.size) (hib : ib < w3.heap.size) : OwnFrom w3.heap.size (fun (pre : List (Nf L)) W => CrI base w3 K F ib S m keep pre W) := fun s A B row h hg hr => by
  obtain ⟨bv', hv⟩ := h.vf
  have hfr : FrK A B fun b => row = some b := FrK.of_grown hg fun b _ e => e
  exact ⟨⟨bv', hv.keep hfr fun b hb e => by have := (hr b e).1; have := hK b hb; omega⟩, h.fr.trans hfr fun b hb e => by have := (hr b e).1; omega, h.bx.kept hg fun e => by have := (hr ib e.symm).1; omega⟩
theorem CrI.step (h : CrI base w3 K F ib S m keep pre W) {x : Nf L} (hx : x.1.2 < S.fs.length) {bv' : Nat → Value} (hv : Vf base W K F { S with fs := VSt.crashGo keep (pre.map fun x => x.1.2) 0 S.fs } { m with bv := bv' })
    {y : VFile} (hy : (VSt.crashGo keep (pre.map fun x => x.1.2) 0 S.fs)[x.1.2]? = some y) (hys : y.s ≤ y.b.length) {A : Option Addr} {c : Nat} (hb : bv' x.1.2 = .slice A y.b.length c) (hib : ¬K ib)
    (hf1 : FrK W W1 (Kis ib)) (hf2 : FrK W1 W4 (Kis (m.fb x.1.2))) (hB4 : Bk W4 (m.fb x.1.2) 69 #[.slice A (VSt.kept y keep pre.length) c, .int .i64 (VSt.kept y keep pre.length : Nat)]) (hbx : Go.Boxed W4 ib 3 (.int .i64 ((pre.length + 1 : Nat) : Int))) :
    KeepsFrom w3.heap.size W W4 ∧ KpZ w3.heap.size (fun _ => ZCr ib S.fs.length m.fb) W W4 ∧ CrI base w3 K F ib S m keep (pre ++ [x]) W4 := by
  have hk := kept_le hys keep pre.length
  have hz : ∀ b, (b = ib ∨ b = m.fb x.1.2) → ZCr ib S.fs.length m.fb b := fun b e => e.imp id fun e => ⟨_, hx, e⟩
  have hsame : ∀ b, b < W.heap.size → b ≠ ib → b ≠ m.fb x.1.2 → W4.heap[b]? = W.heap[b]? := fun b hl h1 h2 => (hf2.block b (Nat.lt_of_lt_of_le hl hf1.size) h2).trans (hf1.block b hl h1)
  have hsz : W.heap.size ≤ W4.heap.size := Nat.le_trans hf1.size hf2.size
  have hfile := hv.file _ y hy
  have v1 := hv.keep hf1 fun b hb e => hib (by rw [← show b = ib from e]; exact hb)
  have v4 := v1.cutAt (A := A) (c := c) (k := VSt.kept y keep pre.length) hy hb hk hf2 hB4
  have hgo : VSt.crashGo keep ((pre ++ [x]).map fun x => x.1.2) 0 S.fs = (VSt.crashGo keep (pre.map fun x => x.1.2) 0 S.fs).set x.1.2 (cutFile y keep pre.length) := by
    rw [List.map_append, List.map_cons, List.map_nil, crashGo_snoc, List.length_map, Nat.zero_add, List.getD_eq_getElem?_getD, hy]
    rfl
  refine ⟨⟨hsz, fun b o _ hb ho => ?_⟩, ⟨hsz, fun b cs t fr hb hn => ?_, fun b es c' _ hb => ?_, fun b e => .inl e⟩, ⟨⟨fun j => if j = x.1.2 then .slice A (VSt.kept y keep pre.length) c else bv' j, by rw [hgo]; exact v4⟩, ?_, by rw [List.length_append]; exact hbx⟩⟩
  · refine (hsame b (Array.getElem?_eq_some_iff.1 hb).1 (fun e => ?_) (fun e => ?_)).trans hb
    · rw [e, show W.heap[ib]? = _ from h.bx] at hb
      cases hb
      cases ho
    · rw [e, show W.heap[m.fb x.1.2]? = _ from hfile] at hb
      cases hb
      cases ho
  · exact hsame b (Array.getElem?_eq_some_iff.1 hb).1 (fun e => hn (hz b (.inl e))) (fun e => hn (hz b (.inr e)))
  · refine hsame b (Array.getElem?_eq_some_iff.1 hb).1 (fun e => ?_) (fun e => ?_)
    · rw [e, show W.heap[ib]? = _ from h.bx] at hb
      cases hb
    · rw [e, show W.heap[m.fb x.1.2]? = _ from hfile] at hb
      cases hb
  · exact h.fr.trans (K' := fun b => b = ib ∨ b = m.fb x.1.2) ((hf1.mono fun b _ e => .inl e).trans hf2 fun b _ e => .inr e) fun b _ e => hz b e
end
end Go.Proofs.Ytdjmmdhjjdnbdaa

/- Layer 4: Crash. -/
namespace Go.Proofs.Ytdjmmdhjjdnbdaa
open Go.RowKit Go.Shelf
attribute [local go_sem] Oper.semAt_some

/-- What a crash comes to. -/
def VCrash (base : Nat) (w : World) (K : Nat → Prop) (F : Nat) (S : VSt) (n : Int) (keep : List Int) (e : Ending) (w' : World) : Prop :=
  ∃ L, L.Perm (S.dirN (VSt.modulo n S.chg.length)) ∧ SortV (L.map (·.1)) ∧ VPost base w K F (S.crash n keep L, 0) e w'
theorem dirN_succ {S : VSt} {j : Nat} (h : j < S.chg.length) : S.dirN (j + 1) = chgOn (S.dirN j) S.chg[j] := by
  unfold VSt.dirN
  rw [List.take_succ_eq_append_getElem h, List.foldl_append]
  rfl
abbrev intV (x : Int) : Value := .int .i64 x
set_option maxRecDepth 100000 in
set_option maxHeartbeats 4000000 in
theorem vfCrash {base F B nk ck : Nat} {Ak : Option Addr} {w : World} {K : Nat → Prop} {S : VSt} {m : VMem} {keep : List Int} (h : Vf base w K F S m) (hok : S.Ok) (n : Int) (hn1 : -9223372036854775808 ≤ n) (hn2 : n ≤ 9223372036854775807)
    (hk : Rd w B Ak (keep.map intV)) (hB : B ≤ w.heap.size) (hkl : keep.length = nk) (hAk : ∀ a, Ak = some a → ¬K a.block) (hki : ∀ k ∈ keep, -9223372036854775808 ≤ k ∧ k ≤ 9223372036854775807) (hnk : nk ≤ 1000000)
    (hlen : S.chg.length ≤ 1000000) (hfb : ∀ x ∈ S.fs, x.b.length ≤ 1000000000) (hs : ∀ j, ∀ p ∈ S.dirN j, p.1.size ≤ 64) (hl : ∀ j, (S.dirN j).length ≤ 100000) :
    Calls Try.prog 17 #[ptV F, .int .i64 n, .slice Ak nk ck] w (VCrash base w K F S n keep) := by
  refine (callsIn_wide (n := 4)).1 ?_
  have hF0 := (h.lo F h.kF).2
  have v1 := h.alloc (.cells #[.slice Ak nk ck] 34)
  have b1 := Bk.new w 34 #[.slice Ak nk ck]
  have fr1 := (FrK.refl w Kno).alloc (.cells #[.slice Ak nk ck] 34)
  obtain ⟨w1, e1⟩ : ∃ w1, w.alloc (.cells #[.slice Ak nk ck] 34) = w1 := ⟨_, rfl⟩
  have s1 : w1.heap.size = w.heap.size + 1 := by rw [← e1]; simp
  rw [e1] at v1 b1 fr1
  have cN := (vfNone v1).mono fun e w' he => And.intro he.1 he.2.symm
  obtain ⟨es, c, hM, hC⟩ := vfClone v1.syn
  have cC := hC w1 rfl
  have v2 := v1.alloc (.map es c)
  have b2 := b1.alloc (.map es c)
  have fr2 := fr1.alloc (.map es c)
  obtain ⟨w2, e2⟩ : ∃ w2, w1.alloc (.map es c) = w2 := ⟨_, rfl⟩
  have s2 : w2.heap.size = w1.heap.size + 1 := by rw [← e2]; simp
  have cC' : Calls Try.prog 43 #[maV m.sb] w1 fun e w' => e = .returned (maV w1.heap.size) ∧ w2 = w' := cC.mono fun e w' he => ⟨he.1, by rw [he.2, ← e2]⟩
  rw [e2] at hM v2 b2 fr2
  obtain ⟨A, cc, hcv, hcap, -⟩ := own_form v2.chg
  have c3 : w1.cell? ⟨F, 3, none⟩ = some (maV m.sb) := by rw [v1.blk.cell 3]; rfl
  have c4 : w2.cell? ⟨F, 4, none⟩ = some (.slice A S.chg.length cc) := by rw [v2.blk.cell 4, ← hcv]; rfl
  obtain ⟨q, hq⟩ : ∃ q, VSt.modulo n S.chg.length = q := ⟨_, rfl⟩
  have hqle : q ≤ S.chg.length := by rw [← hq]; exact modulo_le n _
  have cM : ∀ W, Calls Try.prog 45 #[.int .i64 n, .int .i64 (S.chg.length : Nat)] W fun e w' => e = .returned (.int .i64 (q : Nat)) ∧ w' = W := fun W => by
    rw [← hq]
    exact vfModulo W n _ hn2 hn1 (by omega)
  have H := Lib.hid h
  have V2 := Lib.hid v2
  have B2 := Lib.hid b2
  have FR2 := Lib.hid fr2
  have HM := Lib.hid hM
  have E1 := Lib.hid e1
  have S1 := Lib.hid s1
  have S2 := Lib.hid s2
  have HCV := Lib.hid hcv
  have HQ := Lib.hid hq
  have HK := Lib.hid hk
  have HKL := Lib.hid hkl
  have HAK := Lib.hid hAk
  have HKI := Lib.hid hki
  have HFB := Lib.hid hfb
  have HSZ := Lib.hid hs
  have HL := Lib.hid hl
  have HOK := Lib.hid hok
  have CM := Lib.hid cM
  clear h v1 v2 b1 b2 fr1 fr2 hM e1 s1 s2 hcv hq hk hkl hAk hki hfb hs hl hok cM cC hC
  refine callsIn_of_wp_marks Try.func17 rfl trivial ?_ rfl
  simp only [Try.ntmps17, List.size_toArray, List.length_cons, List.length_nil, Nat.reduceAdd, Nat.reduceSub, Array.replicate_succ, Array.replicate_zero, List.push_toArray, List.append_toArray, List.nil_append, List.cons_append]
  refine wpIn_wide.2 ?_
  go_wp2_with fail
  rw [E1.out]
  refine cN.mono ?_
  rintro e w' ⟨rfl, rfl⟩
  go_wp2_with fail
  refine cC'.mono ?_
  rintro e w' ⟨rfl, rfl⟩
  have hsl : ∀ W, (Instr.slice 57 (.slice A S.chg.length cc) none (some (.int .i64 (q : Nat))) none).run Try.prog W = .ok (.slice A q cc) W := fun W => by
    have h1 := run_slice_h (P := Try.prog) W 57 A S.chg.length cc Try.underlying57 .i64 (q : Nat) (by omega) (by omega)
    rw [h1]
    have hs : (sizeOf (Try.prog.elem 57)).run Try.prog W = .ok 1 W := by kernel_rfl
    rw [hs]
    have hz : Option.map (fun x : Addr => x.add 0) A = A := by
      rcases V2.out.chg.2 with ⟨e1, -⟩ | ⟨g, cap, cur, e1, -⟩
      · rw [HCV.out] at e1
        injection e1 with e2
        rw [e2]
        rfl
      · rw [HCV.out] at e1
        injection e1 with e2
        rw [e2]
        rfl
    simp [Result.andThen, sliced, hz]
  go_wp2_with fail
  go_quiet ((go_at_call 45; exact Calls.quiet_of_same (CM.out _)))
  have hlb : w1.heap.size = w.heap.size + 1 := S1.out
  have hne : ∀ b, K b → b ≠ w1.heap.size := fun b hb e => by
    have := (H.out.lo b hb).2
    omega
  have HNE := Lib.hid hne
  have HL1 := Lib.hid hlb
  clear hlb
  have M0 : Hid (Mh strV (fiV m.fb) (w2.drewN nq) w1.heap.size m.Y) := Lib.hid (HM.out.drewN nq)
  have P0 : Hid (m.Y.Perm (S.dirN 0)) := Lib.hid V2.out.synP
  have F0 : Hid (FrK w2 (w2.drewN nq) (Kis w1.heap.size)) := Lib.hid ((FrK.refl w2 _).drewN nq)
  clear hne hsl c3 c4
  obtain ⟨lb, hLB⟩ : ∃ lb, w1.heap.size = lb := ⟨_, rfl⟩
  rw [hLB] at HL1 HNE M0 F0 HM ⊢
  have HLB := Lib.hid hLB
  clear hLB
  go_wp2_with fail
  go_loopw [34] (fun i_ wr => ∃ (j : Nat) (Lj : List (ByteArray × Nat)), j ≤ q ∧ i_ = .int .i64 j ∧ Hid (Mh strV (fiV m.fb) wr lb Lj) ∧ Hid (Lj.Perm (S.dirN j)) ∧ Hid (FrK w2 wr (Kis lb))) (fun i_ _ => q - (intOf i_).toNat)
  case atStart => exact ⟨0, m.Y, Nat.zero_le _, rfl, M0, P0, F0⟩
  case round =>
    obtain ⟨j, Lj, hj, rfl, MJ, PJ, FJ⟩ := hrel
    by_cases hlt : j < q
    · have hlt' : decide ((j : Int) < (q : Int)) = true := by simp; omega
      have hjc : j < S.chg.length := by omega
      obtain ⟨cb, hcb⟩ : ∃ cb, m.cms[j]? = some cb := ⟨_, List.getElem?_eq_getElem (by rw [V2.out.cmsLen]; exact hjc)⟩
      obtain ⟨C, hCp, hCM⟩ := V2.out.maps j cb _ hcb (List.getElem?_eq_getElem hjc)
      have hcl : cb ≠ lb := HNE.out cb (V2.out.kM cb (List.mem_of_getElem? hcb))
      have hCw := hCM.of (FJ.out.block cb hCM.lt hcl)
      have hrow := V2.out.chg
      rw [HCV.out] at hrow
      obtain ⟨g, cap, hv, -, hgl⟩ := hrow.form (by omega)
      injection hv with hA hv2 hv3
      subst hA
      subst hv3
      have hcell : wr.cell? ⟨g, j, none⟩ = some (maV cb) := by
        have h1 := hrow.cellAt j (by omega)
        have hgb : g ≠ lb := fun e => by
          obtain ⟨cur, hc⟩ := own_bk (g := g) hrow rfl
          obtain ⟨es', c', ho⟩ := HM.out.obj
          rw [← e, show w2.heap[g]? = _ from hc] at ho
          cases ho
        refine (World.cell?_of_block (a := ⟨g, j, none⟩) (FJ.out.block g hgl hgb)).trans (h1.trans ?_)
        rw [List.getElem?_map, hcb]
        rfl
      have cT := vfTurn MJ.out hCw (Ne.symm hcl)
      have hst : ∀ Z, Z.Perm C → (turnL Lj Z).Perm (S.dirN (j + 1)) := fun Z hZ => by
        rw [turnL_chg (HOK.out.chg _ (List.getElem_mem hjc)) (hZ.trans hCp), dirN_succ hjc]
        exact chgOn_perm PJ.out MJ.out.nodup
      have HST := Lib.hid hst
      clear hcb hCp hCM hcl hCw hrow hst hv2
      go_wp2_with fail
      refine cT.mono ?_
      rintro e w3 ⟨rfl, Z, hZ, hM3, hF3⟩
      have MX := Lib.hid hM3
      have PX := Lib.hid (HST.out Z hZ)
      have FX := Lib.hid (FJ.out.trans hF3 fun _ _ e => e)
      clear hZ hM3 hF3
      go_wp2_with fail
      exact ⟨⟨j + 1, _, by omega, by go_num, MX, PX, FX⟩, by simp only [intOf]; omega⟩
    · have hlt' : decide ((j : Int) < (q : Int)) = false := by simp; omega
      obtain rfl : j = q := by omega
      have hfn := fun W => (callsIn_wide (n := 4)).1 (vfSortedFn 4 (some lb) W)
      have HFN := Lib.hid hfn
      clear hfn
      go_wp2_with fail
      refine (HFN.out _).mono ?_
      rintro e w3 ⟨rfl, hw3⟩
      have HW3 := Lib.hid hw3
      clear hw3
      go_wp2_with fail
      have hwr : w2.heap.size ≤ wr.heap.size := FJ.out.size
      have v3 : Vf base w3 K F S m := by
        rw [HW3.out]
        exact ((V2.out.keep FJ.out fun b hb e => HNE.out b hb e).alloc _).alloc _
      have hs3 : w3.heap.size = wr.heap.size + 2 := by rw [HW3.out]; simp
      have M3 : Mh strV (fiV m.fb) w3 lb Lj := by
        rw [HW3.out]
        exact (MJ.out.alloc _).alloc _
      have hkb : Bk w3 w.heap.size 34 #[.slice Ak nk ck] := by
        rw [HW3.out]
        exact ((FJ.out.bk B2.out (fun e => by have := HL1.out; simp only [Kis] at e; omega)).alloc _).alloc _
      have hib : Boxed w3 wr.heap.size 3 (.int .i64 ((0 : Nat) : Int)) := by
        rw [HW3.out]
        exact (Boxed.new wr 3 (.int .i64 0)).alloc _
      have hBn : Bk w3 (wr.heap.size + 1) 56 #[maV lb] := by
        rw [HW3.out]
        have := Bk.new (wr.alloc (.cells #[.int .i64 0] 3)) 56 #[maV lb]
        rw [World.size_alloc] at this
        exact this
      have hfr3 : FrK w w3 Kno := by
        rw [HW3.out]
        refine ((FR2.out.trans (K' := Kis lb) FJ.out fun b hb e => ?_).alloc _).alloc _
        have := HL1.out
        simp only [Kis] at e
        omega
      have hkr : Rd w3 B Ak (keep.map intV) := HK.out.frK hfr3 (fun _ _ e => e) hB
      have hs1 : w.heap.size < w2.heap.size := by
        have h1 := S2.out
        have h2 := S1.out
        omega
      have hkw : ∀ b, K b → b < w.heap.size := fun b hb => (H.out.lo b hb).2
      have hLf : ∀ p ∈ Lj, p.2 < S.fs.length := fun p hp => HOK.out.dirN_lt (PJ.out.mem_iff.1 hp)
      have V3 := Lib.hid v3
      have HM3 := Lib.hid M3
      have KB := Lib.hid hkb
      have IB := Lib.hid hib
      have BN := Lib.hid hBn
      have F3 := Lib.hid hfr3
      have KR := Lib.hid hkr
      have KW := Lib.hid hkw
      have LF := Lib.hid hLf
      have S3 := Lib.hid hs3
      have hsN : ∀ p ∈ Lj, p.1.size ≤ maxLen := fun p hp => by
        have := HSZ.out j p (PJ.out.mem_iff.1 hp)
        simp only [maxLen]
        omega
      have hlN : Lj.length ≤ 100000 := by rw [PJ.out.length_eq]; exact HL.out j
      clear v3 M3 hkb hib hBn hfr3 hkr hkw hLf hs3
      obtain ⟨ib, hib⟩ : ∃ ib, wr.heap.size = ib := ⟨_, rfl⟩
      rw [hib] at IB BN S3 hwr ⊢
      have HIB := Lib.hid hib
      clear hib
      have hs3 := S3.out
      have hnK : ∀ b, w.heap.size ≤ b → ¬K b := fun b hb e => by have := KW.out b e; omega
      have HNK := Lib.hid hnK
      have hZ0 : ∀ b, ZCr ib S.fs.length m.fb b → b < w3.heap.size := fun b e => by
        rcases e with e | ⟨i, hi, e⟩
        · omega
        · have := KW.out b (e ▸ V3.out.kB i hi)
          omega
      have hZB : ¬ZCr ib S.fs.length m.fb (ib + 1) := fun e => by
        rcases e with e | ⟨i, hi, e⟩
        · omega
        · have := KW.out _ (V3.out.kB i hi)
          omega
      clear hnK
      refine (wpIn_wide (n := 4)).1 ?_
      refine wpIn_rangeFunc_ownG rfl (by omega) (gf := 72) (lb := #[ptV (ib + 1)]) rfl trivial (enters_of Try.func72 (by kernel_rfl) rfl)
        (sorted_stops 3 (by omega) lb (ib + 1) (fun _ => ZCr ib S.fs.length m.fb) Lj m.fb hsN hlN w3 (fun _ _ _ _ e => e) HM3.out BN.out hZB hZ0) (fun a b => a.trans b) (fun W l o o' hl ho hc _ => KpZ.put (fun _ _ _ _ e => e) W l o o' hl ho hc) (Below.refl _ _) (fun _ => rfl)
        (fun (pre : List (Nf Lj)) W => CrI base w3 K F ib S m keep pre W)
        (fun _ _ _ => False)
        (CrI.own (fun b hb => by have := KW.out b hb; omega) (by omega))
        (fun _ _ _ _ _ hs _ _ => hs)
        ⟨⟨m.bv, V3.out⟩, FrK.refl w3 _, IB.out⟩
        ?a1 ?assign ?body ?done ?stop
      case assign =>
        intro l x W K hK
        gi_wp2
        exact hK
      case body =>
        rintro l pre x W hI hlt2
        obtain ⟨bv', hv⟩ := hI.vf
        have hxi := LF.out _ x.2
        obtain ⟨y, hy⟩ : ∃ y, (VSt.crashGo keep (pre.map fun x => x.1.2) 0 S.fs)[x.1.2]? = some y := ⟨_, List.getElem?_eq_getElem (by rw [crashGo_len]; exact hxi)⟩
        have hym := List.mem_of_getElem? hy
        have hys := (crashGo_ok keep _ 0 _ HOK.out.byt y hym).2
        have hyl := crashGo_small keep _ 0 _ HFB.out y hym
        obtain ⟨Ay, cy, hby, hcy, -⟩ := own_form (hv.row _ y hy)
        have hfi := hv.file _ y hy
        rw [show ({ m with bv := bv' } : VMem).bv x.1.2 = .slice Ay y.b.length cy from hby] at hfi
        have step : ∀ k W1 W4, VSt.kept y keep pre.length = k → FrK W W1 (Kis ib) → FrK W1 W4 (Kis (m.fb x.1.2)) → Bk W4 (m.fb x.1.2) 69 #[.slice Ay k cy, .int .i64 (k : Nat)] → Boxed W4 ib 3 (.int .i64 ((pre.length : Int) + 1)) →
            KeepsFrom w3.heap.size W W4 ∧ KpZ w3.heap.size (fun _ => ZCr ib S.fs.length m.fb) W W4 ∧ CrI base w3 K F ib S m keep (pre ++ [x]) W4 := fun k W1 W4 e h1 h2 h3 h4 => by
          subst e
          exact hI.step hxi hv hy hys hby (HNK.out _ (by omega)) h1 h2 h3 h4
        have hkb : Bk W w.heap.size 34 #[.slice Ak nk ck] := hI.fr.bk KB.out (fun e => by
          rcases e with e | ⟨i, hi, e⟩
          · omega
          · have := KW.out _ (V3.out.kB i hi)
            omega)
        have hbx := hI.bx
        have hne : m.fb x.1.2 ≠ ib := fun e => by
          have := KW.out _ (V3.out.kB _ hxi)
          omega
        have hkc : ∀ (t : Nat) (kv : Int), keep[t]? = some kv → ∃ b o, Ak = some ⟨b, o, none⟩ ∧ W.cell? ⟨b, o + t, none⟩ = some (.int .i64 kv) := fun t kv hkv => by
          obtain ⟨b, o, rfl, hb, hc⟩ := KR.out.get (show (keep.map intV)[t]? = some (intV kv) by rw [List.getElem?_map, hkv]; rfl)
          refine ⟨b, o, rfl, (World.cell?_of_block (a := ⟨b, o + t, none⟩) (hI.fr.block b (by omega) (fun e => ?_))).trans hc⟩
          rcases e with e | ⟨i, hi, e⟩
          · omega
          · exact HAK.out _ rfl (by rw [show (⟨b, o, none⟩ : Addr).block = b from rfl, e]; exact V3.out.kB i hi)
        have hkp : VSt.kept y keep pre.length = y.s + match keep[pre.length]? with | some k => VSt.modulo k (y.b.length - y.s) | none => 0 := rfl
        obtain ⟨t, ht⟩ : ∃ t, pre.length = t := ⟨_, rfl⟩
        obtain ⟨fi, hfe⟩ : ∃ fi, m.fb x.1.2 = fi := ⟨_, rfl⟩
        obtain ⟨ln, hln⟩ : ∃ ln, y.b.length = ln := ⟨_, rfl⟩
        obtain ⟨sy, hsy⟩ : ∃ sy, y.s = sy := ⟨_, rfl⟩
        rw [ht] at step hbx hkp
        rw [hfe] at step hfi hne
        rw [hln] at hkp hfi hys hyl
        rw [hsy] at hkp hfi hys
        have d0 : W.cell? ⟨fi, 0, none⟩ = some (.slice Ay ln cy) := by rw [hfi.cell 0]; rfl
        have d1 : W.cell? ⟨fi, 1, none⟩ = some (.int .i64 (sy : Nat)) := by rw [hfi.cell 1]; rfl
        have g0 : W.cell? ⟨ib, 0, none⟩ = some (.int .i64 (t : Nat)) := hbx.cell
        have g1 := hbx.frozen
        have g2 : W.cell? ⟨w.heap.size, 0, none⟩ = some (.slice Ak nk ck) := by rw [hkb.cell 0]; rfl
        have hcyl : ln ≤ cy := by omega
        have htl : t ≤ 100000 := by omega
        have hAz : Option.map (fun x : Addr => x.add 0) Ay = Ay := by
          rcases (hv.row _ y hy).2 with ⟨e1, -⟩ | ⟨g, cap, cur, e1, -⟩
          · rw [hby] at e1
            injection e1 with e2
            rw [e2]
            rfl
          · rw [hby] at e1
            injection e1 with e2
            rw [e2]
            rfl
        have STEP := Lib.hid step
        have HKC := Lib.hid hkc
        have HKP := Lib.hid hkp
        have HFI := Lib.hid hfi
        have HBX := Lib.hid hbx
        clear hI hv hy hym hby step hkb hbx hkc hkp hfi hxi hln hsy ht hcy
        rw [hfe]
        clear hfe
        have hslc : ∀ kk : Nat, kk ≤ cy → ∀ W, (Instr.slice 24 (.slice Ay ln cy) none (some (.int .i64 (kk : Nat))) none).run Try.prog W = .ok (.slice Ay kk cy) W := fun kk hkk W => by
          have h1 := run_slice_h (P := Try.prog) W 24 Ay ln cy Try.underlying24 .i64 (kk : Nat) (by omega) (by omega)
          rw [h1]
          have hs : (sizeOf (Try.prog.elem 24)).run Try.prog W = .ok 1 W := by kernel_rfl
          rw [hs]
          simp [Result.andThen, sliced, hAz]
        have HSL := Lib.hid hslc
        clear hslc hAz
        by_cases htk : t < nk
        · have htk' : decide ((t : Int) < (nk : Int)) = true := by simp; omega
          obtain ⟨kv, hkv⟩ : ∃ kv, keep[t]? = some kv := ⟨_, List.getElem?_eq_getElem (by rw [HKL.out]; exact htk)⟩
          obtain ⟨b, o, eA, hcell⟩ := HKC.out t kv hkv
          obtain ⟨hk1, hk2⟩ := HKI.out kv (List.mem_of_getElem? hkv)
          subst eA
          obtain ⟨d, hd⟩ : ∃ d, ln - sy = d := ⟨_, rfl⟩
          obtain ⟨km, hkm⟩ : ∃ km, VSt.modulo kv d = km := ⟨_, rfl⟩
          have hkd : km ≤ d := by rw [← hkm]; exact modulo_le kv d
          have hw1 : IntKind.i64.wrap ((ln : Int) - (sy : Int)) = (d : Int) := by rw [show (ln : Int) - (sy : Int) = d by omega]; exact IntWalk.i64_in _ ⟨by omega, by omega⟩
          have cM2 : ∀ W, Calls Try.prog 45 #[.int .i64 kv, .int .i64 (d : Nat)] W fun e w' => e = .returned (.int .i64 (km : Nat)) ∧ W = w' := fun W => by
            rw [← hkm]
            exact (vfModulo W kv d hk2 hk1 (by omega)).mono fun e w' he => ⟨he.1, he.2.symm⟩
          have CM2 := Lib.hid cM2
          have hw1' : Hid _ := Lib.hid hw1
          obtain ⟨kk, hkk⟩ : ∃ kk, sy + km = kk := ⟨_, rfl⟩
          have hw2 : IntKind.i64.wrap ((sy : Int) + (km : Int)) = (kk : Int) := by rw [show (sy : Int) + (km : Int) = kk by omega]; exact IntWalk.i64_in _ ⟨by omega, by omega⟩
          have hsl := HSL.out kk (by omega)
          have HKK : Hid (VSt.kept y keep t = kk) := Lib.hid (by rw [HKP.out, hkv, hd]; simp only [hkm]; exact hkk)
          have HW2 := Lib.hid hw2
          have HSS := Lib.hid hsl
          have h0t : (0 : Int) ≤ (t : Int) := by omega
          clear hkv hd hkm cM2 hw1 hkk hw2 hsl
          gi_wp2
          have hw1 := hw1'.out
          refine wpIn_region_still_round 14 (by kernel_rfl) (by kernel_rfl) (by kernel_rfl) ?_
          simp only [List.take_succ_cons, List.take_zero, List.drop_succ_cons, List.drop_zero]
          repeat still_step
          refine wpStill_nil ?_
          change wpList _ _ _ _ _ W.drew
          clear hw1
          go_wp2_with fail
          refine (CM2.out _).mono ?_
          rintro e W9 ⟨rfl, hW9⟩
          subst hW9
          go_wp2
          have g3 : W.drew.cell? ⟨ib, 0, none⟩ = some (.int .i64 (t : Nat)) := g0
          have g4 : W.drew.frozen? ⟨ib, 0, none⟩ = false := g1
          gi_wp2
          have hw2 := HW2.out
          have hsl := HSS.out
          obtain ⟨W2, hW2⟩ : ∃ W2, (W.setCell ⟨ib, 0, none⟩ (.int .i64 ((t : Int) + 1))).drew = W2 := ⟨_, rfl⟩
          have hf1 : FrK W W2 (Kis ib) := by
            rw [← hW2]
            exact (FrK.set W ib 0 _).drew
          have hb2 : Bk W2 fi 69 #[.slice Ay ln cy, .int .i64 (sy : Nat)] := hf1.bk HFI.out (fun e => hne e)
          have hx2 : Boxed W2 ib 3 (.int .i64 ((t : Int) + 1)) := by
            rw [← hW2]
            exact Boxed.set _ HBX.out
          rw [hW2]
          have HF1 := Lib.hid hf1
          have HB2 := Lib.hid hb2
          have HX2 := Lib.hid hx2
          have c0 : W2.cell? ⟨fi, 0, none⟩ = some (.slice Ay ln cy) := by rw [hb2.cell 0]; rfl
          have c1 : W2.cell? ⟨fi, 1, none⟩ = some (.int .i64 (sy : Nat)) := by rw [hb2.cell 1]; rfl
          have f0 := hb2.frozen 0
          clear hW2 hf1 hb2 hx2 d0 d1 g0 g1 g2 g3 g4
          refine wpIn_region_still_round 14 (by kernel_rfl) (by kernel_rfl) (by kernel_rfl) ?_
          simp only [List.take_succ_cons, List.take_zero, List.drop_succ_cons, List.drop_zero]
          repeat still_step
          refine wpStill_nil ?_
          change wpList _ _ _ _ _ W2.drew
          go_wp2
          obtain ⟨W3, hW3⟩ : ∃ W3, (W2.setCell ⟨fi, 0, none⟩ (.slice Ay kk cy)).drew = W3 := ⟨_, rfl⟩
          have hf3 : FrK W2 W3 (Kis fi) := by
            rw [← hW3]
            exact (FrK.set W2 fi 0 _).drew
          have hb3 : Bk W3 fi 69 #[.slice Ay kk cy, .int .i64 (sy : Nat)] := by
            rw [← hW3]
            exact Bk.set HB2.out 0 _
          have c30 : W3.cell? ⟨fi, 0, none⟩ = some (.slice Ay kk cy) := by rw [hb3.cell 0]; rfl
          have c31 : W3.cell? ⟨fi, 1, none⟩ = some (.int .i64 (sy : Nat)) := by rw [hb3.cell 1]; rfl
          have f31 := hb3.frozen 1
          have HF3 := Lib.hid hf3
          have HB3 := Lib.hid hb3
          rw [hW3]
          clear hW3 hf3 hb3 c0 c1 f0
          gi_wp2
          have hf4 := HF3.out.trans (FrK.set W3 fi 1 (.int .i64 (kk : Nat))) fun _ _ e => e
          exact STEP.out kk W2 _ HKK.out HF1.out hf4 (by simpa using HB3.out.set 1 (.int .i64 (kk : Nat))) (hf4.bk HX2.out (fun e => hne (Eq.symm e)))
        · have htk' : decide ((t : Int) < (nk : Int)) = false := by simp; omega
          obtain ⟨kk, hkk⟩ : ∃ kk, sy = kk := ⟨_, rfl⟩
          have hw2 : IntKind.i64.wrap (sy : Int) = (kk : Int) := by rw [← hkk]; exact IntWalk.i64_in _ ⟨by omega, by omega⟩
          have hsl := HSL.out kk (by omega)
          have HKK : Hid (VSt.kept y keep t = kk) := Lib.hid (by
            rw [HKP.out, List.getElem?_eq_none (by rw [HKL.out]; omega)]
            exact hkk)
          have HW2 := Lib.hid hw2
          have HSS := Lib.hid hsl
          clear hkk hw2 hsl
          gi_wp2
          have hw2 := HW2.out
          have hsl := HSS.out
          obtain ⟨W2, hW2⟩ : ∃ W2, W.setCell ⟨ib, 0, none⟩ (.int .i64 ((t : Int) + 1)) = W2 := ⟨_, rfl⟩
          have hf1 : FrK W W2 (Kis ib) := by
            rw [← hW2]
            exact FrK.set W ib 0 _
          have hb2 : Bk W2 fi 69 #[.slice Ay ln cy, .int .i64 (sy : Nat)] := hf1.bk HFI.out (fun e => hne e)
          have hx2 : Boxed W2 ib 3 (.int .i64 ((t : Int) + 1)) := by
            rw [← hW2]
            exact Boxed.set _ HBX.out
          rw [hW2]
          have HF1 := Lib.hid hf1
          have HB2 := Lib.hid hb2
          have HX2 := Lib.hid hx2
          have c0 : W2.cell? ⟨fi, 0, none⟩ = some (.slice Ay ln cy) := by rw [hb2.cell 0]; rfl
          have c1 : W2.cell? ⟨fi, 1, none⟩ = some (.int .i64 (sy : Nat)) := by rw [hb2.cell 1]; rfl
          have f0 := hb2.frozen 0
          clear hW2 hf1 hb2 hx2 d0 d1 g0 g1 g2
          refine wpIn_region_still_round 14 (by kernel_rfl) (by kernel_rfl) (by kernel_rfl) ?_
          simp only [List.take_succ_cons, List.take_zero, List.drop_succ_cons, List.drop_zero]
          repeat still_step
          refine wpStill_nil ?_
          change wpList _ _ _ _ _ W2.drew
          go_wp2
          obtain ⟨W3, hW3⟩ : ∃ W3, (W2.setCell ⟨fi, 0, none⟩ (.slice Ay kk cy)).drew = W3 := ⟨_, rfl⟩
          have hf3 : FrK W2 W3 (Kis fi) := by
            rw [← hW3]
            exact (FrK.set W2 fi 0 _).drew
          have hb3 : Bk W3 fi 69 #[.slice Ay kk cy, .int .i64 (sy : Nat)] := by
            rw [← hW3]
            exact Bk.set HB2.out 0 _
          have c30 : W3.cell? ⟨fi, 0, none⟩ = some (.slice Ay kk cy) := by rw [hb3.cell 0]; rfl
          have c31 : W3.cell? ⟨fi, 1, none⟩ = some (.int .i64 (sy : Nat)) := by rw [hb3.cell 1]; rfl
          have f31 := hb3.frozen 1
          have HF3 := Lib.hid hf3
          have HB3 := Lib.hid hb3
          rw [hW3]
          clear hW3 hf3 hb3 c0 c1 f0
          gi_wp2
          have hf4 := HF3.out.trans (FrK.set W3 fi 1 (.int .i64 (kk : Nat))) fun _ _ e => e
          exact STEP.out kk W2 _ HKK.out HF1.out hf4 (by simpa using HB3.out.set 1 (.int .i64 (kk : Nat))) (hf4.bk HX2.out (fun e => hne (Eq.symm e)))
      case done =>
        rintro D xs W hD hall hI hK
        obtain ⟨bv', hv⟩ := hI.vf
        have hDm : Mh strV (fiV m.fb) W lb Lj := by
          obtain ⟨es', c', ho⟩ := HM3.out.obj
          refine HM3.out.of (hI.fr.block lb HM3.out.lt (fun e => ?_))
          rcases e with e | ⟨i, hi, e⟩
          · have h1 : w3.heap[lb]? = some (.cells #[.int .i64 ((0 : Nat) : Int)] 3 (0, 0)) := by rw [e]; exact IB.out
            rw [ho] at h1
            cases h1
          · have h1 : ∃ cs t fr, w3.heap[lb]? = some (.cells cs t fr) := by rw [e]; exact ⟨_, _, _, V3.out.file i _ (file_at hi)⟩
            obtain ⟨_, _, _, h1⟩ := h1
            rw [ho] at h1
            cases h1
        obtain ⟨es2, c2, hM2, hC2⟩ := vfClone hDm
        have cC2 := hC2 W rfl
        have hFb := hv.blk.alloc (.map es2 c2)
        have hDm2 := hDm.alloc (.map es2 c2)
        have hfr2 : FrK W (W.alloc (.map es2 c2)) Kno := (FrK.refl W Kno).alloc _
        have hK2 : (W.alloc (.map es2 c2)).heap[D]? = some (.deferred (some [])) := (Below.heap_alloc W _ D (Array.getElem?_eq_some_iff.1 hK).1).trans hK
        obtain ⟨W2, hW2⟩ : ∃ W2, W.alloc (.map es2 c2) = W2 := ⟨_, rfl⟩
        have cC3 : Calls Try.prog 43 #[maV lb] W fun e w' => e = .returned (maV W.heap.size) ∧ W2 = w' := cC2.mono fun e w' he => ⟨he.1, by rw [he.2, ← hW2]⟩
        rw [hW2] at hFb hDm2 hfr2 hK2 hM2
        obtain ⟨sb', hsb⟩ : ∃ sb', W.heap.size = sb' := ⟨_, rfl⟩
        rw [hsb] at cC3 hM2
        have hWs : w3.heap.size ≤ W.heap.size := hI.fr.size
        have k2 : W2.cell? ⟨F, 2, none⟩ = some (maV m.db) := by rw [hFb.cell 2]; rfl
        have k3 : W2.cell? ⟨F, 3, none⟩ = some (maV m.sb) := by rw [hFb.cell 3]; rfl
        have k4 : W2.cell? ⟨F, 4, none⟩ = some m.cv := by rw [hFb.cell 4]; rfl
        have k5 : W2.cell? ⟨F, 5, none⟩ = some (.bool S.off) := by rw [hFb.cell 5]; rfl
        have k6 : W2.cell? ⟨F, 6, none⟩ = some (.int .i64 S.fuse) := by rw [hFb.cell 6]; rfl
        have k7 : W2.cell? ⟨F, 7, none⟩ = some (.int .i64 S.fault) := by rw [hFb.cell 7]; rfl
        have z2 := hFb.frozen 2
        have z3 := hFb.frozen 3
        have z4 := hFb.frozen 4
        have z5 := hFb.frozen 5
        have z6 := hFb.frozen 6
        have z7 := hFb.frozen 7
        have fin : ∀ W9, W9 = (((((W2.setCell ⟨F, 2, none⟩ (maV lb)).setCell ⟨F, 3, none⟩ (maV sb')).setCell ⟨F, 4, none⟩ (.slice none 0 0)).setCell ⟨F, 5, none⟩ (.bool false)).setCell ⟨F, 6, none⟩ (.int .i64 (-1))).setCell ⟨F, 7, none⟩ (.int .i64 (-1)) →
            W9.heap[D]? = some (.deferred (some [])) ∧ VCrash base w K F S n keep (.returned (.int .i64 (0 : Nat))) (W9.putObj D (.deferred none)) := by
          rintro W9 rfl
          have hB9 := (((((hFb.set 2 (maV lb)).set 3 (maV sb')).set 4 (.slice none 0 0)).set 5 (.bool false)).set 6 (.int .i64 (-1))).set 7 (.int .i64 (-1))
          have hfr9 : FrK W2 (((((((W2.setCell ⟨F, 2, none⟩ (maV lb)).setCell ⟨F, 3, none⟩ (maV sb')).setCell ⟨F, 4, none⟩ (.slice none 0 0)).setCell ⟨F, 5, none⟩ (.bool false)).setCell ⟨F, 6, none⟩ (.int .i64 (-1))).setCell ⟨F, 7, none⟩ (.int .i64 (-1))) : World) (Kis F) :=
            (((((FrK.set W2 F 2 _).trans (FrK.set _ F 3 _) fun _ _ e => e).trans (FrK.set _ F 4 _) fun _ _ e => e).trans (FrK.set _ F 5 _) fun _ _ e => e).trans (FrK.set _ F 6 _) fun _ _ e => e).trans (FrK.set _ F 7 _) fun _ _ e => e
          obtain ⟨W9, hW9⟩ : ∃ W9, (((((W2.setCell ⟨F, 2, none⟩ (maV lb)).setCell ⟨F, 3, none⟩ (maV sb')).setCell ⟨F, 4, none⟩ (.slice none 0 0)).setCell ⟨F, 5, none⟩ (.bool false)).setCell ⟨F, 6, none⟩ (.int .i64 (-1))).setCell ⟨F, 7, none⟩ (.int .i64 (-1)) = W9 := ⟨_, rfl⟩
          rw [hW9] at hB9 hfr9 ⊢
          have hFw : F < w.heap.size := KW.out F V3.out.kF
          have hDF : D ≠ F := by omega
          have hK9 : W9.heap[D]? = some (.deferred (some [])) := (hfr9.block D (Array.getElem?_eq_some_iff.1 hK2).1 hDF).trans hK2
          refine ⟨hK9, ?_⟩
          have hfrD : FrK W9 (W9.putObj D (.deferred none)) (Kis D) := FrK.of_grown (grownBy_putObj' W9 D (.deferred none)) fun b _ e => (Option.some.inj e).symm
          have hall9 : FrK W (W9.putObj D (.deferred none)) fun b => b = F ∨ b = D := ((hfr2.mono fun _ _ e => e.elim).trans hfr9 fun b _ e => .inl e).trans hfrD fun b _ e => .inr e
          have hBf := hfrD.bk hB9 (fun e => hDF (Eq.symm e))
          have hlD : lb ≠ D := by
            have := HL1.out
            omega
          have hlF : lb ≠ F := HNE.out F V3.out.kF |>.symm
          have hsF : sb' ≠ F := by omega
          have hsD : sb' ≠ D := by
            have := (Array.getElem?_eq_some_iff.1 hK).1
            omega
          have hMl := (hDm2.of (hfr9.block lb hDm2.lt hlF)).of (hfrD.block lb (by have := hDm2.lt; have := hfr9.size; omega) hlD)
          have hMs := (hM2.of (hfr9.block sb' hM2.lt hsF)).of (hfrD.block sb' (by have := hM2.lt; have := hfr9.size; omega) hsD)
          have hidx : (xs.map (·.1)).map (·.2) = xs.map fun x => x.1.2 := by rw [List.map_map]; rfl
          have hnm : (xs.map (·.1)).map (·.1) = xs.map fun x => x.1.1 := by rw [List.map_map]; rfl
          have hredir := hv.redir (n0 := w.heap.size) (db' := lb) (sb' := sb') (D' := Lj) (S' := S.crash n keep (xs.map (·.1))) hall9 (fun b e hb => by
            rcases e with e | e
            · exact e
            · have := KW.out b hb
              omega) (by
            show VSt.crashGo keep ((xs.map (·.1)).map (·.2)) 0 S.fs = _
            rw [hidx]) rfl (by
            have e : fsC (S.crash n keep (xs.map (·.1))) { m with db := lb, sb := sb', cv := .slice none 0 0, cms := [], D := Lj, Y := Lj } = ((((((fsC { S with fs := VSt.crashGo keep (xs.map fun x => x.1.2) 0 S.fs } { m with bv := bv' }).setIfInBounds 2 (maV lb)).setIfInBounds 3 (maV sb')).setIfInBounds 4 (.slice none 0 0)).setIfInBounds 5 (.bool false)).setIfInBounds 6 (.int .i64 (-1))).setIfInBounds 7 (.int .i64 (-1)) := by
              simp [fsC, VSt.crash]
            show Bk _ _ _ (fsC (S.crash n keep (xs.map (·.1))) { m with db := lb, sb := sb', cv := .slice none 0 0, cms := [], D := Lj, Y := Lj })
            rw [e]
            exact hBf) hMl hMs (by
            show Lj.Perm (S.dirN (VSt.modulo n S.chg.length))
            rw [HQ.out]
            exact PJ.out) (by have := HL1.out; omega) (by have := HL1.out; omega) (by omega) H.out.baseLe
          have hfw : FrK w (W9.putObj D (.deferred none)) K := ((F3.out.mono fun _ _ e => e.elim).trans hI.fr fun b hb e => ?_).trans hall9 fun b hb e => ?_
          · exact ⟨xs.map (·.1), by rw [HQ.out]; exact hall.2.trans PJ.out, by rw [hnm]; exact hall.1, rfl, _, hredir, hfw⟩
          · rcases e with e | ⟨i, hi, e⟩
            · omega
            · exact e ▸ V3.out.kB i hi
          · rcases e with e | e
            · exact e ▸ V3.out.kF
            · omega
        have FIN := Lib.hid fin
        have CC3 := Lib.hid cC3
        have HK2 := Lib.hid hK2
        clear hv hDm hM2 cC2 hC2 hFb hDm2 hfr2 hK2 hW2 cC3 hsb fin hI hall
        go_wp2_with fail
        refine CC3.out.mono ?_
        rintro e w' ⟨rfl, hw'⟩
        subst hw'
        go_wp2_with fail
        obtain ⟨q1, q2⟩ := FIN.out _ rfl
        refine ⟨by simp, .inl ⟨_, _, rfl, run_takeDeferred q1, ?_⟩⟩
        refine ⟨.int .i64 0, results_tmp (t := 6) rfl _ _ _, ?_⟩
        exact q2
      case stop =>
        rintro D c pre W _ _ h _
        exact h.elim
end Go.Proofs.Ytdjmmdhjjdnbdaa

/- Layer 4, plain: few calls make little: what each call keeps, with numbers. -/
namespace Go.Proofs.Ytdjmmdhjjdnbdaa
open Go.RowKit

/-- Behind k calls. -/
structure VSt.Few (S : VSt) (k : Nat) : Prop where
  chg : S.chg.length ≤ k
  fs : S.fs.length ≤ k
  len : ∀ x ∈ S.fs, x.b.length ≤ 300 * k
  syn : ∀ p ∈ S.syn, p.1.size ≤ 64
  nm : ∀ c ∈ S.chg, ∀ i, c.f = some i → c.name.size ≤ 64
  lim : 0 ≤ S.limit ∧ S.limit ≤ 1073741824
theorem VSt.Few.of {S T : VSt} {k : Nat} (h : S.Few k) (h1 : T.syn = S.syn) (h2 : T.chg = S.chg) (h3 : T.fs = S.fs) (h4 : T.limit = S.limit) : T.Few k :=
  ⟨by rw [h2]; exact h.chg, by rw [h3]; exact h.fs, by rw [h3]; exact h.len, by rw [h1]; exact h.syn, by rw [h2]; exact h.nm, by rw [h4]; exact h.lim⟩
theorem VSt.Few.strike {S : VSt} {k : Nat} (h : S.Few k) : S.strike.1.Few k := by
  obtain ⟨h1, h2, h3, h4, -⟩ := strike_same S
  exact h.of h1 h2 h3 h4
theorem VSt.Few.more {S : VSt} {k j : Nat} (h : S.Few k) (hk : k ≤ j) : S.Few j :=
  ⟨Nat.le_trans h.chg hk, Nat.le_trans h.fs hk, fun x hx => Nat.le_trans (h.len x hx) (Nat.mul_le_mul_left _ hk), h.syn, h.nm, h.lim⟩
theorem vName_size {s : ByteArray} (h : vName s = true) : s.size ≤ 64 := by
  unfold vName at h
  simp at h
  exact h.2
theorem chgOn_mem2 {L : List (ByteArray × Nat)} {c : VChg} {p : ByteArray × Nat} (h : p ∈ chgOn L c) : p ∈ L ∨ (c.f = some p.2 ∧ p.1 = c.name) := by
  have hd : ∀ q, q ∈ (if c.gone = noT then L else dDel c.gone L) → q ∈ L := fun q hq => by
    split at hq
    · exact hq
    · exact (List.mem_filter.1 hq).1
  unfold chgOn at h
  split at h
  · rename_i x hx
    rcases mgPut_mem h with h | h
    · exact .inr (by rw [hx, h]; exact ⟨rfl, rfl⟩)
    · exact .inl (hd p h)
  · exact .inl (hd p h)
theorem VSt.Few.names {S : VSt} {k : Nat} (h : S.Few k) (j : Nat) : ∀ p ∈ S.dirN j, p.1.size ≤ 64 := by
  have hg : ∀ (l : List VChg) (L : List (ByteArray × Nat)), (∀ c ∈ l, ∀ i, c.f = some i → c.name.size ≤ 64) → (∀ p ∈ L, p.1.size ≤ 64) → ∀ p ∈ l.foldl chgOn L, p.1.size ≤ 64 := by
    intro l
    induction l with
    | nil => exact fun L _ h => h
    | cons c l ih =>
      intro L hl hL
      refine ih _ (fun c' hc' => hl c' (List.mem_cons_of_mem _ hc')) fun p hp => ?_
      rcases chgOn_mem2 hp with h1 | ⟨h1, h2⟩
      · exact hL p h1
      · rw [h2]
        exact hl c (List.mem_cons_self ..) _ h1
  exact hg _ _ (fun c hc => h.nm c (List.mem_of_mem_take hc)) h.syn
theorem VSt.Ok.dir_len {S : VSt} (h : S.Ok) (j : Nat) : (S.dirN j).length ≤ S.fs.length := by
  have := nodup_len_le S.fs.length (h.inj j) fun i hi => by
    obtain ⟨p, hp, rfl⟩ := List.mem_map.1 hi
    exact h.dirN_lt hp
  simpa using this
theorem op_few {S : VSt} {r : Bool} {d : VSt → VSt × Nat} {k : Nat} (h : S.Few k) (ho : S.Ok) (hd : ∀ T : VSt, r = true → T.Few k → T.Ok → (d T).1.Few (k + 1)) : (S.op r d).1.Few (k + 1) := by
  unfold VSt.op
  split
  · exact h.more (by omega)
  · rename_i hr
    split
    · exact h.strike.more (by omega)
    · exact hd _ (by simpa using hr) h.strike ho.strike
theorem op_ops {S : VSt} {r : Bool} {d : VSt → VSt × Nat} (hd : ∀ T : VSt, (d T).1.ops = T.ops) : (S.op r d).1.ops ≤ S.ops + 1 := by
  unfold VSt.op
  split
  · simp
  · split
    · exact strike_ops S
    · rw [hd]
      exact strike_ops S
theorem VSt.Few.chgd {S : VSt} {k : Nat} (h : S.Few k) {c : VChg} {f : List VFile} (hc : ∀ i, c.f = some i → c.name.size ≤ 64) (hf : f.length ≤ 1) (hl : ∀ x ∈ f, x.b.length = 0) : ({ S with chg := S.chg ++ [c], fs := S.fs ++ f } : VSt).Few (k + 1) where
  chg := by
    have := h.chg
    simp
    omega
  fs := by
    have := h.fs
    simp
    omega
  len x hx := by
    rcases List.mem_append.1 hx with h1 | h1
    · have := h.len x h1
      omega
    · rw [hl x h1]
      omega
  syn := h.syn
  nm c' hc' i hi := by
    rcases List.mem_append.1 hc' with h1 | h1
    · exact h.nm c' h1 i hi
    · rw [List.mem_singleton] at h1
      subst h1
      exact hc i hi
  lim := h.lim
theorem VSt.Few.setFile {S : VSt} {k : Nat} (h : S.Few k) (i : Nat) {x : VFile} (hx : x.b.length ≤ 300 * (k + 1)) : (S.setFile i x).Few (k + 1) where
  chg := Nat.le_succ_of_le h.chg
  fs := by
    have := h.fs
    simp [VSt.setFile]
    omega
  len y hy := by
    rcases List.mem_or_eq_of_mem_set (show y ∈ S.fs.set i x from hy) with h1 | h1
    · have := h.len y h1
      omega
    · exact h1 ▸ hx
  syn := h.syn
  nm := h.nm
  lim := h.lim
section
variable {S : VSt} {k : Nat}
theorem create_few (h : S.Few k) (ho : S.Ok) (s : ByteArray) : (S.create s).1.Few (k + 1) := op_few h ho fun T hn hT _ => by
  cases hg : T.get s with
  | some i => exact hT.more (by omega)
  | none => exact hT.chgd (f := [⟨[], 0⟩]) (fun _ _ => vName_size hn) (by simp) fun x hx => by rw [List.mem_singleton] at hx; rw [hx]; rfl
theorem VSt.Few.file (h : S.Few k) {i : Nat} (hi : i < S.fs.length) : (S.file i).b.length ≤ 300 * k := h.len _ (List.mem_of_getElem? (file_at hi))
theorem append_few (h : S.Few k) (ho : S.Ok) (s : ByteArray) {zs : List Int} (hz : zs.length ≤ 300) : (S.append s zs).1.Few (k + 1) := op_few h ho fun T hn hT hTo => by
  cases hg : T.get s with
  | none => exact hT.more (by omega)
  | some i =>
    simp only
    split
    · exact hT.more (by omega)
    · refine hT.setFile i ?_
      have := hT.file (hTo.get_lt hg)
      simp only [List.length_append]
      omega
theorem sync_few (h : S.Few k) (ho : S.Ok) (s : ByteArray) : (S.sync s).1.Few (k + 1) := op_few h ho fun T hn hT hTo => by
  cases hg : T.get s with
  | none => exact hT.more (by omega)
  | some i =>
    refine hT.setFile i ?_
    have := hT.file (hTo.get_lt hg)
    simp only
    omega
theorem syncDir_few (h : S.Few k) (ho : S.Ok) : S.syncDir.1.Few (k + 1) := op_few h ho fun T hn hT hTo => ⟨Nat.zero_le _, Nat.le_succ_of_le hT.fs, fun x hx => Nat.le_trans (hT.len x hx) (by omega), hT.names _, (fun c hc => by cases hc), hT.lim⟩
theorem rename_few (h : S.Few k) (ho : S.Ok) (s t : ByteArray) : (S.rename s t).1.Few (k + 1) := op_few h ho fun T hn hT hTo => by
  have ht : vName t = true := (Bool.and_eq_true _ _ ▸ hn).2
  cases hg : T.get s with
  | none => exact hT.more (by omega)
  | some i =>
    simp only
    split
    · exact hT.more (by omega)
    · have := hT.chgd (c := ⟨t, some i, s⟩) (f := []) (fun _ _ => vName_size ht) (by simp) fun x hx => by cases hx
      simpa using this
theorem remove_few (h : S.Few k) (ho : S.Ok) (s : ByteArray) : (S.remove s).1.Few (k + 1) := op_few h ho fun T hn hT hTo => by
  cases hg : T.get s with
  | none => exact hT.more (by omega)
  | some i =>
    have := hT.chgd (c := ⟨noT, none, s⟩) (f := []) (fun _ e => by cases e) (by simp) fun x hx => by cases hx
    simpa using this
theorem read_few (h : S.Few k) (s : ByteArray) (a n : Int) : (S.read s a n).1.Few k := by
  unfold VSt.read
  split
  · exact h
  · split
    · exact h.strike
    · split <;> exact h.strike
theorem fuse_few (h : S.Few k) (n : Int) : (S.setFuse n).Few k := h.of rfl rfl rfl rfl
theorem fault_few (h : S.Few k) (n e : Int) : (S.setFault n e).1.Few k := by
  unfold VSt.setFault
  split
  · exact h
  · exact h.of rfl rfl rfl rfl
theorem crash_few (h : S.Few k) (n : Int) (keep : List Int) (L : List (ByteArray × Nat)) : (S.crash n keep L).Few k :=
  ⟨Nat.zero_le _, by show (VSt.crashGo keep _ 0 S.fs).length ≤ k; rw [crashGo_len]; exact h.fs, crashGo_small keep _ 0 _ h.len, h.names _, (fun c hc => by cases hc), h.lim⟩
theorem crash_ok (ho : S.Ok) (n : Int) (keep : List Int) (L : List (ByteArray × Nat)) : (S.crash n keep L).Ok where
  syn p hp := by
    show p.2 < (VSt.crashGo keep _ 0 S.fs).length
    rw [crashGo_len]
    exact ho.dirN_lt hp
  synN := ho.keys _
  chg c hc := by cases hc
  inj j := by
    have e : (S.crash n keep L).dirN j = S.dirN (VSt.modulo n S.chg.length) := by
      unfold VSt.dirN
      simp [VSt.crash, VSt.dirN]
    rw [e]
    exact ho.inj _
  byt := crashGo_ok keep _ 0 _ ho.byt
  fuse := ⟨by simp [VSt.crash], by simp [VSt.crash]⟩
  fault := ⟨by simp [VSt.crash], by simp [VSt.crash]⟩
theorem modify_len (b : List Int) (j : Nat) (f : Int → Int) : (b.modify j f).length = b.length := by simp
theorem turn_few (h : S.Few k) (ho : S.Ok) (s : ByteArray) (a b : Int) : (S.turn s a b).1.Few (k + 1) := by
  unfold VSt.turn
  cases hg : S.get s with
  | none => exact h.more (by omega)
  | some i =>
    simp only
    split
    · exact h.more (by omega)
    · refine h.setFile i ?_
      have := h.file (ho.get_lt hg)
      simp only [modify_len]
      omega
theorem turn_ok (ho : S.Ok) (s : ByteArray) (a : Int) {b : Int} (hb : 0 ≤ b ∧ b ≤ 255) : (S.turn s a b).1.Ok := by
  unfold VSt.turn
  cases hg : S.get s with
  | none => exact ho
  | some i =>
    simp only
    split
    · exact ho
    · have hf := ho.file (ho.get_lt hg)
      refine ho.setFile i ⟨fun z hz => ?_, ?_⟩
      · obtain ⟨j, hj, rfl⟩ := List.getElem_of_mem hz
        rw [List.getElem_modify]
        split
        · have h1 := hf.1 _ (List.getElem_mem (by simpa using hj))
          have h2 := (vf_xor h1 hb).2
          omega
        · exact hf.1 _ (List.getElem_mem _)
      · simp only [modify_len]
        exact hf.2
theorem new_few {limit : Int} (h : 0 ≤ limit ∧ limit ≤ 1073741824) : (VSt.new limit).Few 0 :=
  ⟨Nat.le_refl _, Nat.le_refl _, (fun x hx => by cases hx), (fun p hp => by cases hp), (fun c hc => by cases hc), h⟩
end
end Go.Proofs.Ytdjmmdhjjdnbdaa

/- Layer 4: a file system of the law's own, call by call. -/
namespace Go.Proofs.Ytdjmmdhjjdnbdaa
open Go.RowKit

/-- A file system made since w0, behind k calls at most, all of it in the blocks K. -/
structure Se (w0 W : World) (K : Nat → Prop) (F : Nat) (S : VSt) (k : Nat) : Prop where
  vf : ∃ m, Vf w0.heap.size W K F S m
  ok : S.Ok
  few : S.Few k
  ops : S.ops ≤ k
  bel : Below w0.heap.size w0 W
/-- What a call of it comes to. -/
def SeP (w0 W : World) (K : Nat → Prop) (F k : Nat) (R : VSt × Nat) (e : Ending) (w' : World) : Prop :=
  e = .returned (.int .i64 (R.2 : Nat)) ∧ Se w0 w' (Kn K W.heap.size w'.heap.size) F R.1 (k + 1) ∧ FrK W w' K
section
variable {w0 W W' : World} {K : Nat → Prop} {F k : Nat} {S : VSt}
theorem Se.kLo (h : Se w0 W K F S k) {b : Nat} (hb : K b) : w0.heap.size ≤ b ∧ b < W.heap.size := by
  obtain ⟨m, hv⟩ := h.vf
  exact hv.lo b hb
theorem Se.frK (h : Se w0 W K F S k) (hf : FrK W W' K) : Below w0.heap.size w0 W' := h.bel.trans (hf.below h.bel.size fun _ e => (h.kLo e).1)
theorem Se.below (h : Se w0 W K F S k) (hb : Below W.heap.size W W') : Se w0 W' K F S k := by
  obtain ⟨m, hv⟩ := h.vf
  exact ⟨⟨m, hv.keep (FrK.of_below hb (Nat.le_refl _) Kno) fun _ _ e => e⟩, h.ok, h.few, h.ops, h.bel.trans (hb.mono h.bel.size)⟩
theorem Se.alloc (h : Se w0 W K F S k) (o : Obj) : Se w0 (W.alloc o) K F S k := h.below ((Below.refl _ W).alloc (Nat.le_refl _) o)
theorem Se.drewN (h : Se w0 W K F S k) (n : Nat) : Se w0 (W.drewN n) K F S k := h.below (below_drewN (Below.refl _ W) n)
theorem Se.more {j : Nat} (h : Se w0 W K F S k) (hk : k ≤ j) : Se w0 W K F S j := ⟨h.vf, h.ok, h.few.more hk, Nat.le_trans h.ops hk, h.bel⟩
theorem Se.post {R : VSt × Nat} {e : Ending} (h : Se w0 W K F S k) (hp : VPost w0.heap.size W K F R e W') (ho : R.1.Ok) (hf : R.1.Few (k + 1)) (hops : R.1.ops ≤ k + 1) : SeP w0 W K F k R e W' := by
  obtain ⟨h1, m', h2, h3⟩ := hp
  exact ⟨h1, ⟨⟨m', h2⟩, ho, hf, hops, h.frK h3⟩, h3⟩
theorem Se.b3 (h : Se w0 W K F S k) (hk : k ≤ 1000) : S.ops ≤ 4611686018427387904 ∧ S.chg.length ≤ 1000000 ∧ S.fs.length ≤ 1000000 ∧ (∀ x ∈ S.fs, x.b.length ≤ 1000000000) ∧ (0 ≤ S.limit ∧ S.limit ≤ 4611686018427387904) := by
  have h1 := h.ops
  have h2 := h.few.chg
  have h3 := h.few.fs
  have h4 := h.few.lim
  refine ⟨by omega, by omega, by omega, fun x hx => ?_, by omega⟩
  have := h.few.len x hx
  omega
theorem setFile_ops (T : VSt) (i : Nat) (x : VFile) : (T.setFile i x).ops = T.ops := rfl
theorem seNew (w : World) (limit : Int) (h : 0 ≤ limit ∧ limit ≤ 1073741824) :
    Calls Try.prog 11 #[.int .i64 limit] w fun e w' => ∃ F, e = .returned (.tuple #[ptV F, .int .i64 0]) ∧ Se w w' (Kn Kno w.heap.size w'.heap.size) F (VSt.new limit) 0 := by
  refine (vfNew w limit h (Nat.le_refl _)).mono ?_
  rintro e w' ⟨F, rfl, h1, h2⟩
  exact ⟨F, rfl, h1, new_ok limit, new_few h, Nat.le_refl _, h2.below (Nat.le_refl _) fun _ e => e.elim⟩
theorem seCreate (h : Se w0 W K F S k) (hk : k ≤ 1000) (s : ByteArray) (hs : s.size ≤ 9223372036854775806) :
    Calls Try.prog 12 #[ptV F, .string s] W (SeP w0 W K F k (S.create s)) := by
  obtain ⟨m, hv⟩ := h.vf
  obtain ⟨h1, h2, -⟩ := h.b3 hk
  have ho := h.ops
  refine (vfCreate hv h.ok h1 s hs h2).mono fun e w' hp => h.post hp (create_ok h.ok s) (create_few h.few h.ok s) (Nat.le_trans (op_ops fun T => ?_) (by omega))
  cases T.get s <;> rfl
theorem seSync (h : Se w0 W K F S k) (hk : k ≤ 1000) (s : ByteArray) (hs : s.size ≤ 9223372036854775806) :
    Calls Try.prog 15 #[ptV F, .string s] W (SeP w0 W K F k (S.sync s)) := by
  obtain ⟨m, hv⟩ := h.vf
  obtain ⟨h1, h2, -⟩ := h.b3 hk
  have ho := h.ops
  refine (vfSync hv h.ok h1 s hs).mono fun e w' hp => h.post hp (sync_ok h.ok s) (sync_few h.few h.ok s) (Nat.le_trans (op_ops fun T => ?_) (by omega))
  cases T.get s <;> rfl
theorem seSyncDir (h : Se w0 W K F S k) (hk : k ≤ 1000) :
    Calls Try.prog 16 #[ptV F] W (SeP w0 W K F k S.syncDir) := by
  obtain ⟨m, hv⟩ := h.vf
  obtain ⟨h1, h2, -⟩ := h.b3 hk
  have ho := h.ops
  exact (vfSyncDir hv h.ok h1).mono fun e w' hp => h.post hp (syncDir_ok h.ok) (syncDir_few h.few h.ok) (Nat.le_trans (op_ops fun T => rfl) (by omega))
theorem seRename (h : Se w0 W K F S k) (hk : k ≤ 1000) (s t : ByteArray) (hs : s.size ≤ 9223372036854775806) (ht : t.size ≤ 9223372036854775806) :
    Calls Try.prog 22 #[ptV F, .string s, .string t] W (SeP w0 W K F k (S.rename s t)) := by
  obtain ⟨m, hv⟩ := h.vf
  obtain ⟨h1, h2, -⟩ := h.b3 hk
  have ho := h.ops
  refine (vfRename hv h.ok h1 s t hs ht h2).mono fun e w' hp => h.post hp (rename_ok h.ok s t) (rename_few h.few h.ok s t) (Nat.le_trans (op_ops fun T => ?_) (by omega))
  cases T.get s with
  | none => rfl
  | some i =>
    simp only
    split <;> rfl
theorem seRemove (h : Se w0 W K F S k) (hk : k ≤ 1000) (s : ByteArray) (hs : s.size ≤ 9223372036854775806) :
    Calls Try.prog 32 #[ptV F, .string s] W (SeP w0 W K F k (S.remove s)) := by
  obtain ⟨m, hv⟩ := h.vf
  obtain ⟨h1, h2, -⟩ := h.b3 hk
  have ho := h.ops
  refine (vfRemove hv h.ok h1 s hs h2).mono fun e w' hp => h.post hp (remove_ok h.ok s) (remove_few h.few h.ok s) (Nat.le_trans (op_ops fun T => ?_) (by omega))
  cases T.get s <;> rfl
theorem seAppend {B n c : Nat} {A : Option Addr} {zs : List Int} (h : Se w0 W K F S k) (hk : k ≤ 1000) (s : ByteArray) (hs : s.size ≤ 9223372036854775806) (hz : Rb W B A zs) (hbz : Byt zs) (hAF : ∀ a, A = some a → ¬K a.block) (hzl : zs.length = n) (hB : B ≤ W.heap.size) (hn : n ≤ 300) :
    Calls Try.prog 13 #[ptV F, .string s, .slice A n c] W (SeP w0 W K F k (S.append s zs)) := by
  obtain ⟨m, hv⟩ := h.vf
  obtain ⟨h1, h2, h3, h4, h5⟩ := h.b3 hk
  have ho := h.ops
  refine (vfAppend hv h.ok h1 s hs hz (fun a ha e => hAF a ha (by rw [e]; exact hv.kF)) hzl hB (by omega) h5 h2 h3 h4).mono fun e w' hp => h.post hp (append_ok h.ok s hbz) (append_few h.few h.ok s (by omega)) (Nat.le_trans (op_ops fun T => ?_) (by omega))
  cases T.get s with
  | none => rfl
  | some i =>
    simp only
    split <;> rfl
theorem seFuse (h : Se w0 W K F S k) (n : Int) (hn : n ≤ 9223372036854775807) :
    Calls Try.prog 24 #[ptV F, .int .i64 n] W (SeP w0 W K F k (S.setFuse n, 0)) := by
  obtain ⟨m, hv⟩ := h.vf
  have ho := h.ops
  exact (vfFuse hv n).mono fun e w' hp => h.post hp (fuse_ok h.ok hn) ((fuse_few h.few n).more (by omega)) (by show S.ops ≤ _; omega)
theorem fault_ops (n e : Int) : (S.setFault n e).1.ops = S.ops := by
  unfold VSt.setFault
  split <;> rfl
theorem seFault (h : Se w0 W K F S k) (n x : Int) (hn : n ≤ 9223372036854775807) :
    Calls Try.prog 26 #[ptV F, .int .i64 n, .int .i64 x] W (SeP w0 W K F k (S.setFault n x)) := by
  obtain ⟨m, hv⟩ := h.vf
  have ho := h.ops
  exact (vfFault hv n x).mono fun e w' hp => h.post hp (fault_ok h.ok hn) ((fault_few h.few n x).more (by omega)) (by rw [fault_ops]; omega)
theorem turn_ops (s : ByteArray) (a b : Int) : (S.turn s a b).1.ops = S.ops := by
  unfold VSt.turn
  cases S.get s with
  | none => rfl
  | some i =>
    simp only
    split <;> rfl
theorem seTurn (h : Se w0 W K F S k) (s : ByteArray) (a b : Int) (hb : 0 ≤ b ∧ b ≤ 255) :
    Calls Try.prog 33 #[ptV F, .string s, .int .i64 a, .int .u8 b] W (SeP w0 W K F k (S.turn s a b)) := by
  obtain ⟨m, hv⟩ := h.vf
  have ho := h.ops
  exact (vfTurnB hv h.ok s a b hb).mono fun e w' hp => h.post hp (turn_ok h.ok s a hb) (turn_few h.few h.ok s a b) (by rw [turn_ops]; omega)
/-- What a crash comes to, told by the names in order. -/
def SeCrash (w0 W : World) (K : Nat → Prop) (F k : Nat) (S : VSt) (n : Int) (keep : List Int) (e : Ending) (w' : World) : Prop :=
  ∃ L, L.Perm (S.dirN (VSt.modulo n S.chg.length)) ∧ SortV (L.map (·.1)) ∧ SeP w0 W K F k (S.crash n keep L, 0) e w'
theorem seCrash {B nk ck : Nat} {Ak : Option Addr} {keep : List Int} (h : Se w0 W K F S k) (hk : k ≤ 1000) (n : Int) (hn1 : -9223372036854775808 ≤ n) (hn2 : n ≤ 9223372036854775807)
    (hr : Rd W B Ak (keep.map intV)) (hB : B ≤ W.heap.size) (hkl : keep.length = nk) (hAk : ∀ a, Ak = some a → ¬K a.block) (hki : ∀ k ∈ keep, -9223372036854775808 ≤ k ∧ k ≤ 9223372036854775807) (hnk : nk ≤ 1000000) :
    Calls Try.prog 17 #[ptV F, .int .i64 n, .slice Ak nk ck] W (SeCrash w0 W K F k S n keep) := by
  obtain ⟨m, hv⟩ := h.vf
  obtain ⟨h1, h2, h3, h4, h5⟩ := h.b3 hk
  have ho := h.ops
  refine (vfCrash hv h.ok n hn1 hn2 hr hB hkl hAk hki hnk h2 h4 (fun j => h.few.names j) fun j => ?_).mono ?_
  · have := h.ok.dir_len j
    have := h.few.fs
    omega
  · rintro e w' ⟨L, h6, h7, h8⟩
    exact ⟨L, h6, h7, h.post h8 (crash_ok h.ok n keep L) ((crash_few h.few n keep L).more (by omega)) (by show S.ops ≤ _; omega)⟩
/-- What Read comes to. -/
def SeRead (w0 W : World) (K : Nat → Prop) (F k : Nat) (R : VSt × List Int × Nat) (e : Ending) (w' : World) : Prop :=
  ∃ A c, e = .returned (.tuple #[.slice A R.2.1.length c, .int .i64 (R.2.2 : Nat)]) ∧ Rb w' w'.heap.size A R.2.1 ∧ (∀ a, A = some a → W.heap.size ≤ a.block) ∧ Se w0 w' K F R.1 (k + 1) ∧ FrK W w' (Kis F)
theorem read_ops (s : ByteArray) (a n : Int) : (S.read s a n).1.ops ≤ S.ops + 1 := by
  unfold VSt.read
  split
  · simp
  · split
    · exact strike_ops S
    · split <;> exact strike_ops S
theorem seRead (h : Se w0 W K F S k) (hk : k ≤ 1000) (s : ByteArray) (hs : s.size ≤ 9223372036854775806) (a n : Int) :
    Calls Try.prog 20 #[ptV F, .string s, .int .i64 a, .int .i64 n] W (SeRead w0 W K F k (S.read s a n)) := by
  obtain ⟨m, hv⟩ := h.vf
  obtain ⟨h1, h2, h3, h4, h5⟩ := h.b3 hk
  have ho := h.ops
  refine (vfRead hv h.ok h1 h4 s hs a n).mono ?_
  rintro e w' ⟨A, c, rfl, h6, h7, h8, h9⟩
  exact ⟨A, c, rfl, h6, h7, ⟨⟨m, h8⟩, read_ok h.ok s a n, (read_few h.few s a n).more (by omega), Nat.le_trans (read_ops s a n) (by omega), h.frK (h9.mono fun b _ e => by rw [show b = F from e]; exact hv.kF)⟩, h9⟩
theorem seSize (h : Se w0 W K F S k) (s : ByteArray) : Calls Try.prog 18 #[ptV F, .string s] W fun e w' => e = .returned (.int .i64 (S.size s)) ∧ W = w' := by
  obtain ⟨m, hv⟩ := h.vf
  exact (vfSize hv h.ok s).mono fun e w' he => ⟨he.1, he.2.symm⟩
theorem seOn (h : Se w0 W K F S k) : Calls Try.prog 25 #[ptV F] W fun e w' => e = .returned (.bool (!S.off)) ∧ W = w' := by
  obtain ⟨m, hv⟩ := h.vf
  exact (vfOn_ hv).mono fun e w' he => ⟨he.1, he.2.symm⟩
theorem seOps (h : Se w0 W K F S k) : Calls Try.prog 35 #[ptV F] W fun e w' => e = .returned (.int .i64 (S.ops : Nat)) ∧ W = w' := by
  obtain ⟨m, hv⟩ := h.vf
  exact (vfOps hv).mono fun e w' he => ⟨he.1, he.2.symm⟩
theorem seUsed (h : Se w0 W K F S k) (hk : k ≤ 1000) : Calls Try.prog 34 #[ptV F] W fun e w' => e = .returned (.int .i64 (S.used : Nat)) ∧ Below W.heap.size W w' := by
  obtain ⟨m, hv⟩ := h.vf
  obtain ⟨h1, h2, h3, h4, h5⟩ := h.b3 hk
  exact vfUsed hv h.ok h2 h3 h4
theorem seNames (h : Se w0 W K F S k) (hk : k ≤ 1000) : Calls Try.prog 19 #[ptV F] W (NamesPost W S.now) := by
  obtain ⟨m, hv⟩ := h.vf
  refine vfNames hv (h.few.names _) ?_
  have := h.ok.dir_len S.chg.length
  have := h.few.fs
  show (S.dirN _).length ≤ _
  omega
end
end Go.Proofs.Ytdjmmdhjjdnbdaa

/- Layer 4: the document's file system as it lies. -/
namespace Go.Proofs.Ytdjmmdhjjdnbdaa
open Go.RowKit

/-- Where all lies. -/
structure RMem where
  sb : Nat
  cv : Value
  fb : Nat → Nat
  bv : Nat → Value
  Y : List (ByteArray × Nat)
/-- A change's cells. -/
def rchC (fb : Nat → Nat) (c : VChg) : List Value := [strV c.name, fiO fb c.f, strV c.gone]
/-- The cells of the document's file system. -/
def rfC (S : VSt) (m : RMem) : Array Value := #[.int .i64 S.limit, maV m.sb, m.cv, .bool S.off, .int .i64 S.fuse, .int .i64 S.fault, .int .i64 (S.err : Nat), .int .i64 (S.ops : Nat)]
/-- The document's file system at block F, all of it in the blocks K. -/
structure Rf (base : Nat) (w : World) (K : Nat → Prop) (F : Nat) (S : VSt) (m : RMem) : Prop where
  blk : Bk w F 82 (rfC S m)
  syn : Mh strV (fiV m.fb) w m.sb m.Y
  synP : m.Y.Perm S.syn
  chg : w.ownsRow base 99 3 m.cv S.chg.length (flatR (rchC m.fb) S.chg)
  file : ∀ (i : Nat) (x : VFile), S.fs[i]? = some x → Bk w (m.fb i) 97 #[m.bv i, .int .i64 (x.s : Nat)]
  row : ∀ (i : Nat) (x : VFile), S.fs[i]? = some x → w.ownsRow base 5 1 (m.bv i) x.b.length (bv x.b)
  inj : ∀ i j, i < S.fs.length → j < S.fs.length → m.fb i = m.fb j → i = j
  kF : K F
  kS : K m.sb
  kC : ∀ g, m.cv.ownBlock = some g → K g
  kB : ∀ i, i < S.fs.length → K (m.fb i)
  kR : ∀ i, i < S.fs.length → ∀ g, (m.bv i).ownBlock = some g → K g
  lo : ∀ b, K b → base ≤ b ∧ b < w.heap.size
section
variable {base F : Nat} {w w' : World} {K K' : Nat → Prop} {S : VSt} {m : RMem}
theorem Rf.bigger (h : Rf base w K F S m) (hk : ∀ b, K b → K' b) (hl : ∀ b, K' b → base ≤ b ∧ b < w.heap.size) : Rf base w K' F S m :=
  { h with kF := hk _ h.kF, kS := hk _ h.kS, kC := fun g e => hk _ (h.kC g e), kB := fun i e => hk _ (h.kB i e), kR := fun i e g e2 => hk _ (h.kR i e g e2), lo := hl }
/-- What leaves its blocks alone keeps it. -/
theorem Rf.keep (h : Rf base w K F S m) (hf : FrK w w' K') (hd : ∀ b, K b → ¬K' b) : Rf base w' K F S m :=
  have hb : ∀ b, K b → w'.heap[b]? = w.heap[b]? := fun b hb => hf.block b (h.lo b hb).2 (hd b hb)
  { blk := (hb _ h.kF).trans h.blk
    syn := h.syn.of (hb _ h.kS)
    synP := h.synP
    chg := own_of h.chg fun g e => hb g (h.kC g e)
    file := fun i x h1 => (hb _ (h.kB i (List.getElem?_eq_some_iff.1 h1).1)).trans (h.file i x h1)
    row := fun i x h1 => own_of (h.row i x h1) fun g e => hb g (h.kR i (List.getElem?_eq_some_iff.1 h1).1 g e)
    inj := h.inj
    kF := h.kF
    kS := h.kS
    kC := h.kC
    kB := h.kB
    kR := h.kR
    lo := fun b e => ⟨(h.lo b e).1, Nat.lt_of_lt_of_le (h.lo b e).2 hf.size⟩ }
theorem Rf.alloc (h : Rf base w K F S m) (o : Obj) : Rf base (w.alloc o) K F S m := h.keep ((FrK.refl w Kno).alloc o) fun _ _ hf => hf
theorem Rf.drewN (h : Rf base w K F S m) (n : Nat) : Rf base (w.drewN n) K F S m := h.keep ((FrK.refl w Kno).drewN n) fun _ _ hf => hf
theorem Rf.drew (h : Rf base w K F S m) : Rf base w.drew K F S m := h.keep ((FrK.refl w Kno).drew) fun _ _ hf => hf
theorem Rf.below (h : Rf base w K F S m) (hb : Below w.heap.size w w') : Rf base w' K F S m := h.keep (FrK.of_below hb (Nat.le_refl _) Kno) fun _ _ hf => hf
theorem Rf.neS (h : Rf base w K F S m) : m.sb ≠ F := fun e => by
  obtain ⟨es, c, h1⟩ := h.syn.obj
  rw [e, show w.heap[F]? = _ from h.blk] at h1
  cases h1
theorem Rf.baseLe (h : Rf base w K F S m) : base ≤ w.heap.size := by
  have := h.lo F h.kF
  omega
theorem Rf.kn (h : Rf base w' K F S m) (hb : base ≤ w.heap.size) : Rf base w' (Kn K w.heap.size w'.heap.size) F S m :=
  h.bigger (fun b e => .inl e) fun b e => e.elim (h.lo b) fun ⟨h1, h2⟩ => ⟨by omega, h2⟩
theorem Rf.knn {w'' : World} {a b : Nat} (h : Rf base w'' (Kn (Kn K a b) b w''.heap.size) F S m) (hab : a ≤ b) (hb : b ≤ w''.heap.size) : Rf base w'' (Kn K a w''.heap.size) F S m :=
  h.bigger (fun x e => e.flat hab hb) fun x e => by
    rcases e with e | ⟨h1, h2⟩
    · exact h.lo x (.inl (.inl e))
    · rcases Nat.lt_or_ge x b with h3 | h3
      · exact h.lo x (.inl (.inr ⟨h1, h3⟩))
      · exact h.lo x (.inr ⟨h3, h2⟩)
/-- Cells of F, stored. -/
theorem Rf.stored (h : Rf base w K F S m) {S' : VSt} (i : Nat) (u : Value) (hc : rfC S' m = (rfC S m).setIfInBounds i u) (h1 : S'.syn = S.syn) (h2 : S'.chg = S.chg) (h3 : S'.fs = S.fs) : Rf base (w.setCell ⟨F, i, none⟩ u) K F S' m := by
  have hf := FrK.set w F i u
  have hb : ∀ b, b ≠ F → b < w.heap.size → (w.setCell ⟨F, i, none⟩ u).heap[b]? = w.heap[b]? := fun b hb hl => hf.block b hl hb
  refine { blk := ?_, syn := h.syn.of (hb _ h.neS h.syn.lt), synP := by rw [h1]; exact h.synP, chg := ?_, file := ?_, row := ?_, inj := by rw [h3]; exact h.inj, kF := h.kF, kS := h.kS, kC := h.kC, kB := by rw [h3]; exact h.kB, kR := by rw [h3]; exact h.kR, lo := ?_ }
  · rw [hc]
    exact h.blk.set i u
  · rw [h2]
    refine own_of h.chg fun g e => ?_
    obtain ⟨cur, hcur⟩ := own_bk h.chg e
    exact hb g (ne_of_type hcur h.blk (by decide)) hcur.lt
  · rw [h3]
    intro j x e1
    have h4 := h.file j x e1
    exact (hb _ (ne_of_type h4 h.blk (by decide)) h4.lt).trans h4
  · rw [h3]
    intro j x e1
    refine own_of (h.row j x e1) fun g e => ?_
    obtain ⟨cur, hcur⟩ := own_bk (h.row j x e1) e
    exact hb g (ne_of_type hcur h.blk (by decide)) hcur.lt
  · intro b e
    exact ⟨(h.lo b e).1, by simpa [World.setCell] using (h.lo b e).2⟩
end
/-- What a method's call comes to. -/
def RPost (base : Nat) (w : World) (K : Nat → Prop) (F : Nat) (R : VSt × Nat) (e : Ending) (w' : World) : Prop :=
  e = .returned (.int .i64 (R.2 : Nat)) ∧ ∃ m', Rf base w' (Kn K w.heap.size w'.heap.size) F R.1 m' ∧ FrK w w' K
end Go.Proofs.Ytdjmmdhjjdnbdaa

/- Layer 4: the document's directory behind its first n changes. -/
namespace Go.Proofs.Ytdjmmdhjjdnbdaa
open Go.RowKit
theorem loadRch_shut (a : Addr) : loadVar 99 a = loadK 99 a := rfl
attribute [local go_sem ↓] loadRch_shut

def rchA (fb : Nat → Nat) (c : VChg) : Array Value := #[strV c.name, fiO fb c.f, strV c.gone]
def rchV (fb : Nat → Nat) (c : VChg) : Value := .agg #[strV c.name, fiO fb c.f, strV c.gone]
theorem rchC_length (fb : Nat → Nat) (c : VChg) : (rchC fb c).length = 3 := rfl
set_option maxRecDepth 100000 in
theorem loadK_rch {w : World} {b o i : Nat} {fb : Nat → Nat} {c : VChg} (h : ∀ j, j < 3 → w.cell? ⟨b, o + (i * 3 + j), none⟩ = (rchC fb c)[j]?) : (loadK 99 ⟨b, o + i * 3, none⟩).run Try.prog w = .ok (rchV fb c) w := by
  have hl := run_loadCells_list (P := Try.prog) w ⟨b, o + i * 3, none⟩ (rchC fb c) (fun j v hv => by
    have hj : j < 3 := by have := (List.getElem?_eq_some_iff.1 hv).1; rwa [rchC_length] at this
    rw [Addr.add_lit, Nat.add_assoc, h j hj, hv])
  have hi : (Try.prog.info? 99).map (·.size) = some (rchC fb c).length := by rfl
  cases hq : Try.prog.info? 99 with
  | none => simp [hq] at hi
  | some i0 =>
    have hs : i0.size = (rchC fb c).length := by simpa [hq] using hi
    have hagg : (isAgg 99).run Try.prog w = .ok true w := by
      unfold isAgg
      rw [Sem.run_bind, run_underlying Try.underlying99 w]
      rfl
    show (loadVar _ _).run _ _ = _
    simp [loadVar, Sem.run_bind, hagg, sizeOf, typeInfo, hq, hs, hl]
    rfl
section
variable {base F : Nat} {w w' : World} {K K' : Nat → Prop} {S : VSt} {m : RMem}
/-- The changes' slice, and a change in it. -/
theorem Rf.chgAt (h : Rf base w K F S m) {k : Nat} (hk : k < S.chg.length) : ∃ g cap, m.cv = .slice (some ⟨g, 0, none⟩) S.chg.length cap ∧ K g ∧ S.chg.length ≤ cap ∧ ∀ W, FrK w W K' → ¬K' g → (loadK 99 ⟨g, k * 3, none⟩).run Try.prog W = .ok (rchV m.fb S.chg[k]) W := by
  obtain ⟨g, cap, hv, hg0, hglt⟩ := h.chg.form (by omega)
  obtain ⟨A, c, hv2, hcc, -⟩ := own_form h.chg
  rw [hv] at hv2
  cases hv2
  refine ⟨g, cap, hv, h.kC g (by rw [hv]; rfl), hcc, fun W hW hn => ?_⟩
  have hr := Rd.of_own (hv ▸ h.chg)
  have hr2 := Rd.frK hr hW (fun a ha => by cases ha; exact hn) (Nat.le_refl _)
  obtain ⟨b, o, e, -, hc⟩ := flatR_at (rchC_length m.fb) (by omega) hr2 (List.getElem?_eq_getElem hk)
  cases e
  have h1 := loadK_rch hc
  rwa [Nat.zero_add] at h1
end
theorem mgPut_end {κ ν : Type} [DecidableEq κ] {L D : List (κ × ν)} {k : κ} {v : ν} (hL : (L.map (·.1)).Nodup) (hm : (k, v) ∈ L) (hn : (k, v) ∉ D) (hs : ∀ p ∈ D, p ∈ L) : mgPut k v D = D ++ [(k, v)] := by
  refine mgPut_new fun hk => ?_
  obtain ⟨⟨k', v'⟩, hp, e⟩ := List.mem_map.1 hk
  have := inj_of_nodup hL (hs _ hp) hm e
  rw [this] at hp
  exact hn hp
end Go.Proofs.Ytdjmmdhjjdnbdaa
