/- Texts of the proof of VfsNilSaid, joined: Clone VgG VgH VgI VgJ SrT Round Open0. -/
import Derived.Test.YtdjmmdhjjdnbdaaJVfsNil5
import Derived.Shelf.SlMaps.Clone
import Derived.Test.YtdjmmdhjjdnbdaaJVfsNil1
import Derived.Shelf.SortM.Plain
import Derived.StillTailTactics
import Derived.RangeFuncNested
import Derived.RangeFuncCalls
import Derived.TacticsInMore
import Derived.Test.YtdjmmdhjjdnbdaaRows
import Derived.ProofKit
import Derived.OpenShut
import Derived.ShutString
import Derived.ChangeOld
/- The contract of bytes.Clone. -/
namespace Go.Proofs.Ytdjmmdhjjdnbdaa
open Go.RowKit

set_option maxHeartbeats 400000 in
/-- bytes.Clone: nil of nil; else the same bytes in a row that the call has made. -/
theorem bytesClone {A : Option Addr} {c B n : Nat} {xs : List Int} (w : World) (ha : Rb w B A xs) (hB : B ≤ w.heap.size) (hx : xs.length ≤ 140737488351232) (hc : A = none → xs = [] ∧ c = 0) (hn : xs.length = n) :
    Calls Try.prog 49 #[.slice A n c] w (RetNew 5 1 w n (bv xs) (fun A' => A' = none → A = none)) := by
  subst hn
  cases A with
  | none =>
    obtain ⟨rfl, rfl⟩ := hc rfl
    go_enter Try.func49, Try.ntmps49
    go_wp2
    go_ret
    exact ⟨none, 0, rfl, App.refl (World.ownsRow_nil _ _ _ _), by simp⟩
  | some a =>
    go_enter Try.func49, Try.ntmps49
    go_wp2_with (at_builtin; go_loud (refine wpList_appb _ rfl (.tmp 5) (.tmp 6) rfl w.heap.size _ 0 [] rfl (World.ownsRow_lit w #[] 0 (Nat.le_refl _) (by simp [maxLen]) rfl) B _ xs.length c xs rfl rfl (ha.alloc hB _) (by omega) (by simp) ?_))
    intro A' c' w' happ hne
    go_wp2
    go_ret
    exact ⟨A', c', rfl, happ.fresh1, fun h => absurd h hne⟩
end Go.Proofs.Ytdjmmdhjjdnbdaa

/- Layer 4: Read: what it does with a file. -/
namespace Go.Proofs.Ytdjmmdhjjdnbdaa
open Go.RowKit

set_option maxRecDepth 100000 in
theorem run_slRd (w : World) (a : Option Addr) (n c : Nat) (l r : Int) (h0 : 0 ≤ l) (h1 : l ≤ r) (h2 : r ≤ c) :
    (Instr.slice 24 (.slice a n c) (some (.int .i64 l)) (some (.int .i64 r)) none).run Try.prog w = .ok (.slice (offA a c l.toNat) (r.toNat - l.toNat) (c - l.toNat)) w := by
  have h := run_slice_lh (P := Try.prog) w 24 a n c Try.underlying24 .i64 .i64 l r h0 h1 h2
  rw [h]
  have hs : (sizeOf (Try.prog.elem 24)).run Try.prog w = .ok 1 w := by kernel_rfl
  rw [hs]
  simp [Result.andThen, sliced, offA]
/-- What a Read's closure leaves in the box. -/
def RdPost (w : World) (bO : Nat) (zs : List Int) (e : Ending) (w' : World) : Prop := e = .returned (.int .i64 0) ∧ FrK w w' (Kis bO) ∧
  ∃ A c, Bk w' bO 24 #[.slice A zs.length c] ∧ Rb w' w'.heap.size A zs ∧ ∀ a, A = some a → w.heap.size ≤ a.block
theorem take_min {α : Type} {l : List α} {n d : Nat} (h : l.length = d) : l.take (min n d) = l.take n := by
  subst h
  rcases Nat.le_total n l.length with h | h
  · rw [Nat.min_eq_left h]
  · rw [Nat.min_eq_right h, List.take_length, List.take_of_length_le h]
set_option maxRecDepth 100000 in
set_option maxHeartbeats 2000000 in
theorem vfRead1 {base F i bA bN bO k n : Nat} {w : World} {K : Nat → Prop} {S : VSt} {m : VMem} {x : VFile} (h : Vf base w K F S m) (hx : S.fs[i]? = some x) (hxl : x.b.length ≤ 1000000000)
    (hA : Bk w bA 3 #[.int .i64 (k : Nat)]) (hN : Bk w bN 3 #[.int .i64 (n : Nat)]) (hO : Bk w bO 24 #[.slice none 0 0]) (hkO : ¬K bO) :
    Calls Try.prog 48 #[ptV (m.fb i), ptV bA, ptV bN, ptV bO] w (RdPost w bO (VSt.readAt x.b k n)) := by
  have hfi := h.file i x hx
  obtain ⟨Ai, ci, hvi, hnc, hn0⟩ := own_form (h.row i x hx)
  have k0 : w.cell? ⟨m.fb i, 0, none⟩ = some (.slice Ai x.b.length ci) := by rw [hfi.cell 0, ← hvi]; rfl
  have k1 : w.cell? ⟨bA, 0, none⟩ = some (.int .i64 (k : Nat)) := by rw [hA.cell 0]; rfl
  have k2 : w.cell? ⟨bN, 0, none⟩ = some (.int .i64 (n : Nat)) := by rw [hN.cell 0]; rfl
  generalize hL : x.b.length = L at k0 hxl hnc hn0
  have HN0 := Lib.hid hn0
  have HO := Lib.hid hO
  clear hn0 hO hkO
  have HL := Lib.hid hL
  have H := Lib.hid h
  have HX := Lib.hid hx
  have HVI := Lib.hid hvi
  clear hL h hx hvi hfi hA hN
  have hrow := H.out.row i x HX.out
  have hcln : ∀ (f cnt : Nat), f + cnt ≤ L → VSt.readAt x.b k n = (x.b.drop f).take cnt → ∀ W1 q, w.drewN q = W1 →
      Calls Try.prog 49 #[.slice (offA Ai ci f) cnt (ci - f)] W1.drew (RetNew 5 1 W1.drew cnt (bv (VSt.readAt x.b k n)) (fun A' => A' = none → offA Ai ci f = none)) := fun f cnt hfc he W1 q hW => by
    subst hW
    have hL := HL.out
    rw [he]
    have hlen : ((x.b.drop f).take cnt).length = cnt := by rw [List.length_take, List.length_drop]; omega
    have hrd : Rb (w.drewN q).drew w.heap.size Ai x.b := by
      have h1 := H.out.row i x HX.out
      rw [HVI.out] at h1
      exact ((Rd.of_own h1).drewN q).drew
    refine bytesClone (xs := (x.b.drop f).take cnt) _ (Rb.take (Rb.drop hrd (by omega)) cnt) (Nat.le_refl _) (by omega) (fun e => ?_) hlen
    have hA : Ai = none := by
      unfold offA at e
      split at e
      · exact e
      · cases Ai with
        | none => rfl
        | some a => cases e
    have h0 := HN0.out hA
    rw [List.drop_eq_nil_of_le (by omega)]
    exact ⟨by simp, by omega⟩
  have hfin : ∀ (cnt : Nat) W1 q, w.drewN q = W1 → (VSt.readAt x.b k n).length = cnt → ∀ A' c' w3, App W1.drew.heap.size 5 1 W1.drew (.slice none 0 0) w3 (.slice A' cnt c') cnt (bv (VSt.readAt x.b k n)) →
      (w3.cell? ⟨bO, 0, none⟩ = some (.slice none 0 0) ∧ w3.frozen? ⟨bO, 0, none⟩ = false) ∧ RdPost w bO (VSt.readAt x.b k n) (.returned (.int .i64 0)) (w3.setCell ⟨bO, 0, none⟩ (.slice A' cnt c')) := fun cnt W1 q hW hc A' c' w3 happ => by
    subst hW
    subst hc
    have hb := happ.below0
    have hbO := (((HO.out.drewN q).drew).below hb (by exact HO.out.lt))
    have hst := FrK.set w3 bO 0 (.slice A' (VSt.readAt x.b k n).length c')
    refine ⟨⟨by rw [hbO.cell 0]; rfl, hbO.frozen 0⟩, rfl, ?_, A', c', by simpa using hbO.set 0 (.slice A' (VSt.readAt x.b k n).length c'), ?_, fun a ha => (happ.own.lt a.block (by rw [ha]; rfl)).1⟩
    · exact (FrK.of_below (w := w) (w' := w3) ⟨hb.os, hb.tape, hb.output, hb.size, hb.block⟩ (Nat.le_refl _) (Kis bO)).trans hst fun _ _ e => e
    · have h1 := Rd.of_own happ.own
      refine (h1.frK hst (fun a ha e => ?_) (Nat.le_refl _)).more hst.size
      have h2 := happ.own.lt a.block (by rw [ha]; rfl)
      have h3 := HO.out.lt
      simp only [Kis] at e
      have h4 : (w.drewN q).drew.heap.size = w.heap.size := rfl
      omega
  have HCL := Lib.hid hcln
  have HFI := Lib.hid hfin
  have HRL : Hid ((VSt.readAt x.b k n).length = min n (L - k)) := Lib.hid (by rw [VSt.readAt, List.length_take, List.length_drop, HL.out])
  clear hcln hfin hrow
  by_cases hk : L < k
  · go_enter Try.func48, Try.ntmps48
    go_wp2_with fail
    go_quiet (fail)
    go_wp2_with fail
    obtain ⟨W1, hW1⟩ : ∃ W1, w.drewN nq = W1 := ⟨_, rfl⟩
    have j0 : W1.cell? ⟨m.fb i, 0, none⟩ = some (.slice Ai L ci) := by rw [← hW1]; exact k0
    have j2 : W1.cell? ⟨bN, 0, none⟩ = some (.int .i64 (n : Nat)) := by rw [← hW1]; exact k2
    rw [hW1]
    have hC := HCL.out L 0 (by omega) (by rw [VSt.readAt, List.drop_eq_nil_of_le (by have := HL.out; omega), List.drop_eq_nil_of_le (by have := HL.out; omega), List.take_nil, List.take_nil]) W1 nq hW1
    have HF := Lib.hid (HFI.out 0 W1 nq hW1 (by have := HRL.out; omega))
    have hsl : ∀ W, (Instr.slice 24 (.slice Ai L ci) (some (.int .i64 (L : Int))) (some (.int .i64 (L : Int))) none).run Try.prog W = .ok (.slice (offA Ai ci L) 0 (ci - L)) W := fun W => by
      have h := run_slRd W Ai L ci (L : Int) (L : Int) (by omega) (by omega) (by omega)
      rw [show ((L : Int) : Int).toNat - ((L : Int) : Int).toNat = 0 by omega, show ((L : Int) : Int).toNat = L by omega] at h
      exact h
    generalize hOA : offA Ai ci L = AX at hC hsl
    have HOA := Lib.hid hOA
    have HW := Lib.hid hW1
    clear hW1 k0 k1 k2 hOA
    have hw0 : IntKind.i64.wrap (0 : Int) = 0 := rfl
    have hwL : IntKind.i64.wrap (L : Int) = L := IntWalk.i64_in _ ⟨by omega, by omega⟩
    have hif : (if 0 < n then (0 : Int) else (n : Int)) = 0 := by split <;> omega
    go_still_tail 17, (by kernel_rfl)
    change wpList _ _ _ _ _ W1.drew
    go_wp2_with fail
    refine hC.mono ?_
    rintro e w3 ⟨A', c', rfl, happ, hnil⟩
    obtain ⟨⟨z1, z2⟩, z3⟩ := HF.out A' c' w3 happ
    have Z3 := Lib.hid z3
    clear z3 happ hnil
    go_wp2_with fail
    go_ret
    exact Z3.out
  · obtain ⟨q, hq⟩ : ∃ q, min n (L - k) = q := ⟨_, rfl⟩
    go_enter Try.func48, Try.ntmps48
    go_wp2_with fail
    go_quiet (fail)
    go_wp2_with fail
    obtain ⟨W1, hW1⟩ : ∃ W1, w.drewN nq = W1 := ⟨_, rfl⟩
    have j0 : W1.cell? ⟨m.fb i, 0, none⟩ = some (.slice Ai L ci) := by rw [← hW1]; exact k0
    have j2 : W1.cell? ⟨bN, 0, none⟩ = some (.int .i64 (n : Nat)) := by rw [← hW1]; exact k2
    rw [hW1]
    have hC := HCL.out k q (by omega) (by rw [VSt.readAt, ← hq]; exact (take_min (by rw [List.length_drop, HL.out])).symm) W1 nq hW1
    have HF := Lib.hid (HFI.out q W1 nq hW1 (by have := HRL.out; omega))
    have hsl : ∀ W, (Instr.slice 24 (.slice Ai L ci) (some (.int .i64 (k : Int))) (some (.int .i64 ((k : Int) + (q : Int)))) none).run Try.prog W = .ok (.slice (offA Ai ci k) q (ci - k)) W := fun W => by
      have h := run_slRd W Ai L ci (k : Int) ((k : Int) + (q : Int)) (by omega) (by omega) (by omega)
      rw [show (((k : Int) + (q : Int)) : Int).toNat - ((k : Int) : Int).toNat = q by omega, show ((k : Int) : Int).toNat = k by omega] at h
      exact h
    generalize hOA : offA Ai ci k = AX at hC hsl
    have HOA := Lib.hid hOA
    have HW := Lib.hid hW1
    clear hW1 k0 k1 k2 hOA
    have hw1 : IntKind.i64.wrap ((L : Int) - (k : Int)) = (L : Int) - (k : Int) := IntWalk.i64_in _ ⟨by omega, by omega⟩
    have hw2 : IntKind.i64.wrap ((k : Int) + (q : Int)) = (k : Int) + (q : Int) := IntWalk.i64_in _ ⟨by omega, by omega⟩
    have hif : (if (L : Int) - (k : Int) < (n : Int) then (L : Int) - (k : Int) else (n : Int)) = (q : Int) := by split <;> omega
    have HQ := Lib.hid hq
    clear hq
    go_still_tail 17, (by kernel_rfl)
    change wpList _ _ _ _ _ W1.drew
    go_wp2_with fail
    refine hC.mono ?_
    rintro e w3 ⟨A', c', rfl, happ, hnil⟩
    obtain ⟨⟨z1, z2⟩, z3⟩ := HF.out A' c' w3 happ
    have Z3 := Lib.hid z3
    clear z3 happ hnil
    go_wp2_with fail
    go_ret
    exact Z3.out
end Go.Proofs.Ytdjmmdhjjdnbdaa

/- Layer 4: Read. -/
namespace Go.Proofs.Ytdjmmdhjjdnbdaa
open Go.RowKit

/-- What Read comes to. -/
def VRead (base : Nat) (w : World) (K : Nat → Prop) (F : Nat) (m : VMem) (R : VSt × List Int × Nat) (e : Ending) (w' : World) : Prop :=
  ∃ A c, e = .returned (.tuple #[.slice A R.2.1.length c, .int .i64 (R.2.2 : Nat)]) ∧ Rb w' w'.heap.size A R.2.1 ∧ (∀ a, A = some a → w.heap.size ≤ a.block) ∧ Vf base w' K F R.1 m ∧ FrK w w' (Kis F)
/-- What stands ahead of Read's return. -/
def RdOn (base : Nat) (w : World) (K : Nat → Prop) (F bO : Nat) (m : VMem) (R : VSt × List Int × Nat) (e : Ending) (w' : World) : Prop :=
  e = .returned (.int .i64 (R.2.2 : Nat)) ∧ Vf base w' K F R.1 m ∧ FrK w w' (fun b => b = F ∨ b = bO) ∧ ∃ A c, Bk w' bO 24 #[.slice A R.2.1.length c] ∧ Rb w' w'.heap.size A R.2.1 ∧ ∀ a, A = some a → w.heap.size ≤ a.block
set_option maxRecDepth 100000 in
set_option maxHeartbeats 2000000 in
theorem vfReadOn {base F bA bN bO : Nat} {w : World} {K : Nat → Prop} {S : VSt} {m : VMem} (h : Vf base w K F S m) (hok : S.Ok) (hops : S.ops ≤ 4611686018427387904) (hfb : ∀ x ∈ S.fs, x.b.length ≤ 1000000000)
    (s : ByteArray) (hs : s.size ≤ 9223372036854775806) (a n : Int) (hA : Bk w bA 3 #[.int .i64 a]) (hN : Bk w bN 3 #[.int .i64 n]) (hO : Bk w bO 24 #[.slice none 0 0])
    (kA : bA ≠ F) (kN : bN ≠ F) (kO : bO ≠ F) (hkO : ¬K bO) (r : Bool) (hr : r = (decide (0 ≤ a) && decide (0 ≤ n))) :
    Calls Try.prog 39 #[ptV F, .bool r, .string s, .func (.func 48) #[] #[ptV bA, ptV bN, ptV bO]] w (RdOn base w K F bO m (S.read s a n)) := by
  obtain ⟨hs1, hs2, hs3, hs4, hs5⟩ := strike_same S
  have nul : ∀ {w1 : World} {K1 : Nat → Prop}, FrK w w1 K1 → ¬K1 bO → ∃ A c, Bk w1 bO 24 #[.slice A ([] : List Int).length c] ∧ Rb w1 w1.heap.size A [] ∧ ∀ a, A = some a → w.heap.size ≤ a.block := fun {w1 K1} hf hk => ⟨none, 0, hf.bk hO hk, Rd.nil, fun a e => by cases e⟩
  refine vfOn h hok hops r s hs _ _ (enters_of Try.func48 (by kernel_rfl) rfl) _ (fun hn w1 hv hf => ?_) (fun hn w1 hv hf hne => ?_) (fun hn w1 hv hf he hg => ?_) (fun hn w1 i hv hf he hi => ?_)
  · have e1 : (vName s && decide (0 ≤ a) && decide (0 ≤ n)) = false := by
      rw [hr] at hn
      cases h1 : vName s <;> simp [h1] at hn ⊢
      exact hn
    have hR : S.read s a n = (S, [], 2) := by unfold VSt.read; rw [if_pos e1]
    rw [hR]
    exact ⟨rfl, hv, hf.mono fun _ _ e => e.elim, nul hf fun e => e⟩
  · have e1 : ¬ (vName s && decide (0 ≤ a) && decide (0 ≤ n)) = false := by
      rw [hr] at hn
      cases h1 : vName s <;> simp [h1] at hn ⊢
      exact hn
    have hR : S.read s a n = (S.strike.1, [], S.strike.2) := by unfold VSt.read; rw [if_neg e1, if_pos hne]
    rw [hR]
    exact ⟨rfl, hv, hf.mono fun _ _ e => .inl e, nul hf kO⟩
  · have e1 : ¬ (vName s && decide (0 ≤ a) && decide (0 ≤ n)) = false := by
      rw [hr] at hn
      cases h1 : vName s <;> simp [h1] at hn ⊢
      exact hn
    have hR : S.read s a n = (S.strike.1, [], 6) := by unfold VSt.read; rw [if_neg e1, if_neg (by simp [he]), hg]
    rw [hR]
    exact ⟨rfl, hv, hf.mono fun _ _ e => .inl e, nul hf kO⟩
  · have e0 : (vName s = true ∧ 0 ≤ a) ∧ 0 ≤ n := by
      rw [hr] at hn
      cases h1 : vName s <;> simp [h1] at hn ⊢
      exact hn
    have e1 : ¬ (vName s && decide (0 ≤ a) && decide (0 ≤ n)) = false := by
      rw [e0.1.1, decide_eq_true e0.1.2, decide_eq_true e0.2]
      simp
    obtain ⟨k, rfl⟩ := Int.eq_ofNat_of_zero_le e0.1.2
    obtain ⟨j, rfl⟩ := Int.eq_ofNat_of_zero_le e0.2
    have hil := hok.strike.get_lt hi
    have hx := file_at hil
    have hR : S.read s (k : Int) (j : Int) = (S.strike.1, VSt.readAt (S.strike.1.file i).b k j, 0) := by
      unfold VSt.read
      rw [if_neg e1, if_neg (by simp [he]), hi]
      simp
    rw [hR]
    refine (vfRead1 hv hx (hfb _ (by rw [← hs3]; exact List.mem_of_getElem? hx)) (hf.bk hA kA) (hf.bk hN kN) (hf.bk hO kO) hkO).mono ?_
    rintro e w' ⟨rfl, h1, A, c, h2, h3, h4⟩
    refine ⟨0, rfl, rfl, hv.keep h1 fun b hb e => hkO (by rw [← show b = bO from e]; exact hb), (hf.mono fun _ _ e => .inl e).trans h1 fun b _ e => .inr e, A, c, h2, h3, fun a ha => Nat.le_trans hf.size (h4 a ha)⟩
set_option maxRecDepth 100000 in
set_option maxHeartbeats 2000000 in
theorem vfRead {base F : Nat} {w : World} {K : Nat → Prop} {S : VSt} {m : VMem} (h : Vf base w K F S m) (hok : S.Ok) (hops : S.ops ≤ 4611686018427387904) (hfb : ∀ x ∈ S.fs, x.b.length ≤ 1000000000)
    (s : ByteArray) (hs : s.size ≤ 9223372036854775806) (a n : Int) :
    Calls Try.prog 20 #[ptV F, .string s, .int .i64 a, .int .i64 n] w (VRead base w K F m (S.read s a n)) := by
  have hlo := fun b hb => (h.lo b hb).2
  have hFlt := (h.lo F h.kF).2
  have b1 := Bk.new w 3 #[.int .i64 a]
  have hw1 := (FrK.refl w Kno).alloc (.cells #[.int .i64 a] 3)
  have v1 := h.alloc (.cells #[.int .i64 a] 3)
  obtain ⟨w1, e1⟩ : ∃ w1, w.alloc (.cells #[.int .i64 a] 3) = w1 := ⟨_, rfl⟩
  rw [e1] at b1 hw1 v1
  have s1 : w1.heap.size = w.heap.size + 1 := by rw [← e1]; simp
  have b2 := Bk.new w1 3 #[.int .i64 n]
  have b12 := b1.alloc (.cells #[.int .i64 n] 3)
  have hw2 := hw1.alloc (.cells #[.int .i64 n] 3)
  have v2 := v1.alloc (.cells #[.int .i64 n] 3)
  obtain ⟨w2, e2⟩ : ∃ w2, w1.alloc (.cells #[.int .i64 n] 3) = w2 := ⟨_, rfl⟩
  rw [e2] at b2 b12 hw2 v2
  have s2 : w2.heap.size = w1.heap.size + 1 := by rw [← e2]; simp
  have b3 := Bk.new w2 24 #[.slice none 0 0]
  have b13 := b12.alloc (.cells #[.slice none 0 0] 24)
  have b23 := b2.alloc (.cells #[.slice none 0 0] 24)
  have hw3 := hw2.alloc (.cells #[.slice none 0 0] 24)
  have v3 := v2.alloc (.cells #[.slice none 0 0] 24)
  obtain ⟨w3, e3⟩ : ∃ w3, w2.alloc (.cells #[.slice none 0 0] 24) = w3 := ⟨_, rfl⟩
  rw [e3] at b3 b13 b23 hw3 v3
  have c1 : w3.cell? ⟨w.heap.size, 0, none⟩ = some (.int .i64 a) := by rw [b13.cell 0]; rfl
  have c2 : w3.cell? ⟨w1.heap.size, 0, none⟩ = some (.int .i64 n) := by rw [b23.cell 0]; rfl
  rw [s1] at c2
  obtain ⟨r, hr⟩ : ∃ r, (decide (0 ≤ a) && decide (0 ≤ n)) = r := ⟨_, rfl⟩
  have C := vfReadOn v3 hok hops hfb s hs a n b13 b23 b3 (by omega) (by omega) (by omega) (fun e => by have := hlo _ e; omega) r hr.symm
  generalize hR : S.read s a n = R at C ⊢
  have post : ∀ e w', RdOn base w3 K F w2.heap.size m R e w' → e = .returned (.int .i64 (R.2.2 : Nat)) ∧ ∃ A c, w'.cell? ⟨w2.heap.size, 0, none⟩ = some (.slice A R.2.1.length c) ∧ VRead base w K F m R (.returned (.tuple #[.slice A R.2.1.length c, .int .i64 (R.2.2 : Nat)])) w' := by
    rintro e w' ⟨rfl, h1, h2, A, c, h3, h4, h5⟩
    refine ⟨rfl, A, c, by rw [h3.cell 0]; rfl, A, c, rfl, h4, fun x hx => Nat.le_trans hw3.size (h5 x hx), h1, (hw3.mono fun _ _ e => e.elim).trans h2 fun b hb e => ?_⟩
    rcases e with e | e
    · exact e
    · omega
  rw [s2, s1] at C post
  have C' := C.mono post
  have HC := Lib.hid C'
  have E1 := Lib.hid e1
  have E2 := Lib.hid e2
  have E3 := Lib.hid e3
  have HR := Lib.hid hr
  clear hR h hok hfb b1 b2 b12 b3 b13 b23 hw1 hw2 hw3 v1 v2 v3 e1 e2 e3 s1 s2 hlo C post C' hr hs
  have hmf : ∀ (fn : Fn) (first cap : Array Value) (w : World), (Instr.makeFunc fn first cap).run Try.prog w = .ok (.func fn first cap) w := fun _ _ _ _ => rfl
  by_cases ha : 0 ≤ a
  · have ha' : decide (0 ≤ a) = true := decide_eq_true ha
    by_cases hn : 0 ≤ n
    · have hn' : decide (0 ≤ n) = true := decide_eq_true hn
      have hrr : r = true := by rw [← HR.out, ha', hn']; rfl
      subst hrr
      go_enter Try.func20, Try.ntmps20
      go_wp2_with fail
      rw [E1.out, E2.out, E3.out]
      refine HC.out.mono ?_
      rintro e w' ⟨rfl, A, c, hc, hp⟩
      have HP := Lib.hid hp
      clear hp
      go_wp2_with fail
      go_ret2
      exact HP.out
    · have hn' : decide (0 ≤ n) = false := decide_eq_false hn
      have hrr : r = false := by rw [← HR.out, hn', Bool.and_false]
      subst hrr
      go_enter Try.func20, Try.ntmps20
      go_wp2_with fail
      rw [E1.out, E2.out, E3.out]
      refine HC.out.mono ?_
      rintro e w' ⟨rfl, A, c, hc, hp⟩
      have HP := Lib.hid hp
      clear hp
      go_wp2_with fail
      go_ret2
      exact HP.out
  · have ha' : decide (0 ≤ a) = false := decide_eq_false ha
    have hrr : r = false := by rw [← HR.out, ha']; rfl
    subst hrr
    go_enter Try.func20, Try.ntmps20
    go_wp2_with fail
    rw [E1.out, E2.out, E3.out]
    refine HC.out.mono ?_
    rintro e w' ⟨rfl, A, c, hc, hp⟩
    have HP := Lib.hid hp
    clear hp
    go_wp2_with fail
    go_ret2
    exact HP.out
end Go.Proofs.Ytdjmmdhjjdnbdaa

/- Layer 4: maps.Clone. -/
namespace Go.Proofs.Ytdjmmdhjjdnbdaa
open Go.RowKit

set_option maxRecDepth 100000 in
set_option maxHeartbeats 1000000 in
theorem vfClone0 (w : World) (b : Nat) {es : Array MapEntry} {c : Nat} (hb : w.heap[b]? = some (.map es c)) :
    Calls Try.prog 43 #[.map (some b)] w fun e w' => e = .returned (.map (some w.heap.size)) ∧ w' = w.alloc (.map es c) := by
  have hq := fun w => run_eql_map_nil_sl (P := Try.prog) w 56 _ _ (some b) Try.underlying56
  have hx : ∀ args w, (callFunc 71 args).run Try.prog w = ((Extern.MapsClone.clone args).run Try.prog w).andThen fun v w' => .ok (.value v) w' := fun args w =>
    run_callFunc_extern Try.func71 (by kernel_rfl) (by kernel_rfl) (by kernel_rfl) (e := Extern.MapsClone.clone) (by kernel_rfl) args w
  have hr := run_maps_clone_sl (P := Try.prog) w 56 hb
  have hta := fun (v : Value) (w : World) => run_typeAssert_map_sl (P := Try.prog) w 56 20 _ _ v Try.underlying56
  go_enter Try.func43, Try.ntmps43
  go_wp2
  go_ret
  exact ⟨rfl, rfl⟩
theorem vfClone {κ ν : Type} {kv : κ → Value} {vv : ν → Value} {w : World} {b : Nat} {L : List (κ × ν)} (h : Mh kv vv w b L) :
    ∃ es c, Mh kv vv (w.alloc (.map es c)) w.heap.size L ∧ ∀ W : World, W.heap[b]? = w.heap[b]? → Calls Try.prog 43 #[.map (some b)] W fun e w' => e = .returned (.map (some W.heap.size)) ∧ w' = W.alloc (.map es c) := by
  obtain ⟨es, c, hb⟩ := h.obj
  exact ⟨es, c, h.copy hb (heap_alloc_new w _), fun W hW => vfClone0 W b (hW.trans hb)⟩
section
variable {base F : Nat} {w w' : World} {K : Nat → Prop} {S : VSt} {m : VMem}
/-- The directory is kept as the synced one. -/
theorem Vf.synced (h : Vf base w K F S m) {sb' : Nat} (hf : FrK w w' (Kis F)) (hb : Bk w' F 59 (fsC { S with syn := S.now, chg := [] } { m with sb := sb', cv := .slice none 0 0, cms := [], Y := m.D }))
    (hM : Mh strV (fiV m.fb) w' sb' m.D) (hs : w.heap.size ≤ sb') :
    Vf base w' (Kn K w.heap.size w'.heap.size) F { S with syn := S.now, chg := [] } { m with sb := sb', cv := .slice none 0 0, cms := [], Y := m.D } := by
  have hmap : ∀ (b : Nat) (es : Array MapEntry) (c : Nat), w.heap[b]? = some (.map es c) → w'.heap[b]? = w.heap[b]? := fun b es c he => hf.block b (Array.getElem?_eq_some_iff.1 he).1 (fun e => by
    rw [show b = F from e, show w.heap[F]? = _ from h.blk] at he
    cases he)
  have hmh : ∀ {κ ν : Type} {kv : κ → Value} {vv : ν → Value} {b : Nat} {L : List (κ × ν)}, Mh kv vv w b L → Mh kv vv w' b L := fun {κ ν kv vv b L} hM => by
    obtain ⟨es, c, he⟩ := hM.obj
    exact hM.of (hmap b es c he)
  have hcell : ∀ {b : Nat} {t : TypeId} {cs : Array Value}, Bk w b t cs → t ≠ 59 → w'.heap[b]? = w.heap[b]? := fun {b t cs} hB h1 => hf.block b hB.lt (ne_of_type hB h.blk h1)
  have hnow : ({ S with syn := S.now, chg := [] } : VSt).now = S.now := by
    unfold VSt.now VSt.dirN
    simp
  have hdl := h.dir.lt
  refine { blk := hb, dir := hmh h.dir, dirP := by rw [hnow]; exact h.dirP, syn := hM, synP := h.dirP, chg := ⟨rfl, .inl ⟨rfl, rfl⟩⟩, maps := (fun j b c h1 h2 => by simp at h1), file := fun j y hy => (hcell (h.file j y hy) (by decide)).trans (h.file j y hy), row := fun j y hy => own_of (h.row j y hy) fun g hg => ?_, inj := h.inj, rinj := h.rinj, ne := by show m.db ≠ sb'; omega, nec := (fun b hb => by cases hb), kF := .inl h.kF, kD := .inl h.kD, kS := .inr ⟨hs, hM.lt⟩, kC := (fun g e => by cases e), kM := (fun b hb => by cases hb), kB := fun j e => .inl (h.kB j e), kR := fun j e g e2 => .inl (h.kR j e g e2), lo := ?_ }
  · obtain ⟨cur, hc⟩ := own_bk (h.row j y hy) hg
    exact hcell hc (by decide)
  · intro b e
    rcases e with e | ⟨h1, h2⟩
    · exact ⟨(h.lo b e).1, Nat.lt_of_lt_of_le (h.lo b e).2 hf.size⟩
    · exact ⟨Nat.le_trans h.baseLe h1, h2⟩
set_option maxRecDepth 100000 in
set_option maxHeartbeats 2000000 in
theorem vfSyncDir1 {bF : Nat} (h : Vf base w K F S m) (hF : Bk w bF 25 #[ptV F]) (hne : bF ≠ F) :
    Calls Try.prog 42 #[ptV bF] w (VPost base w K F ({ S with syn := S.now, chg := [] }, 0)) := by
  have c0 : w.cell? ⟨bF, 0, none⟩ = some (ptV F) := by rw [hF.cell 0]; rfl
  have c2 : w.cell? ⟨F, 2, none⟩ = some (maV m.db) := by rw [h.blk.cell 2]; rfl
  have c3 : w.cell? ⟨F, 3, none⟩ = some (maV m.sb) := by rw [h.blk.cell 3]; rfl
  have c4 : w.cell? ⟨F, 4, none⟩ = some m.cv := by rw [h.blk.cell 4]; rfl
  have f3 := h.blk.frozen 3
  have f4 := h.blk.frozen 4
  obtain ⟨es, c, hM, hC⟩ := vfClone h.dir
  have n0 := World.new_ne w _ c0
  have n2 := World.new_ne w _ c2
  have C := hC w.drew rfl
  have b1 := (h.blk.alloc (.map es c)).drew
  have d0 := ((hF.alloc (.map es c)).drew).cell 0
  have hf1 : FrK w (w.alloc (.map es c)).drew (Kis F) := ((FrK.refl w (Kis F)).alloc (.map es c)).drew
  have hM1 := hM.drew
  obtain ⟨w1, e1⟩ : ∃ w1, (w.alloc (.map es c)).drew = w1 := ⟨_, rfl⟩
  have C' : Calls Try.prog 43 #[maV m.db] w.drew fun e w' => e = .returned (maV w.heap.size) ∧ w' = w1 := C.mono fun e w' he => ⟨he.1, he.2.trans e1⟩
  rw [e1] at b1 d0 hf1 hM1
  have d1 : w1.cell? ⟨bF, 0, none⟩ = some (ptV F) := by rw [d0]; rfl
  have d2 : w1.cell? ⟨F, 2, none⟩ = some (maV m.db) := by rw [b1.cell 2]; rfl
  have d3 : w1.cell? ⟨F, 3, none⟩ = some (maV m.sb) := by rw [b1.cell 3]; rfl
  have d4 : w1.cell? ⟨F, 4, none⟩ = some m.cv := by rw [b1.cell 4]; rfl
  have g3 := b1.frozen 3
  have g4 := b1.frozen 4
  have done : ∀ w', w' = (w1.setCell ⟨F, 3, none⟩ (maV w.heap.size)).setCell ⟨F, 4, none⟩ (.slice none 0 0) → VPost base w K F ({ S with syn := S.now, chg := [] }, 0) (.returned (.int .i64 (0 : Nat))) w' := by
    rintro w' rfl
    have b2 := (b1.set 3 (maV w.heap.size)).set 4 (.slice none 0 0)
    have hf : FrK w ((w1.setCell ⟨F, 3, none⟩ (maV w.heap.size)).setCell ⟨F, 4, none⟩ (.slice none 0 0)) (Kis F) := (hf1.trans (FrK.set _ F 3 _) fun _ _ e => e).trans (FrK.set _ F 4 _) fun _ _ e => e
    have hFl := h.blk.lt
    have hM2 := hM1.of ((FrK.set w1 F 3 (maV w.heap.size)).block w.heap.size hM1.lt (by simp only [Kis]; omega))
    have hM3 := hM2.of ((FrK.set _ F 4 (.slice none 0 0)).block w.heap.size hM2.lt (by simp only [Kis]; omega))
    exact ⟨rfl, _, h.synced hf (by simpa [fsC] using b2) hM3 (Nat.le_refl _), hf.mono fun b _ e => e ▸ h.kF⟩
  have keep : ∀ v u, ((w1.setCell ⟨F, 3, none⟩ v).cell? ⟨bF, 0, none⟩ = some (ptV F) ∧ (w1.setCell ⟨F, 3, none⟩ v).cell? ⟨F, 2, none⟩ = some (maV m.db)) ∧ ((w1.setCell ⟨F, 3, none⟩ v).setCell ⟨F, 4, none⟩ u).cell? ⟨bF, 0, none⟩ = some (ptV F) ∧ ((w1.setCell ⟨F, 3, none⟩ v).setCell ⟨F, 4, none⟩ u).cell? ⟨F, 2, none⟩ = some (maV m.db) := fun v u => by
    have x1 := World.cell?_setCell_other w1 ⟨F, 3, none⟩ ⟨bF, 0, none⟩ v (fun e => hne (by injection e with e1; exact e1.symm))
    have x2 := World.cell?_setCell_other w1 ⟨F, 3, none⟩ ⟨F, 2, none⟩ v (fun e => by injection e with _ e; cases e)
    have x3 := World.cell?_setCell_other (w1.setCell ⟨F, 3, none⟩ v) ⟨F, 4, none⟩ ⟨bF, 0, none⟩ u (fun e => hne (by injection e with e1; exact e1.symm))
    have x4 := World.cell?_setCell_other (w1.setCell ⟨F, 3, none⟩ v) ⟨F, 4, none⟩ ⟨F, 2, none⟩ u (fun e => by injection e with _ e; cases e)
    exact ⟨⟨x1.trans d1, x2.trans d2⟩, x3.trans (x1.trans d1), x4.trans (x2.trans d2)⟩
  have KEEP := Lib.hid keep
  clear keep
  have DONE := Lib.hid done
  have HC := Lib.hid C'
  clear h hF hM hC C C' done b1 hf1 hM1 e1 d0
  go_enter Try.func42, Try.ntmps42
  go_wp2_with fail
  go_region_held3 (fun x => x.cell? ⟨bF, 0, none⟩ = some (ptV F) ∧ x.cell? ⟨F, 2, none⟩ = some (maV m.db)) (first | go_keep | exact (KEEP.out _ (.slice none 0 0)).1 | exact (KEEP.out _ _).2) ((refine HC.out.mono ?_; rintro e w' ⟨rfl, rfl⟩))
  all_goals go_wp2_with fail
  all_goals go_ret
  all_goals exact DONE.out _ rfl
end
end Go.Proofs.Ytdjmmdhjjdnbdaa

/- Layer 4: SyncDir. -/
namespace Go.Proofs.Ytdjmmdhjjdnbdaa
open Go.RowKit

set_option maxRecDepth 100000 in
set_option maxHeartbeats 1000000 in
theorem vfSyncDir {base F : Nat} {w : World} {K : Nat → Prop} {S : VSt} {m : VMem} (h : Vf base w K F S m) (hok : S.Ok) (hops : S.ops ≤ 4611686018427387904) :
    Calls Try.prog 16 #[ptV F] w (VPost base w K F S.syncDir) := by
  have hb := h.baseLe
  have hFlt := (h.lo F h.kF).2
  have b1 := Bk.new w 25 #[ptV F]
  have hw1 := (FrK.refl w Kno).alloc (.cells #[ptV F] 25)
  have v1 := h.alloc (.cells #[ptV F] 25)
  obtain ⟨w1, e1⟩ : ∃ w1, w.alloc (.cells #[ptV F] 25) = w1 := ⟨_, rfl⟩
  rw [e1] at b1 hw1 v1
  have c1 : w1.cell? ⟨w.heap.size, 0, none⟩ = some (ptV F) := by rw [b1.cell 0]; rfl
  have C := vfOpPost (n := 0) (c := 0) (B := 0) (A := none) v1 hok hops [] Rd.nil rfl (by omega) (fun u hu => by cases hu) 42 #[ptV w.heap.size] (enters_of Try.func42 (by kernel_rfl) rfl)
    (fun T => ({ T with syn := T.now, chg := [] }, 0))
    fun _ w2 hv hf ho => vfSyncDir1 hv (hf.bk b1 (by simp only [Kis]; omega)) (by omega)
  generalize hR : (S.op (([] : List ByteArray).all vName) fun T => ({ T with syn := T.now, chg := [] }, 0)) = R at C
  have hR' : S.syncDir = R := hR
  rw [hR']
  have C' : Calls Try.prog 36 #[ptV F, .bool true, .func (.func 42) #[] #[ptV w.heap.size], .slice none 0 0] w1 (VPost base w K F R) := C.mono fun e w' hp => hp.after hw1 (fun _ e => e.elim) hb
  have E1 := Lib.hid e1
  clear hR hR' C h hok b1 hw1 v1 e1
  have hmf : ∀ (fn : Fn) (first cap : Array Value) (w : World), (Instr.makeFunc fn first cap).run Try.prog w = .ok (.func fn first cap) w := fun _ _ _ _ => rfl
  go_enter Try.func16, Try.ntmps16
  go_wp2_with fail
  rw [E1.out]
  refine C'.mono ?_
  rintro e w' ⟨rfl, hQ⟩
  go_wp2_with fail
  go_ret
  exact ⟨rfl, hQ⟩
end Go.Proofs.Ytdjmmdhjjdnbdaa

/- Texts in order, plain. -/
namespace Go.Proofs.Ytdjmmdhjjdnbdaa
open Go.RowKit Go.Sort Go

/-- Is a text below another one? -/
def txLt (s t : ByteArray) : Bool := Op.bytesLess s.toList t.toList
/-- Texts in order. -/
def SortV (l : List ByteArray) : Prop := l.Pairwise fun a b => txLt b a = false
theorem txLt_iff {s t : ByteArray} : txLt s t = decide (s.data.toList < t.data.toList) := by
  rw [txLt, bytesLess_eq, ByteArray.toList_eq, ByteArray.toList_eq]
theorem txLt_irr (s : ByteArray) : txLt s s = false := by
  rw [txLt_iff]
  exact decide_eq_false (List.lt_irrefl _)
theorem txLt_anti {s t : ByteArray} (h : txLt s t = false) (k : txLt t s = false) : s = t := by
  rw [txLt_iff, decide_eq_false_iff_not] at h k
  exact ByteArray.ext (Array.ext' (List.le_antisymm (List.not_lt.1 k) (List.not_lt.1 h)))
theorem txLt_tr {a b c : ByteArray} (h : txLt b a = false) (k : txLt c b = false) : txLt c a = false := by
  rw [txLt_iff, decide_eq_false_iff_not] at h k ⊢
  exact List.not_lt.2 (List.le_trans (List.not_lt.1 h) (List.not_lt.1 k))
theorem SortV.eq {l m : List ByteArray} (hl : SortV l) (hm : SortV m) (h : l.Perm m) : l = m :=
  List.Perm.eq_of_pairwise (le := fun a b => txLt b a = false) (fun a b _ _ h1 h2 => txLt_anti h2 h1) hl hm h
end Go.Proofs.Ytdjmmdhjjdnbdaa

/- A region that draws its order, in a round of a range over a function: all operations but the last few only read, so that one walk in the order of the text serves every order. Over any program; at the wide fence. -/
namespace Go.Proofs.Ytdjmmdhjjdnbdaa
open Go.RowKit

def noDefer (o : Oper) : Bool := match o.op with
  | .defer _ => false
  | _ => true
theorem noDefer_spec {o : Oper} (h : noDefer o = true) : ∀ c, o.op ≠ .defer c := fun c e => by rw [noDefer, e] at h; cases h

theorem wpOps_round {P : Program} {ops : Array Oper} {r m : Nat} (hnd : ∀ (i : Nat) (o : Oper), ops[i]? = some o → noDefer o = true) {Q : Exit → Act → World → Prop} :
    ∀ (is : List Nat) (a : Act) (w : World), wpOps P ops (fun e a w => e = .normal ∧ Q .normal a w) is a w → wpOpsIn (Fence.wide.inRound r) m P ops Q is a w := by
  have hlet : ¬ LetsOut (fun e a w => e = Exit.normal ∧ Q .normal a w) := by
    rintro ⟨a, w, h, _⟩
    cases h
  intro is
  induction is with
  | nil => intro a w h; exact h.2
  | cons i is ih =>
    intro a w h
    unfold wpOps at h
    unfold wpOpsIn
    cases ho : ops[i]? with
    | none => rw [ho] at h; exact ih a w h
    | some o =>
      rw [ho] at h
      simp only at h ⊢
      split
      · rename_i hw
        rw [if_pos hw] at h
        have h := h.resolve_right (fun hh => hlet hh.2)
        refine ⟨fun _ _ => trivial, ?_⟩
        rw [show (Fence.wide.inRound r).round = some r from rfl, Oper.semAt_some r _ o (noDefer_spec (hnd i o ho))]
        unfold Oper.wp at h
        generalize (execOp a.eval o).run P w = res at h ⊢
        cases res with
        | ok x w' =>
          cases x with
          | value v => exact ih _ _ h
          | skip => exact ih _ _ h
          | defer d => exact ih _ _ h
          | enter f args =>
            refine ⟨fun hd => (by cases hd), CallsIn.inRound r (callsIn_wide.2 (Calls.mono h ?_))⟩
            intro e w'' he
            cases e with
            | returned v => exact ih _ _ he
            | panicked chain => cases he.1
            | outgrown => exact absurd he hlet
          | row row args =>
            refine ⟨fun hd => (by cases hd), fun c cs _ => ?_⟩
            obtain ⟨v, w'', h1, h2⟩ := h c cs
            exact ⟨v, w'', ih _ _ h1, stepsIn_wide.2 h2⟩
          | _ => exact absurd h id
        | halt x w' =>
          cases x with
          | panic v => cases h.1
          | _ => exact absurd h id
      · rename_i hw
        rw [if_neg hw] at h
        exact ⟨fun _ _ => trivial, ih _ _ h⟩

theorem wpIn_region_still_round {P : Program} {id r m : Nat} {Q : Exit → Act → World → Prop} {a : Act} {w : World} {l : List Oper} (n : Nat) (hm : P.follows .mixedOrders = true) (hnd : l.all noDefer = true) (hB : Region.lexTailB .any l.toArray n = true)
    (h : wpStill P l.toArray w.drew (fun a' => wpList P l.toArray (fun e a w => e = .normal ∧ Q .normal a w) (l.drop n) a' w.drew) (l.take n) a) : (Code.region id l.toArray true).wpIn (Fence.wide.inRound r) m P Q a w := by
  have hsz : l.toArray.size = l.length := by simp
  unfold Region.lexTailB at hB
  rw [Bool.and_eq_true, Bool.and_eq_true, Bool.and_eq_true, Bool.and_eq_true, decide_eq_true_eq] at hB
  obtain ⟨⟨⟨⟨hsel, hn⟩, hsink⟩, hchain⟩, hlex⟩ := hB
  have hlt : (l.take n).length = n := by rw [List.length_take]; omega
  have hld : (l.drop n).length = l.toArray.size - n := by rw [List.length_drop, hsz]
  have start : HeadInv .any l.toArray n (Array.replicate l.toArray.size false) :=
    { size := by simp
      closed := fun j oj _ hj => by rw [getD_replicate_false] at hj; cases hj
      tail := fun t _ ht => getD_in (by simpa using ht) (getD_replicate_false _ _) }
  have key := wpAnyL_lex (md := .any) (g := l.toArray.size - n) hsel hsink hchain hn (l.take n) 0 _ a
    (fun j hj => by rw [hlt] at hj; rw [List.getElem?_take, if_pos hj]; simp) (by rw [hlt]; omega) start (by rw [hlt]; exact hlex) h
  rw [hlt] at key
  have whole := wpAny_of_head (Q' := fun e a w => e = .normal ∧ Q .normal a w) (g := l.toArray.size - n) (fun listed a' hL => by
    have := wpAny_of_seq (md := .any) (Q' := fun e a w => e = .normal ∧ Q .normal a w) (l.drop n) n listed a' w.drew (fun j => by rw [List.getElem?_drop]; simp) (by rw [hld]; exact hL.1) hL.2
    rwa [hld] at this) _ _ _ key
  rw [show n + (l.toArray.size - n) = l.toArray.size from by omega] at whole
  refine wpIn_region_draw fun t => ?_
  rw [Region.schedule, hm, Bool.true_or, if_pos rfl]
  refine wpOps_round (fun i o ho => ?_) _ _ _ (wpAny_sound _ t _ _ _ whole)
  exact List.all_eq_true.1 hnd o (by
    have : l[i]? = some o := by simpa using ho
    exact List.mem_of_getElem? this)
theorem wpOps_wide {P : Program} {ops : Array Oper} {m : Nat} (hnd : ∀ (i : Nat) (o : Oper), ops[i]? = some o → noDefer o = true) {Q : Exit → Act → World → Prop} :
    ∀ (is : List Nat) (a : Act) (w : World), wpOps P ops (fun e a w => e = .normal ∧ Q .normal a w) is a w → wpOpsIn Fence.wide m P ops Q is a w := by
  have hlet : ¬ LetsOut (fun e a w => e = Exit.normal ∧ Q .normal a w) := by
    rintro ⟨a, w, h, _⟩
    cases h
  intro is
  induction is with
  | nil => intro a w h; exact h.2
  | cons i is ih =>
    intro a w h
    unfold wpOps at h
    unfold wpOpsIn
    cases ho : ops[i]? with
    | none => rw [ho] at h; exact ih a w h
    | some o =>
      rw [ho] at h
      simp only at h ⊢
      split
      · rename_i hw
        rw [if_pos hw] at h
        have h := h.resolve_right (fun hh => hlet hh.2)
        refine ⟨fun _ _ => trivial, ?_⟩
        rw [show Fence.wide.round = none from rfl, Oper.semAt_none]
        unfold Oper.wp at h
        generalize (execOp a.eval o).run P w = res at h ⊢
        cases res with
        | ok x w' =>
          cases x with
          | value v => exact ih _ _ h
          | skip => exact ih _ _ h
          | defer d => exact ih _ _ h
          | enter f args =>
            refine ⟨fun hd => (by cases hd), callsIn_wide.2 (Calls.mono h ?_)⟩
            intro e w'' he
            cases e with
            | returned v => exact ih _ _ he
            | panicked chain => cases he.1
            | outgrown => exact absurd he hlet
          | row row args =>
            refine ⟨fun hd => (by cases hd), fun c cs _ => ?_⟩
            obtain ⟨v, w'', h1, h2⟩ := h c cs
            exact ⟨v, w'', ih _ _ h1, stepsIn_wide.2 h2⟩
          | _ => exact absurd h id
        | halt x w' =>
          cases x with
          | panic v => cases h.1
          | _ => exact absurd h id
      · rename_i hw
        rw [if_neg hw] at h
        exact ⟨fun _ _ => trivial, ih _ _ h⟩

theorem wpIn_region_still_wide {P : Program} {id m : Nat} {Q : Exit → Act → World → Prop} {a : Act} {w : World} {l : List Oper} (n : Nat) (hm : P.follows .mixedOrders = true) (hnd : l.all noDefer = true) (hB : Region.lexTailB .any l.toArray n = true)
    (h : wpStill P l.toArray w.drew (fun a' => wpList P l.toArray (fun e a w => e = .normal ∧ Q .normal a w) (l.drop n) a' w.drew) (l.take n) a) : (Code.region id l.toArray true).wpIn Fence.wide m P Q a w := by
  have hsz : l.toArray.size = l.length := by simp
  unfold Region.lexTailB at hB
  rw [Bool.and_eq_true, Bool.and_eq_true, Bool.and_eq_true, Bool.and_eq_true, decide_eq_true_eq] at hB
  obtain ⟨⟨⟨⟨hsel, hn⟩, hsink⟩, hchain⟩, hlex⟩ := hB
  have hlt : (l.take n).length = n := by rw [List.length_take]; omega
  have hld : (l.drop n).length = l.toArray.size - n := by rw [List.length_drop, hsz]
  have start : HeadInv .any l.toArray n (Array.replicate l.toArray.size false) :=
    { size := by simp
      closed := fun j oj _ hj => by rw [getD_replicate_false] at hj; cases hj
      tail := fun t _ ht => getD_in (by simpa using ht) (getD_replicate_false _ _) }
  have key := wpAnyL_lex (md := .any) (g := l.toArray.size - n) hsel hsink hchain hn (l.take n) 0 _ a
    (fun j hj => by rw [hlt] at hj; rw [List.getElem?_take, if_pos hj]; simp) (by rw [hlt]; omega) start (by rw [hlt]; exact hlex) h
  rw [hlt] at key
  have whole := wpAny_of_head (Q' := fun e a w => e = .normal ∧ Q .normal a w) (g := l.toArray.size - n) (fun listed a' hL => by
    have := wpAny_of_seq (md := .any) (Q' := fun e a w => e = .normal ∧ Q .normal a w) (l.drop n) n listed a' w.drew (fun j => by rw [List.getElem?_drop]; simp) (by rw [hld]; exact hL.1) hL.2
    rwa [hld] at this) _ _ _ key
  rw [show n + (l.toArray.size - n) = l.toArray.size from by omega] at whole
  refine wpIn_region_draw fun t => ?_
  rw [Region.schedule, hm, Bool.true_or, if_pos rfl]
  refine wpOps_wide (fun i o ho => ?_) _ _ _ (wpAny_sound _ t _ _ _ whole)
  exact List.all_eq_true.1 hnd o (by
    have : l[i]? = some o := by simpa using ho
    exact List.mem_of_getElem? this)
end Go.Proofs.Ytdjmmdhjjdnbdaa

/- What comes in: what each statement's row asks. -/
namespace Go.Proofs.Ytdjmmdhjjdnbdaa
open Go.ChangeShapes Go.WideShapes Go.ChangeAt Go.RowKit

theorem ownKnob_none : ownKnob Try.prog.godebug = none := by kernel_rfl
theorem laidOut : laidOutB Try.prog = true := by kernel_rfl

end Go.Proofs.Ytdjmmdhjjdnbdaa
