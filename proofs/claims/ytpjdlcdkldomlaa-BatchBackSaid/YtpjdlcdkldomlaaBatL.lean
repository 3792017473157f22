/- The examples that each statement of layer 6 asks first: 'lives' answers true. -/
import Derived.Laws.IdiomStrings
import Derived.Lib.SmallJoins
import Derived.Test.YtpjdlcdkldomlaaBatU
namespace Go.Proofs.Ytpjdlcdkldomlaa
open Go.RowKit

/-- What put hands back: a write of its own bytes. -/
def PutPost (w : World) (k v : ByteArray) (e : Ending) (w' : World) : Prop := ∃ A1 c1 A2 c2, e = .returned (.agg #[.int .i64 1, .slice A1 k.size c1, .slice A2 v.size c2]) ∧ Below w.heap.size w w' ∧ Rb w' w'.heap.size A1 (nums k) ∧ Rb w' w'.heap.size A2 (nums v) ∧ k.size ≤ c1 ∧ v.size ≤ c2 ∧ A1 ≠ none ∧ A2 ≠ none
/-- '[]byte(s)': what it hands back and lays, behind letters. -/
theorem conv_str : ∃ (cp : World → ByteArray → Nat) (ce : World → ByteArray → Array Value) (fa : World → ByteArray → Nat × Nat),
    (∀ (s : ByteArray) (W : World), (convert 9 22 (.string s)).run Try.prog W = .ok (.slice (some ⟨W.heap.size, 0, none⟩) s.size (cp W s)) (W.drew.alloc (.cells (ce W s) 5 (fa W s)))) ∧
    (∀ (s : ByteArray) (W : World), s.size ≤ cp W s ∧ ∀ (j : Nat) (u : Value), (bv (nums s))[j]? = some u → (ce W s)[j]? = some u) := by
  refine ⟨fun W s => grownCap W s.size 0 5, fun W s => bytesRow s (grownCap W s.size 0 5), fun W s => ((bytesRow s (grownCap W s.size 0 5)).size, (bytesRow s (grownCap W s.size 0 5)).size + 1),
    fun s W => run_bytes_of_string W _ _ _ s Try.underlying9 Try.underlying22 Try.underlying5, fun s W => ⟨?_, fun j u hu => ?_⟩⟩
  · exact grownCap_ge W s.size 0 5
  · have hj : j < (nums s).length := by
      have := (List.getElem?_eq_some_iff.1 hu).1
      simpa [bv] using this
    rw [nums_len] at hj
    have h1 : (bytesRow s (grownCap W s.size 0 5))[j]? = (s.data.map (fun b => Value.int .u8 b.toNat))[j]? := by
      unfold bytesRow
      rw [Array.getElem?_append_left (by simpa using hj)]
    rw [h1, ← hu]
    simp [bv, nums]
    rfl
theorem Rd.of_alloc {w : World} {cs : Array Value} {t : TypeId} {fr : Nat × Nat} {xs : List Value} (h : ∀ (j : Nat) (u : Value), xs[j]? = some u → cs[j]? = some u) : Rd (w.alloc (.cells cs t fr)) (w.heap.size + 1) (some ⟨w.heap.size, 0, none⟩) xs := fun _ =>
  ⟨w.heap.size, 0, rfl, by omega, fun j u hu => by rw [Nat.zero_add, World.cell?_alloc_mark]; exact h j u hu⟩

set_option maxRecDepth 100000 in
theorem lawPut (k v : ByteArray) (w : World) (hk : k.size ≤ 1000) (hv : v.size ≤ 1000) :
    Calls Try.prog 13 #[.string k, .string v] w (PutPost w k v) := by
  obtain ⟨cp, ce, fa, hcv, hce⟩ := conv_str
  have HCE := Lib.hid hce
  clear hce
  go_enter Try.func13, Try.ntmps13
  go_wp2
  obtain ⟨ca, hca⟩ : ∃ ca, cp (w.alloc (.cells #[.int .i64 0, .slice none 0 0, .slice none 0 0] 31)) k = ca := ⟨_, rfl⟩
  have hca' := (HCE.out k (w.alloc (.cells #[.int .i64 0, .slice none 0 0, .slice none 0 0] 31))).1
  obtain ⟨D1, hD1⟩ : ∃ D1, ce (w.alloc (.cells #[.int .i64 0, .slice none 0 0, .slice none 0 0] 31)) k = D1 := ⟨_, rfl⟩
  have hD1' := (HCE.out k (w.alloc (.cells #[.int .i64 0, .slice none 0 0, .slice none 0 0] 31))).2
  obtain ⟨F1, hF1⟩ : ∃ F1, fa (w.alloc (.cells #[.int .i64 0, .slice none 0 0, .slice none 0 0] 31)) k = F1 := ⟨_, rfl⟩
  rw [hca] at hca' ⊢
  rw [hD1] at hD1' ⊢
  rw [hF1]
  clear hca hD1 hF1
  obtain ⟨V, hV⟩ : ∃ V, ((w.alloc (.cells #[.int .i64 0, .slice none 0 0, .slice none 0 0] 31)).alloc (.cells D1 5 F1)).drew = V := ⟨_, rfl⟩
  have hcb := (HCE.out v V).1
  have hD2 := (HCE.out v V).2
  rw [hV]
  clear hV
  obtain ⟨cb, hcb'⟩ : ∃ cb, cp V v = cb := ⟨_, rfl⟩
  obtain ⟨D2, hD2'⟩ : ∃ D2, ce V v = D2 := ⟨_, rfl⟩
  obtain ⟨F2, hF2'⟩ : ∃ F2, fa V v = F2 := ⟨_, rfl⟩
  rw [hcb'] at hcb ⊢
  rw [hD2'] at hD2 ⊢
  rw [hF2']
  clear hcb' hD2' hF2'
  try simp only [Exit.inBlock, Exit.then]
  refine bodyPost_ret (results_cell_row rfl _ _ w.heap.size 31 #[.int .i64 1, .slice (some ⟨w.heap.size + 1, 0, none⟩) k.size ca, .slice (some ⟨w.heap.size + 1 + 1, 0, none⟩) v.size cb] (0, 0) _ rfl ?_ Try.underlying31 rfl ?_) rfl ?_
  · show (((w.alloc _).alloc _).alloc _).heap[w.heap.size]? = _
    rw [heap_alloc_old _ _ (h := by simp; omega), heap_alloc_old _ _ (h := by simp), heap_alloc_new]
  · rfl
  · refine ⟨_, _, _, _, rfl, ?_, ?_, ?_, hca', hcb, by simp, by simp⟩
    · exact ((((Below.refl _ w).alloc (Nat.le_refl _) _).alloc (by simp) _).alloc (by simp; omega) _).drew.drew
    · have h1 : Rd ((w.alloc (.cells #[.int .i64 1, .slice (some ⟨w.heap.size + 1, 0, none⟩) k.size ca, .slice (some ⟨w.heap.size + 1 + 1, 0, none⟩) v.size cb] 31)).alloc (.cells D1 5 F1)) (w.heap.size + 1 + 1) (some ⟨w.heap.size + 1, 0, none⟩) (bv (nums k)) := by
        have := Rd.of_alloc (w := w.alloc (.cells #[.int .i64 1, .slice (some ⟨w.heap.size + 1, 0, none⟩) k.size ca, .slice (some ⟨w.heap.size + 1 + 1, 0, none⟩) v.size cb] 31)) (cs := D1) (t := 5) (fr := F1) hD1'
        simpa using this
      exact (h1.alloc (by simp) _).drew.drew.more (by simp)
    · have h2 := Rd.of_alloc (w := ((w.alloc (.cells #[.int .i64 1, .slice (some ⟨w.heap.size + 1, 0, none⟩) k.size ca, .slice (some ⟨w.heap.size + 1 + 1, 0, none⟩) v.size cb] 31)).alloc (.cells D1 5 F1))) (cs := D2) (t := 5) (fr := F2) hD2
      simp only [World.size_alloc] at h2
      exact h2.drew.drew.more (by simp)

def PutQ (w : World) (n m : Nat) (xs ys : List Int) (e : Ending) (w' : World) : Prop := ∃ A1 c1 A2 c2, e = .returned (.agg #[.int .i64 1, .slice A1 n c1, .slice A2 m c2]) ∧ Below w.heap.size w w' ∧ Rb w' w'.heap.size A1 xs ∧ Rb w' w'.heap.size A2 ys ∧ n ≤ c1 ∧ m ≤ c2 ∧ A1 ≠ none ∧ A2 ≠ none
theorem lawPutN (k v : ByteArray) (n m : Nat) (xs ys : List Int) (w : World) (hk : nums k = xs) (hv : nums v = ys) (hn : xs.length = n) (hm : ys.length = m) (hn' : n ≤ 1000) (hm' : m ≤ 1000) :
    Calls Try.prog 13 #[.string k, .string v] w (PutQ w n m xs ys) := by
  subst hk hv
  rw [nums_len] at hn hm
  subst hn hm
  exact (lawPut k v w hn' hm').mono fun e w' h => h
/-- Two writes that lie in one block. -/
theorem RbW.two {w : World} {B : Nat} {A A1 A2 A3 A4 : Option Addr} {n1 n2 n3 n4 c1 c2 c3 c4 : Nat} {x0 x1 : Wr} (h : Rd w B A [.int .i64 x0.kind, .slice A1 n1 c1, .slice A2 n2 c2, .int .i64 x1.kind, .slice A3 n3 c3, .slice A4 n4 c4])
    (e1 : x0.key.length = n1) (e2 : x0.val.length = n2) (e3 : x1.key.length = n3) (e4 : x1.val.length = n4) (l1 : n1 ≤ c1) (l2 : n2 ≤ c2) (l3 : n3 ≤ c3) (l4 : n4 ≤ c4)
    (r1 : Rb w B A1 x0.key) (r2 : Rb w B A2 x0.val) (r3 : Rb w B A3 x1.key) (r4 : Rb w B A4 x1.val) (z1 : A1 = none → c1 = 0) (z2 : A2 = none → c2 = 0) (z3 : A3 = none → c3 = 0) (z4 : A4 = none → c4 = 0) : RbW w B A [x0, x1] :=
  ⟨_, h, fun i x hi => by
    subst e1 e2 e3 e4
    match i, hi with
    | 0, hi => cases hi; exact ⟨A1, c1, A2, c2, rfl, rfl, rfl, l1, r1, l2, r2, z1, z2⟩
    | 1, hi => cases hi; exact ⟨A3, c3, A4, c4, rfl, rfl, rfl, l3, r3, l4, r4, z3, z4⟩
    | i + 2, hi => cases hi⟩
theorem chkA : batChk 7 [⟨1, [97], [120]⟩, ⟨2, [98], []⟩] = 0 := by decide +kernel
theorem encA : batEnc 7 [⟨1, [97], [120]⟩, ⟨2, [98], []⟩] = [7, 2, 1, 1, 97, 1, 120, 2, 1, 98] := by decide +kernel
theorem chkB : batChk 1 [⟨1, [97], [49]⟩, ⟨1, [97], [50]⟩] = 0 := by decide +kernel
theorem chkC : batChk 1 [] = 2 := by decide +kernel
theorem Rd.litm {w : World} {cs : Array Value} {t : TypeId} {fr : Nat × Nat} {g : Nat} (hg : w.heap.size = g) : Rd (w.alloc (.cells cs t fr)) (g + 1) (some ⟨g, 0, none⟩) cs.toList := fun _ => by
  subst hg
  exact ⟨w.heap.size, 0, rfl, by omega, fun j u hu => by
    rw [Nat.zero_add, World.cell?_alloc_mark]
    simpa using hu⟩
theorem conv_const (w : World) (C : Array Value) (n c g : Nat) (hg : g = w.heap.size) :
    (convert 22 22 (.slice (some ⟨g, 0, none⟩) n c)).run Try.prog (w.alloc (.cells C 5)) = .ok (.slice (some ⟨g, 0, none⟩) n c) (w.alloc (.cells C 5 (C.size, C.size + 1))) := by
  subst hg
  exact Lib.run_convert_bytes_const w _ _ C n c Try.underlying22 Try.underlying5

set_option maxHeartbeats 4000000 in
set_option maxRecDepth 100000 in
theorem lives_true (w : World) : Calls Try.prog 6 #[] w fun e w' => e = .returned (.bool true) ∧ Below w.heap.size w w' := by
  go_enter Try.func6, Try.ntmps6
  go_wp2_with fail
  refine (lawPutN ⟨#[97]⟩ ⟨#[120]⟩ 1 1 [97] [120] w rfl rfl rfl rfl (by omega) (by omega)).mono ?_
  rintro e w1 ⟨A1, c1, A2, c2, rfl, hb1, r1, r2, l1, l2, k1, k2⟩
  have cv1 := conv_const w1 #[.int .u8 98] 1 1 w1.heap.size rfl
  simp only [List.size_toArray, List.length_cons, List.length_nil, Nat.reduceAdd] at cv1
  go_wp2_with fail
  have rw1 : RbW ((w1.alloc (.cells #[.int .u8 98] 5 (1, 2))).alloc (.cells #[.int .i64 1, .slice A1 1 c1, .slice A2 1 c2, .int .i64 2, .slice (some ⟨w1.heap.size, 0, none⟩) 1 1, .slice none 0 0] 31)) (w1.heap.size + 2) (some ⟨w1.heap.size + 1, 0, none⟩) [⟨1, [97], [120]⟩, ⟨2, [98], []⟩] :=
    RbW.two (Rd.lit' (w := w1.alloc (.cells #[.int .u8 98] 5 (1, 2))) (cs := #[.int .i64 1, .slice A1 1 c1, .slice A2 1 c2, .int .i64 2, .slice (some ⟨w1.heap.size, 0, none⟩) 1 1, .slice none 0 0]) (t := 31) (g := w1.heap.size + 1) (by simp))
      rfl rfl rfl rfl l1 l2 (Nat.le_refl _) (Nat.le_refl _) (((r1.alloc (Nat.le_refl _) _).alloc (by simp) _).more (by omega)) (((r2.alloc (Nat.le_refl _) _).alloc (by simp) _).more (by omega))
      (((Rd.litm (w := w1) (cs := #[.int .u8 98]) (t := 5) rfl).alloc (by simp) _).more (by omega)) Rd.nil (fun h => absurd h k1) (fun h => absurd h k2) (fun h => by cases h) (fun _ => rfl)
  have hb2 := (hb1.alloc hb1.size (.cells #[.int .u8 98] 5 (1, 2))).alloc (by simp; have := hb1.size; omega) (.cells #[.int .i64 1, .slice A1 1 c1, .slice A2 1 c2, .int .i64 2, .slice (some ⟨w1.heap.size, 0, none⟩) 1 1, .slice none 0 0] 31)
  have hsW : ((w1.alloc (.cells #[.int .u8 98] 5 (1, 2))).alloc (.cells #[.int .i64 1, .slice A1 1 c1, .slice A2 1 c2, .int .i64 2, .slice (some ⟨w1.heap.size, 0, none⟩) 1 1, .slice none 0 0] 31)).heap.size = w1.heap.size + 2 := by simp
  obtain ⟨W1, hW1⟩ : ∃ W1, ((w1.alloc (.cells #[.int .u8 98] 5 (1, 2))).alloc (.cells #[.int .i64 1, .slice A1 1 c1, .slice A2 1 c2, .int .i64 2, .slice (some ⟨w1.heap.size, 0, none⟩) 1 1, .slice none 0 0] 31)) = W1 := ⟨_, rfl⟩
  rw [hW1] at rw1 hb2 hsW ⊢
  clear hW1 cv1
  have hA := batAppend (seq := 7) (cw := 2) (nw := 2) W1 rw1 (by simp [BytW, Byt]) rfl (by omega) (by omega) (by omega)
  rw [chkA, encA] at hA
  refine hA.mono ?_
  rintro e w3 ⟨A', c', rfl, hr3, hb3, hc3, -, -⟩
  simp only [bv, List.length_map, List.length_cons, List.length_nil, Nat.reduceAdd, ne_eq, not_true_eq_false, if_false] at hr3 hc3 ⊢
  have hb4 := hb2.trans (hb3.mono hb2.size)
  clear hb1 hb2 hb3 r1 r2 l1 l2 k1 k2 rw1 hA
  go_wp2_with fail
  refine (lawPutN ⟨#[97]⟩ ⟨#[49]⟩ 1 1 [97] [49] w3 rfl rfl rfl rfl (by omega) (by omega)).mono ?_
  rintro e w5 ⟨A3, c3, A4, c4, rfl, hb5, r3, r4, l3, l4, k3, k4⟩
  go_wp2_with fail
  refine (lawPutN ⟨#[97]⟩ ⟨#[50]⟩ 1 1 [97] [50] w5 rfl rfl rfl rfl (by omega) (by omega)).mono ?_
  rintro e w6 ⟨A5, c5, A6, c6, rfl, hb6, r5, r6, l5, l6, k5, k6⟩
  go_wp2_with fail
  have rw2 : RbW (w6.alloc (.cells #[.int .i64 1, .slice A3 1 c3, .slice A4 1 c4, .int .i64 1, .slice A5 1 c5, .slice A6 1 c6] 31)) (w6.heap.size + 1) (some ⟨w6.heap.size, 0, none⟩) [⟨1, [97], [49]⟩, ⟨1, [97], [50]⟩] :=
    RbW.two (Rd.lit' (w := w6) (cs := #[.int .i64 1, .slice A3 1 c3, .slice A4 1 c4, .int .i64 1, .slice A5 1 c5, .slice A6 1 c6]) (t := 31) (g := w6.heap.size) rfl)
      rfl rfl rfl rfl l3 l4 l5 l6 (((r3.belowS hb6).alloc (Nat.le_refl _) _).more (by omega)) (((r4.belowS hb6).alloc (Nat.le_refl _) _).more (by omega)) ((r5.alloc (Nat.le_refl _) _).more (by omega)) ((r6.alloc (Nat.le_refl _) _).more (by omega))
      (fun h => absurd h k3) (fun h => absurd h k4) (fun h => absurd h k5) (fun h => absurd h k6)
  have hb7 := hb4.trans ((hb5.trans (hb6.mono hb5.size)).mono hb4.size)
  have hb8 := hb7.alloc hb7.size (.cells #[.int .i64 1, .slice A3 1 c3, .slice A4 1 c4, .int .i64 1, .slice A5 1 c5, .slice A6 1 c6] 31)
  have hr6 := ((Rd.belowS hr3 (hb5.trans (hb6.mono hb5.size)))).allocS (.cells #[.int .i64 1, .slice A3 1 c3, .slice A4 1 c4, .int .i64 1, .slice A5 1 c5, .slice A6 1 c6] 31)
  obtain ⟨W6, hW6⟩ : ∃ W6, (w6.alloc (.cells #[.int .i64 1, .slice A3 1 c3, .slice A4 1 c4, .int .i64 1, .slice A5 1 c5, .slice A6 1 c6] 31)) = W6 := ⟨_, rfl⟩
  have hsW : W6.heap.size = w6.heap.size + 1 := by rw [← hW6]; simp
  rw [hW6] at rw2 hb8 hr6 ⊢
  clear hW6 hr3 hb4 hb5 hb6 hb7 r3 r4 r5 r6 l3 l4 l5 l6 k3 k4 k5 k6
  refine (entries2 (cw := 2) (seq := 1) W6 rw2 (by simp [BytW, Byt]) (by omega) (by omega) chkB rfl).mono ?_
  rintro e w8 ⟨g, cg, rfl, hb9, hc1, hc2⟩
  have hr8 := Rd.belowS hr6 hb9
  have hb10 := hb8.trans (hb9.mono hb8.size)
  have hlg : g < w8.heap.size := World.block_lt_of_cell? w8 ⟨g, 1, none⟩ hc1
  clear hb8 hb9 hr6 rw2
  go_wp2_with fail
  have hrl := Rd.lit' (w := w8) (cs := #[.int .u8 7, .int .u8 2, .int .u8 1, .int .u8 1, .int .u8 97, .int .u8 1, .int .u8 120, .int .u8 2, .int .u8 1, .int .u8 98]) (t := 5) (g := w8.heap.size) rfl
  have hc1' : (w8.alloc (.cells #[.int .u8 7, .int .u8 2, .int .u8 1, .int .u8 1, .int .u8 97, .int .u8 1, .int .u8 120, .int .u8 2, .int .u8 1, .int .u8 98] 5)).cell? ⟨g, 1, none⟩ = some (.int .u64 2) := (World.cell?_alloc_lt _ _ _ hlg).trans hc1
  have hc2' : (w8.alloc (.cells #[.int .u8 7, .int .u8 2, .int .u8 1, .int .u8 1, .int .u8 97, .int .u8 1, .int .u8 120, .int .u8 2, .int .u8 1, .int .u8 98] 5)).cell? ⟨g, 5, none⟩ = some (.int .u64 1) := (World.cell?_alloc_lt _ _ _ hlg).trans hc2
  have hb11 := hb10.alloc hb10.size (.cells #[.int .u8 7, .int .u8 2, .int .u8 1, .int .u8 1, .int .u8 97, .int .u8 1, .int .u8 120, .int .u8 2, .int .u8 1, .int .u8 98] 5)
  have hra := hr8.allocS (.cells #[.int .u8 7, .int .u8 2, .int .u8 1, .int .u8 1, .int .u8 97, .int .u8 1, .int .u8 120, .int .u8 2, .int .u8 1, .int .u8 98] 5)
  obtain ⟨W8, hW8⟩ : ∃ W8, (w8.alloc (.cells #[.int .u8 7, .int .u8 2, .int .u8 1, .int .u8 1, .int .u8 97, .int .u8 1, .int .u8 120, .int .u8 2, .int .u8 1, .int .u8 98] 5)) = W8 := ⟨_, rfl⟩
  rw [hW8] at hrl hc1' hc2' hb11 hra ⊢
  clear hW8 hr8 hb10 hc1 hc2
  refine (kitBytes (xs := [7, 2, 1, 1, 97, 1, 120, 2, 1, 98]) (ys := [7, 2, 1, 1, 97, 1, 120, 2, 1, 98]) W8 hra hrl (by simp [maxLen]) (by simp [maxLen]) rfl rfl).mono ?_
  rintro e w9 ⟨rfl, dn, rfl⟩
  have hc1 : (W8.drewN dn).cell? ⟨g, 1, none⟩ = some (.int .u64 2) := hc1'
  have hc2 : (W8.drewN dn).cell? ⟨g, 5, none⟩ = some (.int .u64 1) := hc2'
  have hb12 := below_drewN hb11 dn
  rw [show eqb [7, 2, 1, 1, 97, 1, 120, 2, 1, 98] [7, 2, 1, 1, 97, 1, 120, 2, 1, 98] = true from by decide +kernel]
  obtain ⟨W9, hW9⟩ : ∃ W9, W8.drewN dn = W9 := ⟨_, rfl⟩
  rw [hW9] at hc1 hc2 hb12 ⊢
  clear hW9 hc1' hc2' hb11 hra hrl
  go_wp2_with fail
  refine (batCheck (Aw := none) (nw := 0) (cw := 0) (B := 0) (seq := 1) (ws := []) _ ⟨[], Rd.nil, fun i x h => by simp at h⟩ (by simp) rfl (Nat.zero_le _) (by omega) (by omega)).mono ?_
  rintro e w10 ⟨rfl, hb13⟩
  rw [chkC]
  have hb14 := hb12.trans (hb13.mono hb12.size)
  simp only []
  go_wp2_with fail
  go_ret
  exact ⟨rfl, hb14⟩
end Go.Proofs.Ytpjdlcdkldomlaa
