/- The examples that each statement of layer 9 asks first: 'lives' answers true; the weight of some keys. -/
import Derived.Lib.SmallJoins
import Derived.Test.YtccpjjpceokodaaHas
namespace Go.Proofs.Ytccpjjpceokodaa
open Go.RowKit

/-- Slice values whose bytes are the lists. -/
def Hs (w : World) (B : Nat) (hs : List Value) (zss : List (List Int)) : Prop := hs.length = zss.length ∧ ∀ (i : Nat) (zs : List Int), zss[i]? = some zs → ∃ A1 c1, hs[i]? = some (Value.slice A1 zs.length c1) ∧ zs.length ≤ c1 ∧ Rb w B A1 zs
theorem Hs.nil (w : World) (B : Nat) : Hs w B [] [] := ⟨rfl, fun i zs h => by simp at h⟩
theorem Hs.cons {w : World} {B : Nat} {hs : List Value} {zss : List (List Int)} {A : Option Addr} {c : Nat} {zs : List Int} (h : Hs w B hs zss) (hc : zs.length ≤ c) (hr : Rb w B A zs) : Hs w B (.slice A zs.length c :: hs) (zs :: zss) :=
  ⟨by simp [h.1], fun i zs' hi => by
    cases i with
    | zero => simp at hi; subst hi; exact ⟨A, c, rfl, hc, hr⟩
    | succ i => simp at hi; simpa using h.2 i zs' hi⟩
theorem RbM.of {w : World} {B : Nat} {A : Option Addr} {hs : List Value} {zss : List (List Int)} (h : Rd w B A hs) (hh : Hs w B hs zss) : RbM w B A zss := ⟨hs, h, hh.1, hh.2⟩

set_option maxHeartbeats 400000 in
theorem lawWeigh {A : Option Addr} {c n B : Nat} {keys : List (List Int)} (w : World) (hf : RbM w B A keys) (hn : keys.length = n) (h200 : n ≤ 200) :
    Calls Try.prog 10 #[.slice A n c] w fun e w' => (∃ v, e = .returned (.int .i64 v)) ∧ w' = w := by
  have HN := Lib.hid hn
  clear hn
  go_enter Try.func10, Try.ntmps10
  go_wp2
  go_loop [3, 4] (fun s i => ∃ (j : Nat) (v : Int), j ≤ n ∧ i = .int .i64 j ∧ s = .int .i64 v) (fun _ i => n - (intOf i).toNat)
  case atStart => exact ⟨0, 0, by omega, rfl, rfl⟩
  case round =>
    obtain ⟨j, v, hj, rfl, rfl⟩ := hrel
    by_cases hlt : j < n
    · obtain ⟨key, hkey⟩ : ∃ key, keys[j]? = some key := ⟨_, List.getElem?_eq_getElem (by rw [HN.out]; exact hlt)⟩
      obtain ⟨b, o, A1, c1, rfl, hb, hc, hle, hr1⟩ := hf.get hkey
      clear hkey
      go_wp2
      go_round
      case rel => exact ⟨j + 1, _, by omega, by go_num, rfl⟩
      case measure => simp [intOf]; omega
    · go_wp2
      go_ret
      exact ⟨⟨_, rfl⟩, rfl⟩

theorem hash0 : hashOf [] = 17280346270528514342 := by decide +kernel
theorem hash97 : hashOf [97] = 9413272369427828315 := by decide +kernel
theorem bits1 : bitsOf 100 10 = (1000, 6, 0) := by decide +kernel
theorem bits2 : bitsOf 0 10 = (64, 6, 0) := by decide +kernel
theorem has1 : hasOf (filterOf 8 6 [[97], [98]]) [97] = true := by decide +kernel
theorem flen (n8 k : Nat) (keys : List (List Int)) : (filterOf n8 k keys).length = n8 + 1 := by rw [filterOf, List.length_append, fillAll_len, List.length_replicate]; rfl
theorem fbyt (n8 : Nat) {k : Nat} (keys : List (List Int)) (hk : k ≤ 30) : Byt (filterOf n8 k keys) := (fillAll_byt _ _ _ (replicate_byt n8)).append (fun x hx => by simp at hx; omega)

theorem Rd.litm {w : World} {cs : Array Value} {t : TypeId} {fr : Nat × Nat} {g : Nat} (hg : w.heap.size = g) : Rd (w.alloc (.cells cs t fr)) (g + 1) (some ⟨g, 0, none⟩) cs.toList := fun _ => by
  subst hg
  exact ⟨w.heap.size, 0, rfl, by omega, fun j u hu => by
    rw [Nat.zero_add, World.cell?_alloc_mark]
    simpa using hu⟩
theorem conv_const (w : World) (C : Array Value) (n c g : Nat) (hg : g = w.heap.size) :
    (convert 25 25 (.slice (some ⟨g, 0, none⟩) n c)).run Try.prog (w.alloc (.cells C 5)) = .ok (.slice (some ⟨g, 0, none⟩) n c) (w.alloc (.cells C 5 (C.size, C.size + 1))) := by
  subst hg
  exact Lib.run_convert_bytes_const w _ _ C n c Try.underlying25 Try.underlying5

set_option maxHeartbeats 4000000 in
theorem lives_true (w : World) : Calls Try.prog 8 #[] w fun e w' => e = .returned (.bool true) ∧ Below w.heap.size w w' := by
  go_enter Try.func8, Try.ntmps8
  go_wp2_with fail
  refine (bloomBits 100 10 w rfl rfl).mono ?_
  rintro e w ⟨rfl, rfl⟩
  rw [bits1]
  simp only []
  go_wp2_with fail
  refine (bloomBits 0 10 w rfl rfl).mono ?_
  rintro e w ⟨rfl, rfl⟩
  rw [bits2]
  simp only []
  have cv1 := conv_const w #[.int .u8 97] 1 1 w.heap.size rfl
  have cv2 := conv_const (w.alloc (.cells #[.int .u8 97] 5 (1, 2))) #[.int .u8 98] 1 1 (w.heap.size + 1) (by simp)
  simp only [List.size_toArray, List.length_cons, List.length_nil, Nat.reduceAdd] at cv1 cv2
  go_wp2_with fail
  have hb0 : Below w.heap.size w (((w.alloc (.cells #[.int .u8 97] 5 (1, 2))).alloc (.cells #[.int .u8 98] 5 (1, 2))).alloc (.cells #[.slice (some ⟨w.heap.size, 0, none⟩) 1 1, .slice (some ⟨w.heap.size + 1, 0, none⟩) 1 1] 25)) :=
    (((Below.refl _ w).alloc (Nat.le_refl _) _).alloc (by simp) _).alloc (by simp; omega) _
  have r1 : Rb (((w.alloc (.cells #[.int .u8 97] 5 (1, 2))).alloc (.cells #[.int .u8 98] 5 (1, 2))).alloc (.cells #[.slice (some ⟨w.heap.size, 0, none⟩) 1 1, .slice (some ⟨w.heap.size + 1, 0, none⟩) 1 1] 25)) (w.heap.size + 3) (some ⟨w.heap.size, 0, none⟩) [97] :=
    (((Rd.litm (w := w) (cs := #[.int .u8 97]) (t := 5) rfl).alloc (by simp) _).alloc (by simp) _).more (by omega)
  have r2 : Rb (((w.alloc (.cells #[.int .u8 97] 5 (1, 2))).alloc (.cells #[.int .u8 98] 5 (1, 2))).alloc (.cells #[.slice (some ⟨w.heap.size, 0, none⟩) 1 1, .slice (some ⟨w.heap.size + 1, 0, none⟩) 1 1] 25)) (w.heap.size + 3) (some ⟨w.heap.size + 1, 0, none⟩) [98] :=
    ((Rd.litm (w := w.alloc (.cells #[.int .u8 97] 5 (1, 2))) (cs := #[.int .u8 98]) (t := 5) (g := w.heap.size + 1) (by simp)).alloc (by simp) _).more (by omega)
  have rm : RbM (((w.alloc (.cells #[.int .u8 97] 5 (1, 2))).alloc (.cells #[.int .u8 98] 5 (1, 2))).alloc (.cells #[.slice (some ⟨w.heap.size, 0, none⟩) 1 1, .slice (some ⟨w.heap.size + 1, 0, none⟩) 1 1] 25)) (w.heap.size + 3) (some ⟨w.heap.size + 2, 0, none⟩) [[97], [98]] :=
    RbM.of ((Rd.lit' (w := (w.alloc (.cells #[.int .u8 97] 5 (1, 2))).alloc (.cells #[.int .u8 98] 5 (1, 2))) (cs := #[.slice (some ⟨w.heap.size, 0, none⟩) 1 1, .slice (some ⟨w.heap.size + 1, 0, none⟩) 1 1]) (t := 25) (g := w.heap.size + 2) (by simp)).more (by omega))
      (Hs.cons (zs := [97]) (Hs.cons (zs := [98]) (Hs.nil _ _) (by simp) r2) (by simp) r1)
  obtain ⟨W1, hW1⟩ : ∃ W1, (((w.alloc (.cells #[.int .u8 97] 5 (1, 2))).alloc (.cells #[.int .u8 98] 5 (1, 2))).alloc (.cells #[.slice (some ⟨w.heap.size, 0, none⟩) 1 1, .slice (some ⟨w.heap.size + 1, 0, none⟩) 1 1] 25)) = W1 := ⟨_, rfl⟩
  have hs1 : W1.heap.size = w.heap.size + 3 := by rw [← hW1]; simp
  rw [hW1] at hb0 rm ⊢
  clear hW1 r1 r2 cv1 cv2
  refine (bloomMake1 (n8 := 8) (k := 6) (n := 2) (d := 10) _ rm (by simp [Byt, maxLen]) rfl (by omega) rfl (by omega) (by omega) (by omega) (by omega) rfl (by omega)).mono ?_
  rintro e w2 ⟨A', c', rfl, happ, hne⟩
  have hb2 := hb0.trans (happ.below0.mono (by omega))
  have hs2 := happ.heap
  have hrf := happ.rd
  clear happ hb0 rm
  have h0 := fun W => bloomHash (A := none) (c := 0) (B := 0) (n := 0) (zs := []) W Rd.nil (fun x hx => by simp at hx) (by simp) rfl
  rw [hash0] at h0
  go_wp2_with fail
  refine (h0 _).mono ?_
  rintro e w2 ⟨rfl, rfl⟩
  clear h0
  have cv1 := conv_const w2 #[.int .u8 97] 1 1 w2.heap.size rfl
  simp only [List.size_toArray, List.length_cons, List.length_nil, Nat.reduceAdd] at cv1
  have r1 : Rb (w2.alloc (.cells #[.int .u8 97] 5 (1, 2))) (w2.heap.size + 1) (some ⟨w2.heap.size, 0, none⟩) [97] := Rd.litm (w := w2) (cs := #[.int .u8 97]) (t := 5) rfl
  have h1 := bloomHash (c := 1) (n := 1) _ r1 (Byt.of rfl) (by simp [maxLen]) rfl
  rw [hash97] at h1
  have hb3 := hb2.alloc hb2.size (.cells #[.int .u8 97] 5 (1, 2))
  have hrf3 := hrf.allocS (.cells #[.int .u8 97] 5 (1, 2))
  go_wp2_with fail
  refine h1.mono ?_
  rintro e w3 ⟨rfl, rfl⟩
  obtain ⟨w3, hw3⟩ : ∃ w3, w2.alloc (.cells #[.int .u8 97] 5 (1, 2)) = w3 := ⟨_, rfl⟩
  rw [hw3] at hb3 hrf3 ⊢
  clear hw3 cv1 r1 h1 hrf hb2
  have cv1 := conv_const w3 #[.int .u8 97] 1 1 w3.heap.size rfl
  simp only [List.size_toArray, List.length_cons, List.length_nil, Nat.reduceAdd] at cv1
  have r1 : Rb (w3.alloc (.cells #[.int .u8 97] 5 (1, 2))) (w3.heap.size + 1) (some ⟨w3.heap.size, 0, none⟩) [97] := Rd.litm (w := w3) (cs := #[.int .u8 97]) (t := 5) rfl
  have h1 := bloomHas (c := c') (c1 := 1) (n := 9) (n1 := 1) _ (hrf3.allocS (.cells #[.int .u8 97] 5 (1, 2))) (fbyt 8 (k := 6) [[97], [98]] (by omega)) r1 (Byt.of rfl) (by rw [flen]; omega) (by simp [maxLen]) (flen ..) rfl (by simp) (by simp)
  rw [has1] at h1
  have hb4 := hb3.alloc hb3.size (.cells #[.int .u8 97] 5 (1, 2))
  go_wp2_with fail
  refine h1.mono ?_
  rintro e w5 ⟨rfl, hb5⟩
  have hb6 := hb4.trans (hb5.mono hb4.size)
  clear hb3 hb4 hb5
  go_wp2
  go_ret
  exact ⟨rfl, hb6⟩
end Go.Proofs.Ytccpjjpceokodaa
