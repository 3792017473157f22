/- Make and Probes of layer 9, both ways, in one form. -/
import Derived.Test.YtccpjjpceokodaaBLives
namespace Go.Proofs.Ytccpjjpceokodaa
open Go.RowKit

/-- A call has handed back a slice and a number. -/
def Made (w : World) (xs : List Value) (e : Int) (en : Ending) (w' : World) : Prop := ∃ A' c', en = .returned (.tuple #[.slice A' xs.length c', .int .i64 e]) ∧ Rd w' w'.heap.size A' xs ∧ Below w.heap.size w w'
theorem Made.ok {t : TypeId} {w w' : World} {xs : List Value} {n : Nat} {P : Option Addr → Prop} {en : Ending} (hn : xs.length = n) (h : RetNew2 t 1 w n xs (.int .i64 0) P en w') : Made w xs 0 en w' := by
  subst hn
  obtain ⟨A', c', rfl, happ, _⟩ := h
  exact ⟨A', c', rfl, happ.rd, happ.below0⟩
def makeOf (n : Nat) (d : Int) (keys : List (List Int)) : List Int × Int := if (bitsOf n d).2.2 = 0 then (filterOf ((bitsOf n d).1 / 8).toNat (bitsOf n d).2.1.toNat keys, 0) else ([], (bitsOf n d).2.2)
theorem makeOf_len (n : Nat) (d : Int) (keys : List (List Int)) : (makeOf n d keys).1.length ≤ 1048577 := by
  unfold makeOf
  split
  · rw [flen]
    rcases bits_cases n d (by omega) with ⟨e, h, _⟩ | ⟨n8, k, _, h8, _, _, h⟩
    · rw [h]; simp
    · rw [h]; simp only []; omega
  · simp
theorem makeOf_byt (n : Nat) (d : Int) (keys : List (List Int)) : Byt (makeOf n d keys).1 := by
  unfold makeOf
  split
  · rcases bits_cases n d (by omega) with ⟨e, h, he⟩ | ⟨n8, k, _, h8, _, hk, h⟩
    · rw [h]; exact fbyt _ _ (by simp)
    · rw [h]; exact fbyt _ _ (by simpa using hk)
  · intro x hx; cases hx

theorem bloomMake {A : Option Addr} {c n B : Nat} {keys : List (List Int)} {d : Int} (w : World) (hf : RbM w B A keys) (hkb : ∀ z ∈ keys, Byt z ∧ z.length ≤ maxLen) (hn : keys.length = n) (hB : B ≤ w.heap.size) (hd : (Lit.int .i64 d).wf = true) (hnl : n ≤ 8388608) :
    Calls Try.prog 7 #[.slice A n c, .int .i64 d] w (Made w (bv (makeOf n d keys).1) (makeOf n d keys).2) := by
  rcases bits_cases n d (by omega) with ⟨e, h, he⟩ | ⟨n8, k, h80, h81, hk0, hk1, h⟩
  · rw [makeOf, h, if_neg (by simp only []; omega)]
    refine (bloomMake0 w hd h he hnl).mono ?_
    rintro en w' ⟨rfl, rfl⟩
    exact ⟨none, 0, rfl, Rd.nil, Below.refl _ _⟩
  · rw [makeOf, h, if_pos rfl]
    simp only []
    rw [show ((n8 : Int) * 8 / 8).toNat = n8 from by omega, Int.toNat_natCast]
    exact (bloomMake1 w hf hkb hn hB hd h80 h81 hk0 hk1 h hnl).mono (fun en w' h' => Made.ok (by rw [bv_length, flen]) h')
theorem refMake {A : Option Addr} {c n B : Nat} {keys : List (List Int)} {d : Int} (w : World) (hf : RbM w B A keys) (hkb : ∀ z ∈ keys, Byt z ∧ z.length ≤ maxLen) (hn : keys.length = n) (hB : B ≤ w.heap.size) (hd : (Lit.int .i64 d).wf = true) (hnl : n ≤ 8388608) :
    Calls Try.prog 12 #[.slice A n c, .int .i64 d] w (Made w (bv (makeOf n d keys).1) (makeOf n d keys).2) := by
  rcases bits_cases n d (by omega) with ⟨e, h, he⟩ | ⟨n8, k, h80, h81, hk0, hk1, h⟩
  · rw [makeOf, h, if_neg (by simp only []; omega)]
    refine (refMake0 w hd h he hnl).mono ?_
    rintro en w' ⟨rfl, rfl⟩
    exact ⟨none, 0, rfl, Rd.nil, Below.refl _ _⟩
  · rw [makeOf, h, if_pos rfl]
    simp only []
    rw [show ((n8 : Int) * 8 / 8).toNat = n8 from by omega, Int.toNat_natCast]
    exact (refMake1 w hf hkb hn hB hd h80 h81 hk0 hk1 h hnl).mono (fun en w' h' => Made.ok (by rw [bv_length, flen]) h')

def probesOf (h n k : Int) : List Int × Int := if okp n k = true then (prb h n k.toNat, 0) else ([], 2)
theorem probesOf_len (h n k : Int) : (probesOf h n k).1.length ≤ 30 := by
  unfold probesOf
  split
  · rename_i hok
    simp only [okp, Bool.and_eq_true, decide_eq_true_eq] at hok
    rw [prb_len]; omega
  · simp
theorem iv_len (zs : List Int) : (iv zs).length = zs.length := by simp [iv]
theorem bloomProbes (h n k : Int) (w : World) (h0 : 0 ≤ h) (h1 : h < 18446744073709551616) :
    Calls Try.prog 14 #[.int .u64 h, .int .i64 n, .int .i64 k] w (Made w (iv (probesOf h n k).1) (probesOf h n k).2) := by
  unfold probesOf
  split
  · rename_i hok
    simp only [okp, Bool.and_eq_true, decide_eq_true_eq] at hok
    obtain ⟨kn, rfl⟩ := Int.eq_ofNat_of_zero_le (show 0 ≤ k by omega)
    rw [Int.toNat_natCast]
    refine (bloomProbes1 h n kn w h0 h1 (by omega) (by omega) (by omega) (by omega)).mono ?_
    rintro en w' ⟨v, rfl, hown, hb⟩
    have hf : ∃ A' c', v = .slice A' kn c' := by
      rcases hown.2 with ⟨rfl, h0⟩ | ⟨g, cap, cur, rfl, _⟩
      · exact ⟨none, 0, by rw [h0]⟩
      · exact ⟨_, _, rfl⟩
    obtain ⟨A', c', rfl⟩ := hf
    refine ⟨A', c', by rw [iv_len, prb_len], Rd.of_own hown, hb⟩
  · rename_i hok
    refine (bloomProbes0 h n k w (by simpa using hok)).mono ?_
    rintro en w' ⟨rfl, hb⟩
    exact ⟨none, 0, rfl, Rd.nil, below_all hb _⟩
theorem refProbes (h n k : Int) (w : World) (h0 : 0 ≤ h) (h1 : h < 18446744073709551616) :
    Calls Try.prog 15 #[.int .u64 h, .int .i64 n, .int .i64 k] w (Made w (iv (probesOf h n k).1) (probesOf h n k).2) := by
  unfold probesOf
  split
  · rename_i hok
    simp only [okp, Bool.and_eq_true, decide_eq_true_eq] at hok
    obtain ⟨kn, rfl⟩ := Int.eq_ofNat_of_zero_le (show 0 ≤ k by omega)
    rw [Int.toNat_natCast]
    exact (refProbes1 h n kn w h0 h1 (by omega) (by omega) (by omega) (by omega)).mono (fun en w' h' => Made.ok (by rw [iv_len, prb_len]) h')
  · rename_i hok
    refine (refProbes0 h n k w (by simpa using hok)).mono ?_
    rintro en w' ⟨rfl, hb⟩
    exact ⟨none, 0, rfl, Rd.nil, below_all hb _⟩
end Go.Proofs.Ytccpjjpceokodaa
