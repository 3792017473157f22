/- What a filter is: plain words over lists of numbers; lists of byte slices. -/
import Derived.Test.YtccpjjpceokodaaProbes2
namespace Go.Proofs.Ytccpjjpceokodaa
open Go.RowKit

theorem hashOf_rng (zs : List Int) : 0 ≤ hashOf zs ∧ hashOf zs < 18446744073709551616 := by
  unfold hashOf hmix
  obtain ⟨y, hy⟩ : ∃ y, hmix1 14181476777654086739 (hmix1 18397679294719823053 (hashTo zs)) = y := ⟨_, rfl⟩
  have h := u64_rng (bits .xor .u64 (hmix1 18397679294719823053 (hashTo zs)) (hmix1 18397679294719823053 (hashTo zs) / 8589934592) * 14181476777654086739)
  rw [← hmix1, hy] at h
  rw [hy, u64_xor _ _ (by omega) (by omega) (by omega) (by omega)]
  have := Nat.xor_lt_two_pow (n := 64) (x := y.toNat) (y := (y / 8589934592).toNat) (by omega) (by omega)
  omega
theorem Rd.setfar {w : World} {A : Option Addr} {B : Nat} {xs : List Value} (h : Rd w B A xs) {q : Addr} (hq : ∀ a, A = some a → a.block ≠ q.block) (u : Value) : Rd (w.setCell q u) B A xs := fun hn => by
  obtain ⟨b, o, e, hb, hc⟩ := h hn
  exact ⟨b, o, e, hb, fun j v hv => (World.cell?_setCell_other w q _ u (fun e' => by subst e'; exact hq _ e rfl)).trans (hc j v hv)⟩
theorem bits_cases (m c : Int) (h0 : 0 ≤ m) : (∃ e, bitsOf m c = (0, 0, e) ∧ (e = 2 ∨ e = 3)) ∨ ∃ n8 k : Nat, 8 ≤ n8 ∧ n8 ≤ 1048576 ∧ 1 ≤ k ∧ k ≤ 30 ∧ bitsOf m c = ((n8 : Int) * 8, (k : Int), 0) := by
  unfold bitsOf
  split
  · exact .inl ⟨2, rfl, .inl rfl⟩
  split
  · exact .inl ⟨3, rfl, .inr rfl⟩
  split
  · exact .inl ⟨3, rfl, .inr rfl⟩
  · rename_i h1 h2 h3
    refine .inr ⟨((max 64 (m * c) + 7) / 8).toNat, (min 30 (max 1 (c * 69 / 100))).toNat, ?_, ?_, ?_, ?_, ?_⟩
    · have : 64 ≤ max 64 (m * c) := Int.le_max_left ..
      omega
    · omega
    · omega
    · omega
    · have : 64 ≤ max 64 (m * c) := Int.le_max_left ..
      rw [Int.toNat_of_nonneg (by omega), Int.toNat_of_nonneg (by omega)]
def pw (x : Int) : Int := 2 ^ (x % 8).toNat
def setb (zs : List Int) (x : Int) : List Int := zs.set (x / 8).toNat (bits .or .u8 (zs.getD (x / 8).toNat 0) (pw x))
def fill (zs ps : List Int) : List Int := ps.foldl setb zs
def isb (zs : List Int) (x : Int) : Bool := !(zs.getD (x / 8).toNat 0 / pw x % 2 == 0)
def hasAll (zs ps : List Int) : Bool := ps.all (isb zs)
/-- What Has tells. -/
def hasOf (fs key : List Int) : Bool :=
  if fs.length < 2 ∨ 1048577 < fs.length then true
  else if okp (((fs.length - 1) * 8 : Nat) : Int) (fs.getD (fs.length - 1) 0) = false then true
  else hasAll fs (prb (hashOf key) (((fs.length - 1) * 8 : Nat) : Int) (fs.getD (fs.length - 1) 0).toNat)
/-- A filter's bytes, ahead of the last one. -/
def fillAll (n : Nat) (k : Nat) (f : List Int) (keys : List (List Int)) : List Int := keys.foldl (fun f key => fill f (prb (hashOf key) n k)) f
/-- A whole filter. -/
def filterOf (n8 k : Nat) (keys : List (List Int)) : List Int := fillAll (n8 * 8) k (List.replicate n8 0) keys ++ [(k : Int)]
theorem setb_len (zs : List Int) (x : Int) : (setb zs x).length = zs.length := by simp [setb]
theorem fill_len (ps : List Int) : ∀ zs, (fill zs ps).length = zs.length := by
  induction ps with
  | nil => intro zs; rfl
  | cons p ps ih => intro zs; rw [fill, List.foldl_cons]; exact (ih _).trans (setb_len _ _)
theorem fill_snoc (zs ps : List Int) (x : Int) : fill zs (ps ++ [x]) = setb (fill zs ps) x := by simp [fill]
theorem fillAll_snoc (n k : Nat) (f : List Int) (keys : List (List Int)) (key : List Int) : fillAll n k f (keys ++ [key]) = fill (fillAll n k f keys) (prb (hashOf key) n k) := by simp [fillAll]
theorem fillAll_len (n k : Nat) (keys : List (List Int)) : ∀ f, (fillAll n k f keys).length = f.length := by
  induction keys with
  | nil => intro f; rfl
  | cons p ps ih => intro f; rw [fillAll, List.foldl_cons]; exact (ih _).trans (fill_len _ _)
theorem pw_pos (x : Int) : 1 ≤ pw x ∧ pw x ≤ 128 := by
  have h : (x % 8).toNat = 0 ∨ (x % 8).toNat = 1 ∨ (x % 8).toNat = 2 ∨ (x % 8).toNat = 3 ∨ (x % 8).toNat = 4 ∨ (x % 8).toNat = 5 ∨ (x % 8).toNat = 6 ∨ (x % 8).toNat = 7 := by omega
  unfold pw
  rcases h with h | h | h | h | h | h | h | h <;> rw [h] <;> decide
theorem or_rng (a b : Int) (ha : 0 ≤ a ∧ a ≤ 255) (hb : 0 ≤ b ∧ b ≤ 255) : 0 ≤ bits .or .u8 a b ∧ bits .or .u8 a b ≤ 255 := by
  obtain ⟨a, rfl⟩ := Int.eq_ofNat_of_zero_le ha.1
  obtain ⟨b, rfl⟩ := Int.eq_ofNat_of_zero_le hb.1
  rw [u8_or_nat _ _ (by omega) (by omega)]
  have : a ||| b < 2 ^ 8 := Nat.or_lt_two_pow (by omega) (by omega)
  omega
theorem Byt.getD {zs : List Int} (h : Byt zs) (k : Nat) : 0 ≤ zs.getD k 0 ∧ zs.getD k 0 ≤ 255 := by
  rw [List.getD_eq_getElem?_getD]
  cases e : zs[k]? with
  | none => simp
  | some x => exact h.get e
theorem Byt.set {zs : List Int} (h : Byt zs) {k : Nat} {x : Int} (hx : 0 ≤ x ∧ x ≤ 255) : Byt (zs.set k x) := fun y hy => by
  rcases List.mem_or_eq_of_mem_set hy with h1 | h1
  · exact h y h1
  · rw [h1]; exact hx
theorem setb_byt {zs : List Int} (h : Byt zs) (x : Int) : Byt (setb zs x) := h.set (or_rng _ _ (h.getD _) (by have := pw_pos x; omega))
theorem fill_byt (ps : List Int) : ∀ {zs : List Int}, Byt zs → Byt (fill zs ps) := by
  induction ps with
  | nil => intro zs h; exact h
  | cons p ps ih => intro zs h; exact ih (setb_byt h p)

theorem fillAll_byt (n k : Nat) (keys : List (List Int)) : ∀ {f}, Byt f → Byt (fillAll n k f keys) := by
  induction keys with
  | nil => intro f h; exact h
  | cons p ps ih => intro f h; exact ih (fill_byt _ h)
theorem replicate_byt (n : Nat) : Byt (List.replicate n 0) := fun x hx => by
  rw [(List.mem_replicate.1 hx).2]
  omega
/-! ### lists of byte slices -/
/-- From A on lie slices whose bytes are the lists zss. -/
def RbM (w : World) (B : Nat) (A : Option Addr) (zss : List (List Int)) : Prop :=
  ∃ hs : List Value, Rd w B A hs ∧ hs.length = zss.length ∧ ∀ (i : Nat) (zs : List Int), zss[i]? = some zs → ∃ A1 c1, hs[i]? = some (Value.slice A1 zs.length c1) ∧ zs.length ≤ c1 ∧ Rb w B A1 zs
theorem RbM.get {w : World} {B : Nat} {A : Option Addr} {zss : List (List Int)} (h : RbM w B A zss) {i : Nat} {zs : List Int} (hi : zss[i]? = some zs) :
    ∃ b o A1 c1, A = some ⟨b, o, none⟩ ∧ b < B ∧ w.cell? ⟨b, o + i, none⟩ = some (.slice A1 zs.length c1) ∧ zs.length ≤ c1 ∧ Rb w B A1 zs := by
  obtain ⟨hs, hr, hl, hh⟩ := h
  obtain ⟨A1, c1, h1, h2, h3⟩ := hh i zs hi
  obtain ⟨b, o, e, hb, hc⟩ := hr.get h1
  exact ⟨b, o, A1, c1, e, hb, hc, h2, h3⟩
theorem RbM.keep {w w' : World} {B : Nat} {A : Option Addr} {zss : List (List Int)} (h : RbM w B A zss) (hk : ∀ p : Addr, p.block < B → w'.cell? p = w.cell? p) : RbM w' B A zss := by
  obtain ⟨hs, hr, hl, hh⟩ := h
  refine ⟨hs, hr.keep hk, hl, fun i zs hi => ?_⟩
  obtain ⟨A1, c1, h1, h2, h3⟩ := hh i zs hi
  exact ⟨A1, c1, h1, h2, h3.keep hk⟩
theorem RbM.below {w w' : World} {B : Nat} {A : Option Addr} {zss : List (List Int)} (h : RbM w B A zss) (hb : Below B w w') : RbM w' B A zss := h.keep fun _ hp => hb.cell hp
theorem RbM.more {w : World} {B B' : Nat} {A : Option Addr} {zss : List (List Int)} (h : RbM w B A zss) (hB : B ≤ B') : RbM w B' A zss := by
  obtain ⟨hs, hr, hl, hh⟩ := h
  refine ⟨hs, hr.more hB, hl, fun i zs hi => ?_⟩
  obtain ⟨A1, c1, h1, h2, h3⟩ := hh i zs hi
  exact ⟨A1, c1, h1, h2, h3.more hB⟩
theorem RbM.belowS {w w' : World} {A : Option Addr} {zss : List (List Int)} (h : RbM w w.heap.size A zss) (hb : Below w.heap.size w w') : RbM w' w'.heap.size A zss := (h.below hb).more hb.size
end Go.Proofs.Ytccpjjpceokodaa
