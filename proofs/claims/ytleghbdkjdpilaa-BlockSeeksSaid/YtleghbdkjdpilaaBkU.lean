/- block.Seek: plain words; its loops. -/
import Derived.Laws.ResultCell
import Derived.Deep.Cut
import Derived.Test.YtleghbdkjdpilaaBkX
namespace Go.Proofs.Ytleghbdkjdpilaa
open Go.RowKit

/-- The i-th entry against what is sought. -/
def skAt (l : List En) (key : List Int) (seq i : Nat) : Int := match l[i]? with
  | some a => entCmp a.key a.seq key seq
  | none => 0
/-- Halving: f rounds at most. -/
def skBin (l : List En) (key : List Int) (seq : Nat) : Nat → Nat → Nat → Nat → Nat × Nat
  | 0, lo, _, m => (lo, m)
  | f + 1, lo, hi, m => if lo < hi then (if skAt l key seq ((lo + hi + 1) / 2 * 16) < 0 then skBin l key seq f ((lo + hi + 1) / 2) hi (m + 1) else skBin l key seq f lo ((lo + hi + 1) / 2 - 1) (m + 1)) else (lo, m)
def skScan (key : List Int) (seq : Nat) : List En → Nat → Option En × Nat
  | [], _ => (none, 0)
  | a :: l, m => if 0 ≤ entCmp a.key a.seq key seq then (some a, m + 1) else skScan key seq l (m + 1)
structure SkR where
  x : En
  m : Nat
  e : Nat
abbrev en0 : En := ⟨[], 0, 0, []⟩
def skEnd : Option En × Nat → SkR
  | (some a, m) => ⟨a, m, 0⟩
  | (none, _) => ⟨en0, 0, 6⟩
def skGo2 (l : List En) (key : List Int) (seq : Nat) (p : Nat × Nat) : SkR := skEnd (skScan key seq (l.drop (p.1 * 16)) p.2)
def skGo (l : List En) (key : List Int) (seq : Nat) : SkR := skGo2 l key seq (skBin l key seq l.length 0 ((l.length - 1) / 16) 0)
theorem skT {N M T : Nat} (h : 1 ≤ N) (hM : N - 1 = M) (hT : M / 16 = T) : T * 16 + 1 ≤ N ∧ M ≤ N ∧ ((M : Int) / 16) = (T : Int) ∧ ((N : Int) - 1) = (M : Int) := by
  refine ⟨by omega, by omega, by omega, by omega⟩
theorem skMid {N T lo hi mid k : Nat} (h : lo < hi) (h2 : hi ≤ T) (hT : T * 16 + 1 ≤ N) (hm : (lo + hi + 1) / 2 = mid) (hk : mid * 16 = k) :
    ((lo : Int) + (hi : Int) + 1) / 2 = (mid : Int) ∧ lo < mid ∧ mid ≤ hi ∧ (0 : Int) ≤ (mid : Int) * 16 ∧ (mid : Int) * 16 < (N : Int) ∧ ((mid : Int) * 16).toNat = k ∧ k < N := by
  refine ⟨by omega, by omega, by omega, by omega, by omega, by omega, by omega⟩
theorem skLo {N T lo k c : Nat} (h2 : lo ≤ T) (hT : T * 16 + 1 ≤ N) (hk : lo * 16 = k) (hc : N ≤ c) :
    (lo : Int) * 16 = (k : Int) ∧ k < N ∧ k ≤ c ∧ ¬ c = k ∧ (k : Int) ≤ (N : Int) := by
  refine ⟨by omega, by omega, by omega, by omega, by omega⟩
/-- What Seek answers. -/
def skOf (zs key : List Int) (seq : Nat) : SkR := if (parOf zs).2 ≠ 0 then ⟨en0, 0, (parOf zs).2⟩ else skGo (parOf zs).1 key seq
def SeekPost (w : World) (r : SkR) (e : Ending) (w' : World) : Prop :=
  ∃ A1 c1 A2 c2, e = .returned (.tuple #[enV A1 r.x.key.length c1 r.x.seq r.x.kind A2 r.x.val.length c2, .int .i64 r.m, .int .i64 r.e]) ∧ BeOk w' w'.heap.size ⟨r.x, A1, c1, A2, c2⟩ ∧ Below w.heap.size w w'
theorem beOk0 (w : World) (B : Nat) : BeOk w B ⟨en0, none, 0, none, 0⟩ :=
  ⟨Rd.nil, Rd.nil, Nat.le_refl _, Nat.le_refl _, Nat.zero_le _, Nat.zero_le _, fun x h => by simp at h, fun x h => by simp at h, by simp, fun _ => rfl, fun _ => rfl⟩
theorem blkOut_zero {l : List En} (h : (blkOut l).2 = 0) : l ≠ [] ∧ enErr l = 0 ∧ risB l = true ∧ (blk l).length ≤ 262144 ∧ blkOut l = (blk l, 0) := by
  unfold blkOut at h ⊢
  by_cases h1 : enErr l ≠ 0
  · rw [if_pos h1] at h; exact absurd h h1
  · rw [if_neg h1] at h ⊢
    by_cases h2 : l = [] ∨ risB l = false
    · rw [if_pos h2] at h; cases h
    · rw [if_neg h2] at h ⊢
      by_cases h3 : 262144 < (blk l).length
      · rw [if_pos h3] at h; cases h
      · rw [if_neg h3]
        simp only [not_or, Bool.not_eq_false] at h2
        exact ⟨h2.1, Decidable.not_not.1 h1, h2.2, by omega, rfl⟩
/-- What Parse takes: fine entries in order, whose block the bytes are. -/
theorem parOf_zero {zs : List Int} (h : (parOf zs).2 = 0) : (parOf zs).1 ≠ [] ∧ blkOut (parOf zs).1 = (zs, 0) ∧ blk (parOf zs).1 = zs ∧ zs.length ≤ 262144 := by
  unfold parOf at h ⊢
  by_cases h1 : 262144 < zs.length
  · rw [if_pos h1] at h; cases h
  rw [if_neg h1] at h ⊢
  by_cases h2 : tailOk zs = false
  · rw [if_pos h2] at h; cases h
  rw [if_neg h2] at h ⊢
  by_cases h3 : (parBody zs).1 = false
  · rw [if_pos h3] at h; cases h
  rw [if_neg h3] at h ⊢
  by_cases h4 : (blkOut (parBody zs).2).2 ≠ 0 ∨ ¬ (blkOut (parBody zs).2).1 = zs
  · rw [if_pos h4] at h; cases h
  rw [if_neg h4]
  simp only [not_or, Decidable.not_not] at h4
  obtain ⟨a, -, -, -, b⟩ := blkOut_zero h4.1
  have h5 := h4.2
  rw [b] at h5
  exact ⟨a, by rw [b]; simp only at h5; rw [h5], h5, by omega⟩
theorem esTo_ge (l : List En) : ∀ i, i ≤ l.length → i ≤ (esTo l i).length
  | 0, _ => Nat.zero_le _
  | i + 1, h => by
    have ih := esTo_ge l i (by omega)
    have e : esTo l (i + 1) = esTo l i ++ (match l[i]? with | some x => eEnc (nAt l i) x | none => []) := rfl
    rw [e, List.length_append, List.getElem?_eq_getElem (show i < l.length by omega)]
    have : 0 < (eEnc (nAt l i) l[i]).length := by
      have := numEnc_pos (l[i]).val.length
      simp only [eEnc, List.length_append]
      omega
    show i + 1 ≤ _ + (eEnc (nAt l i) l[i]).length
    omega
theorem len_le_blk (l : List En) : l.length ≤ (blk l).length := by
  have := esTo_ge l l.length (Nat.le_refl _)
  rw [blk, List.length_append]
  omega
theorem below_setRow {B g : Nat} {a w : World} (h : Below B a w) (hg : B ≤ g) (cs : Array Value) : Below B a (w.setRow g cs) :=
  ⟨h.os, h.tape, h.output, by have := h.size; simpa [World.setRow] using this, fun k hk => (setRow_other w g k cs (by omega)).trans (h.block k hk)⟩
/-- A whole entry stored. -/
theorem run_storeEn {w : World} {g : Nat} {old F : Array Value} (hb : Bk w g 29 old) (ho : old.size = 4) (hF : F.size = 4) (h1 : F.all (·.oneCell') = true) : (storeCells ⟨g, 0, none⟩ F.toList).run Try.prog w = .ok () (w.setRow g F) := by
  have hFi : (Try.prog.info? 29).map (·.size) = some F.size := by rw [hF]; rfl
  have h := run_storeVar_row (P := Try.prog) w g 29 29 _ F hb hFi (by rw [hF, ho]) h1
  have hi4 : ∃ i0, Try.prog.info? 29 = some i0 ∧ i0.size = 4 := by
    cases hq : Try.prog.info? 29 with
    | none => rw [hq] at hFi; simp at hFi
    | some i0 => exact ⟨i0, rfl, by rw [hq, hF] at hFi; simpa using hFi⟩
  obtain ⟨i0, hi0, hi1⟩ := hi4
  simpa [storeVar, sizeOf, typeInfo, hi0, hi1, Value.cells, hF] using h
theorem Bk.rowE {w : World} {g : Nat} {t : TypeId} {old : Array Value} (h : Bk w g t old) (cs : Array Value) : Bk (w.setRow g cs) g t cs := setRow_heap w g old cs t (0, 0) h
theorem rb_ne_en {w : World} {B g : Nat} {A : Option Addr} {xs : List Int} {t : TypeId} {e : BE} (h : Rb w B A xs) (hb : Bk w g t (beA e)) : xs ≠ [] → ∀ a, A = some a → some g ≠ some a.block := fun hne a ha q => by
  obtain ⟨b, o, e1, hb1, hc⟩ := h (by simpa [bv] using hne)
  rw [ha] at e1
  cases e1
  simp only [Option.some.injEq] at q
  subst q
  cases xs with
  | nil => exact hne rfl
  | cons x xs =>
    have h0 := hc 0 (.int .u8 x) rfl
    rw [hb.cell] at h0
    have h1 : ∀ i : Nat, (beA e)[i]? ≠ some (.int .u8 x) := fun i => by
      match i with
      | 0 => simp
      | 1 => simp
      | 2 => simp
      | 3 => simp
      | i + 4 => simp
    exact h1 _ h0
theorem skScan_step {key : List Int} {seq m : Nat} {l : List En} {a : En} {k : Nat} (h : l[k]? = some a) : skScan key seq (l.drop k) m = if 0 ≤ entCmp a.key a.seq key seq then (some a, m + 1) else skScan key seq (l.drop (k + 1)) (m + 1) := by
  obtain ⟨hk, rfl⟩ := List.getElem?_eq_some_iff.1 h
  rw [List.drop_eq_getElem_cons hk, skScan]
theorem beA_one (e : BE) : (beA e).all (·.oneCell') = true := by simp [Value.oneCell']
end Go.Proofs.Ytleghbdkjdpilaa
