/- Spans: plain words, and how they lie in memory; the contracts of Text, name, long and Check. -/
import Derived.BigQuiet
import Derived.Deep.RegionHeld3
import Derived.Deep.AppendLies
import Derived.WalkMore
import Derived.StillTailTactics
import Derived.Test.YthaiplhjekkooaaByt0
namespace Go.Proofs.Ythaiplhjekkooaa
open Go.RowKit

structure Tg where
  key : ByteArray
  val : ByteArray
deriving DecidableEq
structure Sp where
  hi : Nat
  lo : Nat
  id : Nat
  parent : Nat
  service : ByteArray
  name : ByteArray
  kind : Int
  start : Int
  length : Int
  fails : Bool
  tags : List Tg
deriving DecidableEq
/-- The cells of tags. -/
def tgs (l : List Tg) : List Value := l.flatMap fun t => [.string t.key, .string t.val]
theorem tgs_length (l : List Tg) : (tgs l).length = l.length * 2 := by
  induction l with
  | nil => rfl
  | cons t l ih =>
    have : tgs (t :: l) = .string t.key :: .string t.val :: tgs l := rfl
    rw [this, List.length_cons, List.length_cons, List.length_cons, ih]
    omega
theorem tgs_append (a b : List Tg) : tgs (a ++ b) = tgs a ++ tgs b := by simp [tgs]
theorem tgs_get : ∀ {l : List Tg} {i : Nat} {t : Tg}, l[i]? = some t → (tgs l)[i * 2]? = some (.string t.key) ∧ (tgs l)[i * 2 + 1]? = some (.string t.val) := by
  intro l
  induction l with
  | nil => intro i t h; simp at h
  | cons u l ih =>
    intro i t h
    have e : tgs (u :: l) = .string u.key :: .string u.val :: tgs l := rfl
    rw [e]
    cases i with
    | zero => simp at h; subst h; simp
    | succ i =>
      have := ih (i := i) (t := t) (by simpa using h)
      rw [show (i + 1) * 2 = i * 2 + 1 + 1 from by omega, show i * 2 + 1 + 1 + 1 = (i * 2 + 1) + 1 + 1 from rfl, List.getElem?_cons_succ, List.getElem?_cons_succ, List.getElem?_cons_succ, List.getElem?_cons_succ]
      exact this
theorem tgs_one (l : List Tg) : ∀ u ∈ tgs l, u.oneCell' = true := by
  intro u hu
  obtain ⟨t, _, ht⟩ := List.mem_flatMap.1 hu
  simp at ht
  rcases ht with rfl | rfl <;> rfl
/-- The tags lie from A on, two cells each. -/
abbrev RbT (w : World) (B : Nat) (A : Option Addr) (l : List Tg) : Prop := Rd w B A (tgs l)
theorem RbT.get {w : World} {B : Nat} {A : Option Addr} {l : List Tg} (h : RbT w B A l) {i : Nat} {t : Tg} (hi : l[i]? = some t) :
    ∃ b o, A = some ⟨b, o, none⟩ ∧ b < B ∧ w.cell? ⟨b, o + i * 2, none⟩ = some (.string t.key) ∧ w.cell? ⟨b, o + i * 2 + 1, none⟩ = some (.string t.val) := by
  obtain ⟨h1, h2⟩ := tgs_get hi
  obtain ⟨b, o, e, hb, hc⟩ := Rd.get h h1
  obtain ⟨b', o', e', _, hc'⟩ := Rd.get h h2
  rw [e] at e'
  cases e'
  exact ⟨b, o, e, hb, hc, hc'⟩

/-- A span's cells. -/
abbrev spC (s : Sp) (A : Option Addr) (n c : Nat) : Array Value := #[.int .u64 s.hi, .int .u64 s.lo, .int .u64 s.id, .int .u64 s.parent, .string s.service, .string s.name, .int .i64 s.kind, .int .i64 s.start, .int .i64 s.length, .bool s.fails, .slice A n c]
abbrev spV (s : Sp) (A : Option Addr) (n c : Nat) : Value := .agg (spC s A n c)

/-! ### what may be -/
def plainB (s : ByteArray) : Bool := (nums s).all fun x => decide (32 ≤ x) && decide (x ≤ 126)
def txtB (s : ByteArray) : Bool := decide (s.size ≤ 128) && plainB s
def nameB (s : ByteArray) : Bool := decide (0 < s.size) && txtB s
def tgLong (t : Tg) : Bool := decide (128 < t.key.size) || decide (128 < t.val.size)
def longB (s : Sp) : Bool := decide (128 < s.service.size) || decide (128 < s.name.size) || decide (16 < s.tags.length) || s.tags.any tgLong
def strLt (s t : ByteArray) : Bool := Op.bytesLess s.toList t.toList
def tagOk (l : List Tg) (i : Nat) : Bool :=
  match l[i]? with
  | none => true
  | some t => nameB t.key && txtB t.val && (decide (i = 0) || match l[i - 1]? with | none => true | some u => strLt u.key t.key)
def tagsOk (l : List Tg) (k : Nat) : Bool := (List.range k).all (tagOk l)
theorem tagsOk_succ (l : List Tg) (k : Nat) : tagsOk l (k + 1) = (tagsOk l k && tagOk l k) := by simp [tagsOk, List.range_succ]
def headB (s : Sp) : Bool :=
  (decide (s.hi ≠ 0) || decide (s.lo ≠ 0)) && decide (s.id ≠ 0) && nameB s.service && nameB s.name && decide (0 ≤ s.kind) && decide (s.kind ≤ 5) && decide (0 ≤ s.start) && decide (0 ≤ s.length) && decide (s.start ≤ 4611686018427387903) && decide (s.length ≤ 4611686018427387903 - s.start)
/-- What Check tells. -/
def spChk (s : Sp) : Nat := if longB s = true then 3 else if headB s && tagsOk s.tags s.tags.length then 0 else 2

set_option maxHeartbeats 400000 in
theorem spText (w : World) (s : ByteArray) :
    Calls Try.prog 41 #[.string s] w fun e w' => e = .returned (.bool (txtB s)) ∧ w' = w := by
  obtain ⟨q, hq⟩ : ∃ q, txtB s = q := ⟨_, rfl⟩
  rw [hq]
  have HQ := Lib.hid hq
  clear hq
  by_cases hl : 128 < s.size
  · have d1 : (128 : Int) < (s.size : Int) := by omega
    go_enter Try.func41, Try.ntmps41
    go_wp2
    go_ret
    have : q = false := by rw [← HQ.out, txtB]; simp; omega
    exact ⟨by rw [this]; rfl, rfl⟩
  have d1 : decide ((128 : Int) < (s.size : Int)) = false := by simp; omega
  go_enter Try.func41, Try.ntmps41
  go_wp2
  go_loop [9] (fun iv_ => ∃ k : Nat, k ≤ s.size ∧ iv_ = .int .i64 k ∧ ((nums s).take k).all (fun x => decide (32 ≤ x) && decide (x ≤ 126)) = true) (fun i => s.size - (intOf i).toNat)
  case atStart => exact ⟨0, by omega, rfl, rfl⟩
  case round =>
    obtain ⟨k, hk, rfl, hall⟩ := hrel
    have HA := Lib.hid hall
    clear hall
    by_cases hlt : k < s.size
    · have hlt' : (k : Int) < (s.size : Int) := by omega
      obtain ⟨z, hz⟩ : ∃ z : Int, z = ((s[k]'hlt).toNat : Int) := ⟨_, rfl⟩
      have hzz : ((s[k]'hlt).toNat : Int) = z := hz.symm
      have HZ : Hid ((nums s)[k]? = some z) := by rw [hz]; exact nums_get hlt
      clear hz
      by_cases h1 : z < 32
      · go_wp2
        go_ret
        have : q = false := by
          rw [← HQ.out, txtB, plainB]
          have : ((nums s).all fun x => decide (32 ≤ x) && decide (x ≤ 126)) = false := by
            rw [List.all_eq_false]
            exact ⟨z, List.mem_of_getElem? HZ.out, by simp; omega⟩
          simp [this]
        exact ⟨by rw [this]; rfl, rfl⟩
      have h1' : decide (z < 32) = false := by simp; omega
      by_cases h2 : 126 < z
      · go_wp2
        go_ret
        have : q = false := by
          rw [← HQ.out, txtB, plainB]
          have : ((nums s).all fun x => decide (32 ≤ x) && decide (x ≤ 126)) = false := by
            rw [List.all_eq_false]
            exact ⟨z, List.mem_of_getElem? HZ.out, by simp; omega⟩
          simp [this]
        exact ⟨by rw [this]; rfl, rfl⟩
      have h2' : decide (126 < z) = false := by simp; omega
      go_wp2
      go_round
      case rel => exact ⟨k + 1, by omega, by go_num, by rw [take_snoc HZ.out, List.all_append, HA.out]; simp; omega⟩
      case measure => simp [intOf]; omega
    · have hlt' : decide ((k : Int) < (s.size : Int)) = false := by simp; omega
      go_wp2
      go_ret
      have : q = true := by
        rw [← HQ.out, txtB, plainB]
        have h1 := HA.out
        rw [List.take_of_length_le (by rw [nums_len]; omega)] at h1
        rw [h1]
        simp; omega
      exact ⟨by rw [this]; rfl, rfl⟩

theorem str_empty {s : ByteArray} : (s.toList == []) = decide (s.size = 0) := by
  rw [ByteArray.toList_eq, Bool.eq_iff_iff, beq_iff_eq, decide_eq_true_iff]
  have : s.data.toList.length = s.size := rfl
  refine ⟨fun h => by rw [← this, h]; rfl, fun h => List.eq_nil_of_length_eq_zero (by omega)⟩
theorem spName (w : World) (s : ByteArray) :
    Calls Try.prog 51 #[.string s] w fun e w' => e = .returned (.bool (nameB s)) ∧ w' = w := by
  by_cases h0 : 0 < s.size
  · have d1 : (s.toList == []) = false := by rw [str_empty, decide_eq_false_iff_not]; omega
    obtain ⟨q, hq⟩ : ∃ q, txtB s = q := ⟨_, rfl⟩
    have hn : nameB s = q := by simp [nameB, h0, hq]
    have ht := spText w s
    rw [hq] at ht
    rw [hn]
    have HT := Lib.hid ht
    clear ht hq hn
    go_enter Try.func51, Try.ntmps51
    go_wp2_with (go_at_call 41; refine HT.out.mono ?_; rintro e w' ⟨rfl, rfl⟩)
    go_ret
    exact ⟨rfl, rfl⟩
  · have d1 : (s.toList == []) = true := by rw [str_empty, decide_eq_true_iff]; omega
    have hn : nameB s = false := by simp [nameB, h0]
    rw [hn]
    go_enter Try.func51, Try.ntmps51
    go_wp2
    go_ret
    exact ⟨rfl, rfl⟩
theorem spLong1 (W : World) (t : Tg) :
    Calls Try.prog 64 #[.agg #[.string t.key, .string t.val]] W fun e W' => e = .returned (.bool (tgLong t)) ∧ Below W.heap.size W W' := by
  obtain ⟨q, hq⟩ : ∃ q, tgLong t = q := ⟨_, rfl⟩
  rw [hq]
  unfold tgLong at hq
  have HQ := Lib.hid hq
  clear hq
  by_cases h1 : 128 < t.key.size
  · have d1 : (128 : Int) < (t.key.size : Int) := by omega
    go_enter Try.func64, Try.ntmps64
    go_wp2
    go_ret
    have : q = true := by rw [← HQ.out]; simp [h1]
    exact ⟨by rw [this]; rfl, (Below.refl _ W).alloc (Nat.le_refl _) _⟩
  have d1 : decide ((128 : Int) < (t.key.size : Int)) = false := by simp; omega
  by_cases h2 : 128 < t.val.size
  · have d2 : (128 : Int) < (t.val.size : Int) := by omega
    go_enter Try.func64, Try.ntmps64
    go_wp2
    go_ret
    have : q = true := by rw [← HQ.out]; simp [h2]
    exact ⟨by rw [this]; rfl, (Below.refl _ W).alloc (Nat.le_refl _) _⟩
  have d2 : decide ((128 : Int) < (t.val.size : Int)) = false := by simp; omega
  go_enter Try.func64, Try.ntmps64
  go_wp2
  go_ret
  have : q = false := by rw [← HQ.out]; simp [h1, h2]
  exact ⟨by rw [this]; rfl, (Below.refl _ W).alloc (Nat.le_refl _) _⟩
end Go.Proofs.Ythaiplhjekkooaa
