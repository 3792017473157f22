/- Contracts of bootprintkit's small functions on bytes. -/
import Derived.Test.YtoflefonhegogaaProg
import Derived.Test.YtoflefonhegogaaLib
import Derived.Lib.SliceRun
namespace Go.Proofs.Ytoflefonhegogaa
open Go.RowKit

/-- The test of two lists of bytes, opaque to the walk. -/
def eqb (xs ys : List Int) : Bool := decide (xs = ys)
theorem eqb_true {xs ys : List Int} : eqb xs ys = true ↔ xs = ys := by simp [eqb]
theorem take_snoc {α : Type} {l : List α} {k : Nat} {x : α} (h : l[k]? = some x) : l.take (k + 1) = l.take k ++ [x] := by
  rw [List.take_add_one, h]; rfl

set_option maxHeartbeats 400000 in
theorem kitBytes {A A' : Option Addr} {c c' B B' n n' : Nat} {xs ys : List Int} (w : World) (ha : Rb w B A xs) (hb : Rb w B' A' ys) (hx : xs.length ≤ maxLen) (hy : ys.length ≤ maxLen) (hn : xs.length = n) (hn' : ys.length = n') :
    Calls Try.prog 10 #[.slice A n c, .slice A' n' c'] w fun e w' => e = .returned (.bool (eqb xs ys)) ∧ ∃ n, w' = w.drewN n := by
  subst hn hn'
  unfold maxLen at hx hy
  by_cases hl : xs.length = ys.length
  · have hlb : (((xs.length : Nat) : Int) != ((ys.length : Nat) : Int)) = false := by simp [hl]
    go_enter Try.func10, Try.ntmps10
    have HL := Lib.hid hl
    clear hl
    go_wp2
    go_loopw [5] (fun i wr => ∃ k : Nat, k ≤ xs.length ∧ i = .int .i64 k ∧ xs.take k = ys.take k ∧ ∃ n, wr = w.drewN n) (fun i _ => xs.length - (intOf i).toNat)
    case atStart => exact ⟨0, Nat.zero_le _, rfl, rfl, 0, rfl⟩
    case round =>
      obtain ⟨k, hk, rfl, ht, n, rfl⟩ := hrel
      have HT := Lib.hid ht
      clear ht
      by_cases hlt : k < xs.length
      · obtain ⟨b, o, x, hx1, rfl, hb1, hc1⟩ := ha.get hlt
        obtain ⟨b', o', y, hy1, rfl, hb2, hc2⟩ := hb.get (by rw [← HL.out]; exact hlt)
        have hlt' : k < ys.length := by rw [← HL.out]; exact hlt
        have X := Lib.hid hx1
        have Y := Lib.hid hy1
        clear hx1 hy1
        by_cases hxy : x = y
        · subst hxy
          go_wp2
          go_quiet (fail)
          go_wp2
          go_roundw
          case rel => exact ⟨k + 1, by omega, by go_num, by rw [take_snoc X.out, take_snoc Y.out, HT.out], _, rfl⟩
          case measure => simp [intOf]; omega
        · have hne : (x != y) = true := by simp [hxy]
          go_wp2
          go_quiet (fail)
          go_wp2
          go_ret
          refine ⟨?_, _, World.drewN_drewN _ _ _⟩
          have : eqb xs ys = false := by
            rw [eqb, decide_eq_false_iff_not]
            rintro rfl
            have := X.out.symm.trans Y.out
            injection this with this
            exact hxy this
          rw [this]; rfl
      · go_wp2
        go_ret
        refine ⟨?_, _, rfl⟩
        have : eqb xs ys = true := by
          rw [eqb_true]
          have h1 := HT.out
          rw [List.take_of_length_le (by omega), List.take_of_length_le (by have := HL.out; omega)] at h1
          exact h1
        rw [this]; rfl
  · have hlb : (((xs.length : Nat) : Int) != ((ys.length : Nat) : Int)) = true := by simp; omega
    have he : eqb xs ys = false := by
      rw [eqb, decide_eq_false_iff_not]
      rintro rfl
      exact hl rfl
    rw [he]
    go_enter Try.func10, Try.ntmps10
    go_wp2
    go_ret
    exact ⟨rfl, 0, rfl⟩

@[go_sem] theorem nil_eq_bytes (W : World) (a : Option Addr) (n c n' c' : Nat) : (binOp .eql 22 (.slice a n c) (.slice none n' c')).run Try.prog W = .ok (.bool a.isNone) W :=
  Lib.run_eql_slice_nil W _ _ a n c n' c' Try.underlying22
@[go_sem] theorem nil_ne_bytes (W : World) (a : Option Addr) (n c n' c' : Nat) : (binOp .neq 22 (.slice a n c) (.slice none n' c')).run Try.prog W = .ok (.bool (!a.isNone)) W :=
  run_neq_slice_nil_any W _ _ a n c n' c' Try.underlying22
theorem u8info : (Try.prog.info? 5).map (fun i => (i.zero, i.size, i.bytes)) = some (some (.int .u8 0), 1, 1) := by kernel_rfl

/-- append of bytes onto a row of the call's own. -/
theorem wpList_appb (w : World) {ops : Array Oper} {rest : List Oper} {o : Oper} {a : Act} {Q : Exit → Act → World → Prop} (hgd : o.guard = none) (s x : Operand)
    (ho : o.op = .call { callee := .builtin .append, args := #[s, x], argTypes := #[22, 22] })
    (base : Nat) (v : Value) (n : Nat) (xs : List Int) (hs : a.eval s = v) (hown : w.ownsRow base 5 1 v n (bv xs))
    (B : Nat) (A : Option Addr) (m c : Nat) (news : List Int) (hx : a.eval x = .slice A m c) (hl : news.length = m) (hr : Rb w B A news)
    (hbytes : n + m ≤ 140737488355328) (hbase : base ≤ w.heap.size)
    (h : ∀ A' c' w', App base 5 1 w v w' (.slice A' (n + m) c') (n + m) (bv (xs ++ news)) → (A' = none → v = .slice none 0 0 ∧ m = 0) → wpList Try.prog ops Q rest (a.put o.dst (.slice A' (n + m) c')) w') : wpList Try.prog ops Q (o :: rest) a w := by
  obtain ⟨i0, hi0, hz0, hz1, hz2⟩ := info_parts u8info
  refine wpList_app w hgd s x _ ho base 5 i0 _ 1 1 Try.underlying22 hi0 hz0 hz1 hz2 rfl (by omega) v n (bv xs) hs hown B A m c (bv news) hx (by rw [bv_length]; omega) hr (bv_one news) (by simp only [maxLen]; omega) (by omega) hbase ?_
  intro A' c' w' h1 h2 h3 h4
  rw [← bv_append] at h1
  exact h A' c' w' ((App.refl hown).step h1 h2 h3) h4

set_option maxHeartbeats 400000 in
/-- Own: the same bytes in a row that the call has made. -/
theorem kitOwn {A : Option Addr} {c B n : Nat} {xs : List Int} (w : World) (ha : Rb w B A xs) (hB : B ≤ w.heap.size) (hx : xs.length ≤ 140737488351232) (hn : xs.length = n) :
    Calls Try.prog 12 #[.slice A n c] w (RetNew 5 1 w n (bv xs) (· ≠ none)) := by
  subst hn
  go_enter Try.func12, Try.ntmps12
  go_wp2_with (at_builtin; go_loud (refine wpList_appb _ rfl (.tmp 3) (.tmp 4) rfl w.heap.size _ 0 [] rfl (World.ownsRow_lit w #[] 0 (Nat.le_refl _) (by simp [maxLen]) rfl) B A xs.length c xs rfl rfl (ha.alloc hB _) (by omega) (by simp) ?_))
  intro A' c' w' happ hne
  go_wp2
  go_ret
  exact ⟨A', c', rfl, happ.fresh1, hne⟩

set_option maxHeartbeats 400000 in
/-- bytes.Clone: nil of nil; else the same bytes in a row that the call has made. -/
theorem bytesClone {A : Option Addr} {c B n : Nat} {xs : List Int} (w : World) (ha : Rb w B A xs) (hB : B ≤ w.heap.size) (hx : xs.length ≤ 140737488351232) (hc : A = none → xs = [] ∧ c = 0) (hn : xs.length = n) :
    Calls Try.prog 37 #[.slice A n c] w (RetNew 5 1 w n (bv xs) (fun A' => A' = none → A = none)) := by
  subst hn
  cases A with
  | none =>
    obtain ⟨rfl, rfl⟩ := hc rfl
    go_enter Try.func37, Try.ntmps37
    go_wp2
    go_ret
    exact ⟨none, 0, rfl, App.refl (World.ownsRow_nil _ _ _ _), by simp⟩
  | some a =>
    go_enter Try.func37, Try.ntmps37
    go_wp2_with (at_builtin; go_loud (refine wpList_appb _ rfl (.tmp 5) (.tmp 6) rfl w.heap.size _ 0 [] rfl (World.ownsRow_lit w #[] 0 (Nat.le_refl _) (by simp [maxLen]) rfl) B _ xs.length c xs rfl rfl (ha.alloc hB _) (by omega) (by simp) ?_))
    intro A' c' w' happ hne
    go_wp2
    go_ret
    exact ⟨A', c', rfl, happ.fresh1, fun h => absurd h hne⟩

/-- Is a list of bytes below another one, in order? -/
def ltb : List Int → List Int → Bool
  | _, [] => false
  | [], _ :: _ => true
  | x :: xs, y :: ys => decide (x < y) || (decide (x = y) && ltb xs ys)
theorem ltb_str : ∀ {xs ys : List Int}, Byt xs → Byt ys → Op.bytesLess (strOfNums xs).toList (strOfNums ys).toList = ltb xs ys := by
  intro xs ys hx hy
  rw [ByteArray.toList_eq, ByteArray.toList_eq, strOfNums_data, strOfNums_data]
  induction xs generalizing ys with
  | nil => cases ys <;> rfl
  | cons x xs ih =>
    cases ys with
    | nil => rfl
    | cons y ys =>
      obtain ⟨a, b⟩ := hx x (by simp)
      obtain ⟨c, d⟩ := hy y (by simp)
      have h1 : (UInt8.ofNat x.toNat < UInt8.ofNat y.toNat) = (x < y) := by
        rw [UInt8.lt_iff_toNat_lt, UInt8.toNat_ofNat', UInt8.toNat_ofNat', Nat.mod_eq_of_lt (by omega), Nat.mod_eq_of_lt (by omega)]
        exact propext ⟨fun h => by omega, fun h => by omega⟩
      have h2 : (UInt8.ofNat x.toNat == UInt8.ofNat y.toNat) = decide (x = y) := by
        rw [Bool.eq_iff_iff, beq_iff_eq, decide_eq_true_iff]
        refine ⟨fun h => ?_, fun h => by rw [h]⟩
        have h := congrArg UInt8.toNat h
        rw [UInt8.toNat_ofNat', UInt8.toNat_ofNat', Nat.mod_eq_of_lt (by omega), Nat.mod_eq_of_lt (by omega)] at h
        omega
      simp only [List.map_cons, Op.bytesLess, ltb, h1, h2]
      rw [ih (fun z hz => hx z (by simp [hz])) (fun z hz => hy z (by simp [hz]))]

theorem kitBefore {A A' : Option Addr} {c c' B B' n n' : Nat} {xs ys : List Int} (w : World) (ha : Rb w B A xs) (hb : Rb w B' A' ys) (hx : Byt xs) (hy : Byt ys) (hn : xs.length = n) (hn' : ys.length = n') :
    Calls Try.prog 13 #[.slice A n c, .slice A' n' c'] w fun e w' => e = .returned (.bool (ltb xs ys)) ∧ w = w' := by
  subst hn hn'
  have h1 := ha.str Try.underlying22 Try.underlying5 Try.underlying9 c
  have h2 := hb.str Try.underlying22 Try.underlying5 Try.underlying9 c'
  have h3 := ltb_str hx hy
  go_enter Try.func13, Try.ntmps13
  go_wp2
  go_ret
  exact ⟨rfl, rfl⟩
end Go.Proofs.Ytoflefonhegogaa
