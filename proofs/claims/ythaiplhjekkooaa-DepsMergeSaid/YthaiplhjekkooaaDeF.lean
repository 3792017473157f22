/- deps: edges as keys of a map. -/
import Derived.Test.YthaiplhjekkooaaDeB
import Derived.Test.YthaiplhjekkooaaMgA
namespace Go.Proofs.Ythaiplhjekkooaa
open Go.RowKit Go.MapKept

structure Ek where
  b : Nat
  f : ByteArray
  t : ByteArray
deriving DecidableEq
abbrev ekA (e : Ek) : Array Value := #[.int .u64 e.b, .string e.f, .string e.t]
abbrev ekV (e : Ek) : Value := .agg (ekA e)
theorem eqEk (W : World) (x y : Ek) : (Op.equal 71 (ekV x) (ekV y)).run Try.prog W = .ok (decide (x = y)) W := by
  obtain ⟨xb, xf, xt⟩ := x
  obtain ⟨yb, yf, yt⟩ := y
  simp only [Ek.mk.injEq, ekV, ekA]
  rw [show Op.equal 71 (.agg #[.int .u64 xb, .string xf, .string xt]) (.agg #[.int .u64 yb, .string yf, .string yt]) = Op.equalIn 10000 71 (.agg #[.int .u64 xb, .string xf, .string xt]) (.agg #[.int .u64 yb, .string yf, .string yt]) from rfl]
  have s1 : (xf.toList == yf.toList) = decide (xf = yf) := strEq_of'
  have s2 : (xt.toList == yt.toList) = decide (xt = yt) := strEq_of'
  by_cases h1 : xb = yb
  · subst h1
    have e1 : ((xb : Int) == (xb : Int)) = true := by simp
    by_cases h2 : xf = yf
    · subst h2
      by_cases h3 : xt = yt
      · subst h3
        simp only [and_self, decide_true]
        go_simp
      · rw [decide_eq_false h3] at s2
        simp only [h3, and_false, decide_false]
        go_simp
    · rw [decide_eq_false h2] at s1
      simp only [h2, and_false, false_and, decide_false]
      go_simp
  · have e1 : ((xb : Int) == (yb : Int)) = false := by simp; omega
    simp only [h1, false_and, decide_false]
    go_simp
theorem chkEk (W : World) (em : Bool) (x : Ek) : (Instr.checkKey em 10000 71 (ekV x)).run Try.prog W = .ok () W := by
  have c1 : ∀ W', (Instr.checkKey em 9999 29 (.int .u64 x.b)).run Try.prog W' = .ok () W' := fun W' => MapKept.run_checkKey Try.underlying29 (by simp [IsKey]) em 9998
  have c2 : ∀ W', (Instr.checkKey em 9999 9 (.string x.f)).run Try.prog W' = .ok () W' := fun W' => MapKept.run_checkKey Try.underlying9 (by simp [IsKey]) em 9998
  have c3 : ∀ W', (Instr.checkKey em 9999 9 (.string x.t)).run Try.prog W' = .ok () W' := fun W' => MapKept.run_checkKey Try.underlying9 (by simp [IsKey]) em 9998
  unfold Instr.checkKey
  go_simp
theorem findAsk (W : World) (x : Ek) : ∀ (es : List MapEntry) (i : Nat), (∀ e ∈ es, ∃ y, e.key = ekV y) →
    ((Instr.findAsking 71 (ekV x) es i).run Try.prog W = .ok none W ∧ ∀ e ∈ es, e.key ≠ ekV x) ∨ ∃ j e, (Instr.findAsking 71 (ekV x) es i).run Try.prog W = .ok (some (i + j, e.val)) W ∧ es[j]? = some e ∧ e.key = ekV x
  | [], i, _ => .inl ⟨rfl, by simp⟩
  | e :: es, i, h => by
    obtain ⟨y, hy⟩ := h e (.head _)
    have hq := eqEk W x y
    by_cases hxy : x = y
    · refine .inr ⟨0, e, ?_, rfl, by rw [hy, hxy]⟩
      rw [decide_eq_true hxy] at hq
      simp [Instr.findAsking, hy, Sem.run_bind, hq, Result.andThen]
    · rw [decide_eq_false hxy] at hq
      have hne : e.key ≠ ekV x := fun e1 => hxy (by
        rw [hy] at e1
        obtain ⟨xb, xf, xt⟩ := x
        obtain ⟨yb, yf, yt⟩ := y
        simp at e1
        obtain ⟨h1, h2, h3⟩ := e1
        have h1 : xb = yb := by omega
        subst h1 h2 h3
        rfl)
      rcases findAsk W x es (i + 1) (fun z hz => h z (.tail _ hz)) with ⟨h1, h2⟩ | ⟨j, e', h1, h2, h3⟩
      · exact .inl ⟨by simp [Instr.findAsking, hy, Sem.run_bind, hq, Result.andThen, h1], fun z hz => by
          cases hz with
          | head => exact hne
          | tail _ hz => exact h2 z hz⟩
      · exact .inr ⟨j + 1, e', by simp [Instr.findAsking, hy, Sem.run_bind, hq, Result.andThen, h1]; omega, by simpa using h2, h3⟩
theorem ekRun : KeyRun Try.prog 71 ekV where
  inj {x y} h := by
    obtain ⟨xb, xf, xt⟩ := x
    obtain ⟨yb, yf, yt⟩ := y
    simp at h
    obtain ⟨h1, h2, h3⟩ := h
    have h1 : xb = yb := by omega
    subst h1 h2 h3
    rfl
  check W em x := chkEk W em x
  find W x es hes := by
    have hf : Instr.findKey 71 (ekV x) es = Instr.findKey 71 (ekV x) es := rfl
    have hk : ∀ fs, Instr.findNow (.struct fs) (ekV x) es 0 = if es = [] then some none else none := fun fs => by
      cases es with
      | nil => rfl
      | cons e es => rfl
    have hu := Try.underlying71
    have hrun : (Instr.findKey 71 (ekV x) es).run Try.prog W = (Instr.findAsking 71 (ekV x) es 0).run Try.prog W := by
      unfold Instr.findKey
      rw [Sem.run_bind, run_underlying hu]
      simp only [Result.andThen, hk]
      cases es with
      | nil => rfl
      | cons e es => rfl
    rcases findAsk W x es 0 hes with ⟨h1, h2⟩ | ⟨j, e, h1, h2, h3⟩
    · exact .inl ⟨hrun.trans h1, h2⟩
    · exact .inr ⟨j, e, by rw [hrun, h1, Nat.zero_add], h2, h3⟩
  stays W x := by
    have h : Instr.sameBits 10000 (ekV x) (ekV x) = true := by simp [Instr.sameBits, bytes_beq]
    unfold Instr.keyThatStays
    rw [h]
    rfl
end Go.Proofs.Ythaiplhjekkooaa
