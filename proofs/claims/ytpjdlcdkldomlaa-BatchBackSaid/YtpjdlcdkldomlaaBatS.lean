/- Entries: how they lie in memory; CheckEntry. -/
import Derived.Test.YtpjdlcdkldomlaaBatN
namespace Go.Proofs.Ytpjdlcdkldomlaa
open Go.RowKit

structure En where
  key : List Int
  seq : Nat
  kind : Int
  val : List Int
deriving DecidableEq
def enChk (x : En) : Nat := if wrRight ⟨x.kind, x.key, x.val⟩ = false ∨ x.seq = 0 then 2 else if wrShort ⟨x.kind, x.key, x.val⟩ = false ∨ 72057594037927935 < x.seq then 3 else 0

/-- The four cells of an entry whose bytes lie below B, and not in block r. -/
def EnAt (w : World) (B : Nat) (r : Option Nat) (hs : List Value) (i : Nat) (x : En) : Prop :=
  ∃ A1 c1 A2 c2, hs[i * 4]? = some (Value.slice A1 x.key.length c1) ∧ hs[i * 4 + 1]? = some (Value.int .u64 x.seq) ∧ hs[i * 4 + 2]? = some (Value.int .i64 x.kind) ∧ hs[i * 4 + 3]? = some (Value.slice A2 x.val.length c2) ∧
    x.key.length ≤ c1 ∧ Rb w B A1 x.key ∧ x.val.length ≤ c2 ∧ Rb w B A2 x.val ∧ (x.key ≠ [] → ∀ a, A1 = some a → r ≠ some a.block) ∧ (x.val ≠ [] → ∀ a, A2 = some a → r ≠ some a.block)

set_option maxRecDepth 100000 in
theorem batCheckEntry {A1 A2 : Option Addr} {c1 c2 n1 n2 : Nat} (x : En) (w : World) (h1 : x.key.length = n1) (h2 : x.val.length = n2) :
    Calls Try.prog 11 #[enV A1 n1 c1 x.seq x.kind A2 n2 c2] w fun e w' => e = .returned (.int .i64 (enChk x)) ∧ Below w.heap.size w w' := by
  obtain ⟨r, hr⟩ : ∃ r, enChk x = r := ⟨_, rfl⟩
  rw [hr]
  have hright := fun W => batRight (A1 := A1) (A2 := A2) (c1 := c1) (c2 := c2) x.kind W ⟨x.kind, x.key, x.val⟩ rfl h1 h2
  have hlen := fun W => batLengths (A1 := A1) (A2 := A2) (c1 := c1) (c2 := c2) W ⟨x.kind, x.key, x.val⟩ h1 h2
  unfold enChk at hr
  obtain ⟨q, hq⟩ : ∃ q, wrRight ⟨x.kind, x.key, x.val⟩ = q := ⟨_, rfl⟩
  obtain ⟨q2, hq2⟩ : ∃ q2, wrShort ⟨x.kind, x.key, x.val⟩ = q2 := ⟨_, rfl⟩
  obtain ⟨s, hs⟩ : ∃ s, x.seq = s := ⟨_, rfl⟩
  obtain ⟨kd, hkd⟩ : ∃ kd, x.kind = kd := ⟨_, rfl⟩
  rw [hq] at hright hr
  rw [hq2] at hlen hr
  rw [hs] at hr ⊢
  rw [hkd] at hright ⊢
  have hb0 : Below w.heap.size w (w.alloc (.cells #[.slice A1 n1 c1, .int .u64 s, .int .i64 kd, .slice A2 n2 c2] 25)) := (Below.refl _ w).alloc (Nat.le_refl _) _
  have HB := Lib.hid hb0
  have HR := Lib.hid hr
  have HRI := fun W => Lib.hid (hright W)
  have HLE := fun W => Lib.hid (hlen W)
  clear hq hq2 hs hkd hright hlen hr hb0 h1 h2
  cases q with
  | false =>
    have hr := HR.out
    rw [if_pos (.inl rfl)] at hr
    subst hr
    go_enter Try.func11, Try.ntmps11
    go_wp2_with (first | (go_at_call 25; refine (HRI _).out.mono ?_; rintro e w1 ⟨rfl, rfl⟩) | fail)
    go_ret
    exact ⟨rfl, HB.out⟩
  | true =>
    by_cases hs0 : s = 0
    · subst hs0
      have hr := HR.out
      rw [if_pos (.inr rfl)] at hr
      subst hr
      go_enter Try.func11, Try.ntmps11
      go_wp2_with (first | (go_at_call 25; refine (HRI _).out.mono ?_; rintro e w1 ⟨rfl, rfl⟩) | fail)
      go_ret
      exact ⟨rfl, HB.out⟩
    have hsb : (((s : Nat) : Int) == 0) = false := by rw [beq_eq_false_iff_ne]; omega
    have hr := HR.out
    rw [if_neg (by simp [hs0])] at hr
    have HR := Lib.hid hr
    clear hr
    cases q2 with
    | false =>
      have hr := HR.out
      rw [if_pos (.inl rfl)] at hr
      subst hr
      go_enter Try.func11, Try.ntmps11
      go_wp2_with (first | (go_at_call 25; refine (HRI _).out.mono ?_; rintro e w1 ⟨rfl, rfl⟩) | (go_at_call 27; refine (HLE _).out.mono ?_; rintro e w1 ⟨rfl, rfl⟩) | fail)
      go_ret
      exact ⟨rfl, HB.out⟩
    | true =>
      by_cases hs1 : 72057594037927935 < s
      · have hs1' : (72057594037927935 : Int) < (s : Int) := by omega
        have hr := HR.out
        rw [if_pos (.inr hs1)] at hr
        subst hr
        go_enter Try.func11, Try.ntmps11
        go_wp2_with (first | (go_at_call 25; refine (HRI _).out.mono ?_; rintro e w1 ⟨rfl, rfl⟩) | (go_at_call 27; refine (HLE _).out.mono ?_; rintro e w1 ⟨rfl, rfl⟩) | fail)
        go_ret
        exact ⟨rfl, HB.out⟩
      · have hs1' : decide ((72057594037927935 : Int) < (s : Int)) = false := by simp; omega
        have hr := HR.out
        rw [if_neg (by simp; omega)] at hr
        subst hr
        go_enter Try.func11, Try.ntmps11
        go_wp2_with (first | (go_at_call 25; refine (HRI _).out.mono ?_; rintro e w1 ⟨rfl, rfl⟩) | (go_at_call 27; refine (HLE _).out.mono ?_; rintro e w1 ⟨rfl, rfl⟩) | fail)
        go_ret
        exact ⟨rfl, HB.out⟩
end Go.Proofs.Ytpjdlcdkldomlaa
