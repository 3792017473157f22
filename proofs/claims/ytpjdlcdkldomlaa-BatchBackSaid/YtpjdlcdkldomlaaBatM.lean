/- Writes that go together: plain words, and how they lie in memory. -/
import Derived.Deep.RegionHeld3
import Derived.Deep.AppendLies
import Derived.Test.YtpjdlcdkldomlaaWireNum
import Derived.Test.YtpjdlcdkldomlaaRdr4
namespace Go.Proofs.Ytpjdlcdkldomlaa
open Go.RowKit

structure Wr where
  kind : Int
  key : List Int
  val : List Int
deriving DecidableEq

def pieEnc (zs : List Int) : List Int := numEnc zs.length ++ zs
def wrEnc (x : Wr) : List Int := [x.kind % 256] ++ pieEnc x.key ++ (if x.kind = 1 then pieEnc x.val else [])
def wsEnc (ws : List Wr) : List Int := ws.flatMap wrEnc
def batEnc (seq : Nat) (ws : List Wr) : List Int := numEnc seq ++ numEnc ws.length ++ wsEnc ws
def wrRight (x : Wr) : Bool := decide (0 < x.key.length) && (decide (x.kind = 1) || (decide (x.kind = 2) && decide (x.val.length = 0)))
def wrShort (x : Wr) : Bool := decide (x.key.length ≤ 4096) && decide (x.val.length ≤ 65536)
def lastOf (seq n : Nat) : Nat := ((seq + n + 18446744073709551615) % 18446744073709551616)
/-- What Check tells. -/
def batChk (seq : Nat) (ws : List Wr) : Nat :=
  if ws = [] ∨ seq = 0 ∨ ws.any (fun x => !wrRight x) = true then 2
  else if ws.any (fun x => !wrShort x) = true ∨ 1024 < ws.length ∨ 72057594037927935 < lastOf seq ws.length ∨ lastOf seq ws.length < seq ∨ 1048576 < (batEnc seq ws).length then 3 else 0
theorem wsEnc_snoc (ws : List Wr) (x : Wr) : wsEnc (ws ++ [x]) = wsEnc ws ++ wrEnc x := by simp [wsEnc]
def BytW (x : Wr) : Prop := Byt x.key ∧ Byt x.val

/-- The writes lie from A on, three cells each. -/
def RbW (w : World) (B : Nat) (A : Option Addr) (ws : List Wr) : Prop :=
  ∃ hs : List Value, Rd w B A hs ∧ ∀ (i : Nat) (x : Wr), ws[i]? = some x → ∃ A1 c1 A2 c2, hs[i * 3]? = some (Value.int .i64 x.kind) ∧ hs[i * 3 + 1]? = some (Value.slice A1 x.key.length c1) ∧ hs[i * 3 + 2]? = some (Value.slice A2 x.val.length c2) ∧
    x.key.length ≤ c1 ∧ Rb w B A1 x.key ∧ x.val.length ≤ c2 ∧ Rb w B A2 x.val ∧ (A1 = none → c1 = 0) ∧ (A2 = none → c2 = 0)
theorem RbW.get {w : World} {B : Nat} {A : Option Addr} {ws : List Wr} (h : RbW w B A ws) {i : Nat} {x : Wr} (hi : ws[i]? = some x) :
    ∃ b o A1 c1 A2 c2, A = some ⟨b, o, none⟩ ∧ b < B ∧ w.cell? ⟨b, o + i * 3, none⟩ = some (.int .i64 x.kind) ∧ w.cell? ⟨b, o + i * 3 + 1, none⟩ = some (.slice A1 x.key.length c1) ∧ w.cell? ⟨b, o + i * 3 + 2, none⟩ = some (.slice A2 x.val.length c2) ∧
      x.key.length ≤ c1 ∧ Rb w B A1 x.key ∧ x.val.length ≤ c2 ∧ Rb w B A2 x.val ∧ (A1 = none → c1 = 0) ∧ (A2 = none → c2 = 0) := by
  obtain ⟨hs, hr, hh⟩ := h
  obtain ⟨A1, c1, A2, c2, h1, h2, h3, h4, h5, h6, h7⟩ := hh i x hi
  obtain ⟨b, o, e, hb, hc⟩ := hr.get h1
  subst e
  obtain ⟨b', o', e', _, hc'⟩ := hr.get h2
  obtain ⟨b'', o'', e'', _, hc''⟩ := hr.get h3
  cases e'
  cases e''
  exact ⟨b, o, A1, c1, A2, c2, rfl, hb, hc, hc', hc'', h4, h5, h6, h7⟩
theorem RbW.keep {w w' : World} {B : Nat} {A : Option Addr} {ws : List Wr} (h : RbW w B A ws) (hk : ∀ p : Addr, p.block < B → w'.cell? p = w.cell? p) : RbW w' B A ws := by
  obtain ⟨hs, hr, hh⟩ := h
  refine ⟨hs, hr.keep hk, fun i x hi => ?_⟩
  obtain ⟨A1, c1, A2, c2, h1, h2, h3, h4, h5, h6, h7⟩ := hh i x hi
  exact ⟨A1, c1, A2, c2, h1, h2, h3, h4, h5.keep hk, h6, h7.1.keep hk, h7.2⟩
theorem RbW.below {w w' : World} {B : Nat} {A : Option Addr} {ws : List Wr} (h : RbW w B A ws) (hb : Below B w w') : RbW w' B A ws := h.keep fun _ hp => hb.cell hp
theorem RbW.more {w : World} {B B' : Nat} {A : Option Addr} {ws : List Wr} (h : RbW w B A ws) (hB : B ≤ B') : RbW w B' A ws := by
  obtain ⟨hs, hr, hh⟩ := h
  refine ⟨hs, hr.more hB, fun i x hi => ?_⟩
  obtain ⟨A1, c1, A2, c2, h1, h2, h3, h4, h5, h6, h7⟩ := hh i x hi
  exact ⟨A1, c1, A2, c2, h1, h2, h3, h4, h5.more hB, h6, h7.1.more hB, h7.2⟩
theorem RbW.belowS {w w' : World} {A : Option Addr} {ws : List Wr} (h : RbW w w.heap.size A ws) (hb : Below w.heap.size w w') : RbW w' w'.heap.size A ws := (h.below hb).more hb.size

theorem batRight (kind : Int) {A1 A2 : Option Addr} {n1 c1 n2 c2 : Nat} (w : World) (x : Wr) (hk : x.kind = kind) (h1 : x.key.length = n1) (h2 : x.val.length = n2) :
    Calls Try.prog 25 #[.int .i64 kind, .slice A1 n1 c1, .slice A2 n2 c2] w fun e w' => e = .returned (.bool (wrRight x)) ∧ w' = w := by
  have hr : wrRight x = (decide (0 < n1) && (decide (kind = 1) || (decide (kind = 2) && decide (n2 = 0)))) := by rw [wrRight, h1, h2, hk]
  rw [hr]
  clear hr hk h1 h2
  have g1 : decide ((n1 : Int) > 0) = decide (0 < n1) := by simp
  have g2 : (((n2 : Nat) : Int) == 0) = decide (n2 = 0) := by rw [Bool.eq_iff_iff]; simp
  have g3 : (kind == 1) = decide (kind = 1) := by rw [Bool.eq_iff_iff]; simp
  have g4 : (kind == 2) = decide (kind = 2) := by rw [Bool.eq_iff_iff]; simp
  by_cases k1 : 0 < n1
  · have k1' : (0 : Int) < (n1 : Int) := by omega
    by_cases k2 : kind = 1
    · subst k2
      go_enter Try.func25, Try.ntmps25
      go_wp2
      go_ret
      exact ⟨by simp [k1], rfl⟩
    · have k2' : (kind == 1) = false := by simp [k2]
      by_cases k3 : kind = 2
      · subst k3
        by_cases k4 : n2 = 0
        · subst k4
          go_enter Try.func25, Try.ntmps25
          go_wp2
          go_ret
          exact ⟨by simp [k1], rfl⟩
        · have k4' : (((n2 : Nat) : Int) == 0) = false := by rw [beq_eq_false_iff_ne]; omega
          go_enter Try.func25, Try.ntmps25
          go_wp2
          go_ret
          exact ⟨by simp [k1, k4], rfl⟩
      · have k3' : (kind == 2) = false := by simp [k3]
        go_enter Try.func25, Try.ntmps25
        go_wp2
        go_ret
        exact ⟨by simp [k2, k3], rfl⟩
  · have k1' : decide ((0 : Int) < (n1 : Int)) = false := by simp; omega
    go_enter Try.func25, Try.ntmps25
    go_wp2
    go_ret
    exact ⟨by simp [k1], rfl⟩
theorem batLengths {A1 A2 : Option Addr} {n1 c1 n2 c2 : Nat} (w : World) (x : Wr) (h1 : x.key.length = n1) (h2 : x.val.length = n2) :
    Calls Try.prog 27 #[.slice A1 n1 c1, .slice A2 n2 c2] w fun e w' => e = .returned (.bool (wrShort x)) ∧ w' = w := by
  have hr : wrShort x = (decide (n1 ≤ 4096) && decide (n2 ≤ 65536)) := by rw [wrShort, h1, h2]
  rw [hr]
  clear hr h1 h2
  by_cases k1 : n1 ≤ 4096
  · have k1' : (n1 : Int) ≤ 4096 := by omega
    by_cases k2 : n2 ≤ 65536
    · have k2' : (n2 : Int) ≤ 65536 := by omega
      go_enter Try.func27, Try.ntmps27
      go_wp2
      go_ret
      exact ⟨by simp [k1, k2], rfl⟩
    · have k2' : decide ((n2 : Int) ≤ 65536) = false := by simp; omega
      go_enter Try.func27, Try.ntmps27
      go_wp2
      go_ret
      exact ⟨by simp [k1, k2], rfl⟩
  · have k1' : decide ((n1 : Int) ≤ 4096) = false := by simp; omega
    go_enter Try.func27, Try.ntmps27
    go_wp2
    go_ret
    exact ⟨by simp [k1], rfl⟩
end Go.Proofs.Ytpjdlcdkldomlaa
