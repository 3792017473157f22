/- Entries: Compare, CheckEntry. -/
import Derived.Test.YtpjdlcdkldomlaaBatE
namespace Go.Proofs.Ytpjdlcdkldomlaa
open Go.RowKit

def entCmp (ka : List Int) (sa : Nat) (kb : List Int) (sb : Nat) : Int := if cmpN ka kb ≠ 0 then cmpN ka kb else cmpI sb sa
/-- An entry's value, its bytes lying below block B. -/
abbrev enV (A1 : Option Addr) (n1 c1 : Nat) (seq : Nat) (kind : Int) (A2 : Option Addr) (n2 c2 : Nat) : Value := .agg #[.slice A1 n1 c1, .int .u64 seq, .int .i64 kind, .slice A2 n2 c2]

set_option maxRecDepth 100000 in
set_option maxHeartbeats 4000000 in
theorem batCompare {A1 A2 A3 A4 : Option Addr} {n1 c1 n2 c2 n3 c3 n4 c4 sa sb B : Nat} {kinda kindb : Int} {ka kb : List Int} (w : World) (ha : Rb w B A1 ka) (hb : Rb w B A3 kb) (ba : Byt ka) (bb : Byt kb) (h1 : ka.length = n1) (h3 : kb.length = n3) (hB : B ≤ w.heap.size) :
    Calls Try.prog 7 #[enV A1 n1 c1 sa kinda A2 n2 c2, enV A3 n3 c3 sb kindb A4 n4 c4] w fun e w' => e = .returned (.int .i64 (entCmp ka sa kb sb)) ∧ Below w.heap.size w w' := by
  have bA := (Bk.new w 25 #[.slice A1 n1 c1, .int .u64 sa, .int .i64 kinda, .slice A2 n2 c2]).alloc (.cells #[.slice A3 n3 c3, .int .u64 sb, .int .i64 kindb, .slice A4 n4 c4] 25)
  have bB := Bk.new (w.alloc (.cells #[.slice A1 n1 c1, .int .u64 sa, .int .i64 kinda, .slice A2 n2 c2] 25)) 25 #[.slice A3 n3 c3, .int .u64 sb, .int .i64 kindb, .slice A4 n4 c4]
  rw [World.size_alloc] at bB
  have ha2 : Rb ((w.alloc (.cells #[.slice A1 n1 c1, .int .u64 sa, .int .i64 kinda, .slice A2 n2 c2] 25)).alloc (.cells #[.slice A3 n3 c3, .int .u64 sb, .int .i64 kindb, .slice A4 n4 c4] 25)) B A1 ka := (ha.alloc hB _).alloc (by simp; omega) _
  have hb2 : Rb ((w.alloc (.cells #[.slice A1 n1 c1, .int .u64 sa, .int .i64 kinda, .slice A2 n2 c2] 25)).alloc (.cells #[.slice A3 n3 c3, .int .u64 sb, .int .i64 kindb, .slice A4 n4 c4] 25)) B A3 kb := (hb.alloc hB _).alloc (by simp; omega) _
  have hbel : Below w.heap.size w ((w.alloc (.cells #[.slice A1 n1 c1, .int .u64 sa, .int .i64 kinda, .slice A2 n2 c2] 25)).alloc (.cells #[.slice A3 n3 c3, .int .u64 sb, .int .i64 kindb, .slice A4 n4 c4] 25)) := ((Below.refl _ w).alloc (Nat.le_refl _) _).alloc (by simp) _
  obtain ⟨w1, hw1⟩ : ∃ w1, (w.alloc (.cells #[.slice A1 n1 c1, .int .u64 sa, .int .i64 kinda, .slice A2 n2 c2] 25)).alloc (.cells #[.slice A3 n3 c3, .int .u64 sb, .int .i64 kindb, .slice A4 n4 c4] 25) = w1 := ⟨_, rfl⟩
  have hs1 : w.heap.size ≤ w1.heap.size := by rw [← hw1]; simp; omega
  rw [hw1] at bA bB ha2 hb2 hbel
  have HW := Lib.hid hw1
  obtain ⟨x, hx⟩ : ∃ x, cmpN ka kb = x := ⟨_, rfl⟩
  obtain ⟨y, hy⟩ : ∃ y, cmpI sb sa = y := ⟨_, rfl⟩
  have hc1 := bytesCompare (c := c1) (c' := c3) w1.drew ha2 hb2 ba bb h1 h3
  have hc2 := cmpCompare sb sa w1.drew
  rw [entCmp]
  rw [hx] at hc1 ⊢
  rw [hy] at hc2 ⊢
  obtain ⟨r, hr⟩ : ∃ r, (if x ≠ 0 then x else y) = r := ⟨_, rfl⟩
  rw [hr]
  have HR := Lib.hid hr
  have k0 : w1.cell? ⟨w.heap.size, 0, none⟩ = some (.slice A1 n1 c1) := bA.cell 0
  have k1 : w1.cell? ⟨w.heap.size, 1, none⟩ = some (.int .u64 sa) := bA.cell 1
  have k2 : w1.cell? ⟨w.heap.size + 1, 0, none⟩ = some (.slice A3 n3 c3) := bB.cell 0
  have k3 : w1.cell? ⟨w.heap.size + 1, 1, none⟩ = some (.int .u64 sb) := bB.cell 1
  clear hw1 hx hy hr
  go_enter Try.func7, Try.ntmps7
  go_wp2_with fail
  rw [HW.out]
  go_region_held3 (fun w' => w'.cell? ⟨w.heap.size, 0, none⟩ = some (.slice A1 n1 c1) ∧ w'.cell? ⟨w.heap.size, 1, none⟩ = some (.int .u64 sa) ∧ w'.cell? ⟨w.heap.size + 1, 0, none⟩ = some (.slice A3 n3 c3) ∧ w'.cell? ⟨w.heap.size + 1, 1, none⟩ = some (.int .u64 sb))
    (go_keep)
    (first
      | (go_at_call 21; refine hc1.mono ?_; rintro e w' ⟨rfl, rfl⟩)
      | (go_at_call 22; refine hc2.mono ?_; rintro e w' ⟨rfl, rfl⟩)
      | (go_at_call 20
         refine (cmpOr2 x y w1.heap.size _ (Bk.new w1.drew _ _)).mono ?_
         rintro e w' ⟨rfl, rfl⟩
         rw [HR.out])
      | fail)
  all_goals go_wp2
  all_goals go_ret
  all_goals exact ⟨rfl, below_drew (hbel.alloc hs1 _)⟩
end Go.Proofs.Ytpjdlcdkldomlaa
