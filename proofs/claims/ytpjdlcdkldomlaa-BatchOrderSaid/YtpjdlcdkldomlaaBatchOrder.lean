/- The statement BatchOrder: the order of entries is one. The walk. -/
import Derived.Test.YtpjdlcdkldomlaaBatO
namespace Go.Proofs.Ytpjdlcdkldomlaa
open Go.RowKit

/-- Three entries in three blocks, and the bytes of their keys. -/
structure OM (w0 W : World) (B : Nat) (A1 A2 A3 A4 A5 A6 : Option Addr) (n1 c1 n2 c2 n3 c3 n4 c4 n5 c5 n6 c6 sa sb sc : Nat) (qa qb qc : Int) (ka kb kc : List Int) : Prop where
  a : Bk W B 25 #[.slice A1 n1 c1, .int .u64 sa, .int .i64 qa, .slice A2 n2 c2]
  b : Bk W (B + 1) 25 #[.slice A3 n3 c3, .int .u64 sb, .int .i64 qb, .slice A4 n4 c4]
  c : Bk W (B + 1 + 1) 25 #[.slice A5 n5 c5, .int .u64 sc, .int .i64 qc, .slice A6 n6 c6]
  ra : Rb W B A1 ka
  rb : Rb W B A3 kb
  rc : Rb W B A5 kc
  bel : Below B w0 W
  size : B + 3 ≤ W.heap.size
theorem OM.below {w0 W W' : World} {B : Nat} {A1 A2 A3 A4 A5 A6 : Option Addr} {n1 c1 n2 c2 n3 c3 n4 c4 n5 c5 n6 c6 sa sb sc : Nat} {qa qb qc : Int} {ka kb kc : List Int} (h : OM w0 W B A1 A2 A3 A4 A5 A6 n1 c1 n2 c2 n3 c3 n4 c4 n5 c5 n6 c6 sa sb sc qa qb qc ka kb kc) (hb : Below W.heap.size W W') : OM w0 W' B A1 A2 A3 A4 A5 A6 n1 c1 n2 c2 n3 c3 n4 c4 n5 c5 n6 c6 sa sb sc qa qb qc ka kb kc :=
  have hs := h.size
  ⟨h.a.below hb (by omega), h.b.below hb (by omega), h.c.below hb (by omega), h.ra.below (hb.mono (by omega)), h.rb.below (hb.mono (by omega)), h.rc.below (hb.mono (by omega)), h.bel.trans (hb.mono (by omega)), Nat.le_trans hs hb.size⟩
def OC (W : World) (B : Nat) (A1 A2 A3 A4 A5 A6 : Option Addr) (n1 c1 n2 c2 n3 c3 n4 c4 n5 c5 n6 c6 sa sb sc : Nat) (qa qb qc : Int) : Prop :=
  W.cell? ⟨B, 0, none⟩ = some (.slice A1 n1 c1) ∧ W.cell? ⟨B, 1, none⟩ = some (.int .u64 sa) ∧ W.cell? ⟨B, 2, none⟩ = some (.int .i64 qa) ∧ W.cell? ⟨B, 3, none⟩ = some (.slice A2 n2 c2) ∧
  W.cell? ⟨B + 1, 0, none⟩ = some (.slice A3 n3 c3) ∧ W.cell? ⟨B + 1, 1, none⟩ = some (.int .u64 sb) ∧ W.cell? ⟨B + 1, 2, none⟩ = some (.int .i64 qb) ∧ W.cell? ⟨B + 1, 3, none⟩ = some (.slice A4 n4 c4) ∧
  W.cell? ⟨B + 1 + 1, 0, none⟩ = some (.slice A5 n5 c5) ∧ W.cell? ⟨B + 1 + 1, 1, none⟩ = some (.int .u64 sc) ∧ W.cell? ⟨B + 1 + 1, 2, none⟩ = some (.int .i64 qc) ∧ W.cell? ⟨B + 1 + 1, 3, none⟩ = some (.slice A6 n6 c6)
theorem OM.cells {w0 W : World} {B : Nat} {A1 A2 A3 A4 A5 A6 : Option Addr} {n1 c1 n2 c2 n3 c3 n4 c4 n5 c5 n6 c6 sa sb sc : Nat} {qa qb qc : Int} {ka kb kc : List Int} (h : OM w0 W B A1 A2 A3 A4 A5 A6 n1 c1 n2 c2 n3 c3 n4 c4 n5 c5 n6 c6 sa sb sc qa qb qc ka kb kc) : OC W B A1 A2 A3 A4 A5 A6 n1 c1 n2 c2 n3 c3 n4 c4 n5 c5 n6 c6 sa sb sc qa qb qc :=
  ⟨h.a.cell 0, h.a.cell 1, h.a.cell 2, h.a.cell 3, h.b.cell 0, h.b.cell 1, h.b.cell 2, h.b.cell 3, h.c.cell 0, h.c.cell 1, h.c.cell 2, h.c.cell 3⟩

theorem ltb_self (p : List Int) : ltb p p = false := by induction p with | nil => rfl | cons x p ih => simp [ltb, ih]

set_option maxHeartbeats 8000000 in
set_option maxRecDepth 100000 in
theorem batchOrder_walk (A1 : Option Addr) (n1 c1 sa : Nat) (qa : Int) (A2 : Option Addr) (n2 c2 : Nat) (ka va : List Int) (A3 : Option Addr) (n3 c3 sb : Nat) (qb : Int) (A4 : Option Addr) (n4 c4 : Nat) (kb vb : List Int) (A5 : Option Addr) (n5 c5 sc : Nat) (qc : Int) (A6 : Option Addr) (n6 c6 : Nat) (kc vc : List Int) (w : World)
    (ha : InE w A1 n1 c1 sa qa A2 n2 c2 ka va) (hb : InE w A3 n3 c3 sb qb A4 n4 c4 kb vb) (hc : InE w A5 n5 c5 sc qc A6 n6 c6 kc vc) :
    Calls Try.prog 3 #[enV A1 n1 c1 sa qa A2 n2 c2, enV A3 n3 c3 sb qb A4 n4 c4, enV A5 n5 c5 sc qc A6 n6 c6] w fun e w' => e = .returned (.bool true) ∧ Below w.heap.size w w' := by
  have om0 : OM w (((w.alloc (.cells #[.slice A1 n1 c1, .int .u64 sa, .int .i64 qa, .slice A2 n2 c2] 25)).alloc (.cells #[.slice A3 n3 c3, .int .u64 sb, .int .i64 qb, .slice A4 n4 c4] 25)).alloc (.cells #[.slice A5 n5 c5, .int .u64 sc, .int .i64 qc, .slice A6 n6 c6] 25)) w.heap.size A1 A2 A3 A4 A5 A6 n1 c1 n2 c2 n3 c3 n4 c4 n5 c5 n6 c6 sa sb sc qa qb qc ka kb kc :=
    ⟨((Bk.new w _ _).alloc _).alloc _, by have h := (Bk.new (w.alloc (.cells #[.slice A1 n1 c1, .int .u64 sa, .int .i64 qa, .slice A2 n2 c2] 25)) 25 #[.slice A3 n3 c3, .int .u64 sb, .int .i64 qb, .slice A4 n4 c4]).alloc (.cells #[.slice A5 n5 c5, .int .u64 sc, .int .i64 qc, .slice A6 n6 c6] 25); simpa using h,
     by have h := (Bk.new ((w.alloc (.cells #[.slice A1 n1 c1, .int .u64 sa, .int .i64 qa, .slice A2 n2 c2] 25)).alloc (.cells #[.slice A3 n3 c3, .int .u64 sb, .int .i64 qb, .slice A4 n4 c4] 25)) 25 #[.slice A5 n5 c5, .int .u64 sc, .int .i64 qc, .slice A6 n6 c6]); simpa using h,
     Rd.alloc (Rd.alloc (Rd.alloc ha.key.rd (Nat.le_refl _) _) (by simp) _) (by simp; omega) _, Rd.alloc (Rd.alloc (Rd.alloc hb.key.rd (Nat.le_refl _) _) (by simp) _) (by simp; omega) _, Rd.alloc (Rd.alloc (Rd.alloc hc.key.rd (Nat.le_refl _) _) (by simp) _) (by simp; omega) _,
     (((Below.refl _ w).alloc (Nat.le_refl _) _).alloc (by simp) _).alloc (by simp; omega) _, by simp⟩
  obtain ⟨W0, hW0⟩ : ∃ W0, (((w.alloc (.cells #[.slice A1 n1 c1, .int .u64 sa, .int .i64 qa, .slice A2 n2 c2] 25)).alloc (.cells #[.slice A3 n3 c3, .int .u64 sb, .int .i64 qb, .slice A4 n4 c4] 25)).alloc (.cells #[.slice A5 n5 c5, .int .u64 sc, .int .i64 qc, .slice A6 n6 c6] 25)) = W0 := ⟨_, rfl⟩
  rw [hW0] at om0
  have HW := Lib.hid hW0
  clear hW0
  have hcmp : ∀ (W : World), OM w W w.heap.size A1 A2 A3 A4 A5 A6 n1 c1 n2 c2 n3 c3 n4 c4 n5 c5 n6 c6 sa sb sc qa qb qc ka kb kc →
      (Calls Try.prog 7 #[enV A1 n1 c1 sa qa A2 n2 c2, enV A3 n3 c3 sb qb A4 n4 c4] W fun e w' => e = .returned (.int .i64 (entCmp ka sa kb sb)) ∧ Below W.heap.size W w') ∧
      (Calls Try.prog 7 #[enV A3 n3 c3 sb qb A4 n4 c4, enV A5 n5 c5 sc qc A6 n6 c6] W fun e w' => e = .returned (.int .i64 (entCmp kb sb kc sc)) ∧ Below W.heap.size W w') ∧
      (Calls Try.prog 7 #[enV A1 n1 c1 sa qa A2 n2 c2, enV A5 n5 c5 sc qc A6 n6 c6] W fun e w' => e = .returned (.int .i64 (entCmp ka sa kc sc)) ∧ Below W.heap.size W w') ∧
      (Calls Try.prog 7 #[enV A3 n3 c3 sb qb A4 n4 c4, enV A1 n1 c1 sa qa A2 n2 c2] W fun e w' => e = .returned (.int .i64 (- entCmp ka sa kb sb)) ∧ Below W.heap.size W w') ∧
      (Calls Try.prog 8 #[.slice A1 n1 c1, .slice A3 n3 c3] W fun e w' => e = .returned (.bool (eqb ka kb)) ∧ Below W.heap.size W w') ∧
      (Calls Try.prog 9 #[.slice A1 n1 c1, .slice A3 n3 c3] W fun e w' => e = .returned (.bool (ltb ka kb)) ∧ Below W.heap.size W w') := fun W h => by
    have hs := h.size
    refine ⟨batCompare W h.ra h.rb ha.key.byt hb.key.byt ha.key.len hb.key.len (by omega), batCompare W h.rb h.rc hb.key.byt hc.key.byt hb.key.len hc.key.len (by omega), batCompare W h.ra h.rc ha.key.byt hc.key.byt ha.key.len hc.key.len (by omega), ?_, ?_, ?_⟩
    · rw [← entCmp_neg]
      exact batCompare W h.rb h.ra hb.key.byt ha.key.byt hb.key.len ha.key.len (by omega)
    · refine (kitBytes W h.ra h.rb (by have := ha.key.len; have := ha.key.cap; have := ha.key.max; omega) (by have := hb.key.len; have := hb.key.cap; have := hb.key.max; omega) ha.key.len hb.key.len).mono ?_
      rintro e w' ⟨rfl, n, rfl⟩
      exact ⟨rfl, below_drewN (Below.refl _ W) n⟩
    · refine (kitBefore W h.ra h.rb ha.key.byt hb.key.byt ha.key.len hb.key.len).mono ?_
      rintro e w' ⟨rfl, rfl⟩
      exact ⟨rfl, Below.refl _ W⟩
  have HC := fun W h => Lib.hid (hcmp W h)
  have hlaw := entCmp_cases ka kb sa sb
  have hle := entCmp_le ka kb kc sa sb sc
  have hge := entCmp_ge ka kb kc sa sb sc
  obtain ⟨x, hx⟩ : ∃ x, entCmp ka sa kb sb = x := ⟨_, rfl⟩
  obtain ⟨y, hy⟩ : ∃ y, entCmp kb sb kc sc = y := ⟨_, rfl⟩
  obtain ⟨z, hz⟩ : ∃ z, entCmp ka sa kc sc = z := ⟨_, rfl⟩
  rw [hx] at HC hlaw hle hge
  rw [hy] at HC hle hge
  rw [hz] at HC hle hge
  obtain ⟨q, hq⟩ : ∃ q, eqb ka kb = q := ⟨_, rfl⟩
  obtain ⟨l, hl⟩ : ∃ l, ltb ka kb = l := ⟨_, rfl⟩
  have hqk : q = decide (ka = kb) := by rw [← hq]; rfl
  have hlk : ka = kb → l = false := fun e => by rw [← hl, e]; exact ltb_self kb
  rw [hq] at HC
  rw [hl] at HC hlaw
  obtain ⟨L, hL⟩ : ∃ L, IntKind.i64.wrap (IntKind.i64.wrap ((n1 : Int) + (n3 : Int)) + (n5 : Int)) = L := ⟨_, rfl⟩
  clear hx hy hz hq hl hcmp ha hb hc
  go_enter Try.func3, Try.ntmps3
  go_wp2_with fail
  rw [HW.out]
  refine (lives_true W0).mono ?_
  rintro e w1 ⟨rfl, hb1⟩
  have om1 := om0.below hb1
  obtain ⟨k0, k1, k2, k3, k4, k5, k6, k7, k8, k9, k10, k11⟩ := om1.cells
  have om1d : OM w w1.drew w.heap.size A1 A2 A3 A4 A5 A6 n1 c1 n2 c2 n3 c3 n4 c4 n5 c5 n6 c6 sa sb sc qa qb qc ka kb kc := ⟨om1.a, om1.b, om1.c, om1.ra, om1.rb, om1.rc, om1.bel.drew, om1.size⟩
  clear hb1
  go_wp2_with fail
  · go_ret
    exact ⟨rfl, om1.bel⟩
  · go_region_held3 (fun w' => w'.cell? ⟨w.heap.size, 0, none⟩ = some (.slice A1 n1 c1) ∧ w'.cell? ⟨w.heap.size, 1, none⟩ = some (.int .u64 sa) ∧ w'.cell? ⟨w.heap.size, 2, none⟩ = some (.int .i64 qa) ∧ w'.cell? ⟨w.heap.size, 3, none⟩ = some (.slice A2 n2 c2) ∧ w'.cell? ⟨w.heap.size + 1, 0, none⟩ = some (.slice A3 n3 c3) ∧ w'.cell? ⟨w.heap.size + 1, 1, none⟩ = some (.int .u64 sb) ∧ w'.cell? ⟨w.heap.size + 1, 2, none⟩ = some (.int .i64 qb) ∧ w'.cell? ⟨w.heap.size + 1, 3, none⟩ = some (.slice A4 n4 c4) ∧ w'.cell? ⟨w.heap.size + 1 + 1, 0, none⟩ = some (.slice A5 n5 c5) ∧ w'.cell? ⟨w.heap.size + 1 + 1, 1, none⟩ = some (.int .u64 sc) ∧ w'.cell? ⟨w.heap.size + 1 + 1, 2, none⟩ = some (.int .i64 qc) ∧ w'.cell? ⟨w.heap.size + 1 + 1, 3, none⟩ = some (.slice A6 n6 c6))
      (go_keep)
      (first
        | (go_at_call_of 7 (Value.agg #[.slice A1 n1 c1, .int .u64 sa, .int .i64 qa, .slice A2 n2 c2])
           go_at_call_of 7 (Value.agg #[.slice A3 n3 c3, .int .u64 sb, .int .i64 qb, .slice A4 n4 c4])
           refine (HC w1.drew om1d).out.1.mono ?_
           rintro e w2 ⟨rfl, hb2⟩
           have om2 := om1d.below hb2
           obtain ⟨k0', k1', k2', k3', k4', k5', k6', k7', k8', k9', k10', k11'⟩ := om2.cells)
        | (go_at_call_of 7 (Value.agg #[.slice A3 n3 c3, .int .u64 sb, .int .i64 qb, .slice A4 n4 c4])
           go_at_call_of 7 (Value.agg #[.slice A5 n5 c5, .int .u64 sc, .int .i64 qc, .slice A6 n6 c6])
           refine (HC w2 om2).out.2.1.mono ?_
           rintro e w3 ⟨rfl, hb3⟩
           have om3 := om2.below hb3
           obtain ⟨k0'', k1'', k2'', k3'', k4'', k5'', k6'', k7'', k8'', k9'', k10'', k11''⟩ := om3.cells)
        | (go_at_call_of 7 (Value.agg #[.slice A1 n1 c1, .int .u64 sa, .int .i64 qa, .slice A2 n2 c2])
           go_at_call_of 7 (Value.agg #[.slice A5 n5 c5, .int .u64 sc, .int .i64 qc, .slice A6 n6 c6])
           refine (HC w3 om3).out.2.2.1.mono ?_
           rintro e w4 ⟨rfl, hb4⟩
           have om4 := om3.below hb4
           obtain ⟨k0'', k1'', k2'', k3'', k4'', k5'', k6'', k7'', k8'', k9'', k10'', k11''⟩ := om4.cells)
        | fail)
    clear k0 k1 k2 k3 k4 k5 k6 k7 k8 k9 k10 k11 k0' k1' k2' k3' k4' k5' k6' k7' k8' k9' k10' k11' hb2 hb3 om0 om1 om1d om2 om3
    have cs : ∃ (xy : Bool), (x = 0 ∧ q = true ∧ l = false ∧ sa = sb) ∨ (x = -1 ∧ q = false ∧ l = true) ∨ (x = -1 ∧ q = true ∧ l = false ∧ sb < sa) ∨ (x = 1 ∧ q = false ∧ l = false) ∨ (x = 1 ∧ q = true ∧ l = false ∧ sa < sb) := by
      refine ⟨true, ?_⟩
      rcases hlaw with ⟨e, e1, e2⟩ | ⟨e, e1, e2⟩ | ⟨e, e1, e2⟩ | ⟨e, e1, e2⟩ | ⟨e, e1, e2⟩
      · exact .inl ⟨e, by rw [hqk]; simpa using e1, hlk e1, e2⟩
      · exact .inr (.inl ⟨e, by rw [hqk]; simpa using e2, e1⟩)
      · exact .inr (.inr (.inl ⟨e, by rw [hqk]; simpa using e1, hlk e1, e2⟩))
      · exact .inr (.inr (.inr (.inl ⟨e, by rw [hqk]; simpa using e2, e1⟩)))
      · exact .inr (.inr (.inr (.inr ⟨e, by rw [hqk]; simpa using e1, hlk e1, e2⟩)))
    clear hlaw hqk hlk
    obtain ⟨-, ⟨rfl, rfl, rfl, rfl⟩ | ⟨rfl, rfl, rfl⟩ | ⟨rfl, rfl, rfl, hs⟩ | ⟨rfl, rfl, rfl⟩ | ⟨rfl, rfl, rfl, hs⟩⟩ := cs
    · have hy0 : y < 0 ∨ y = 0 ∨ 0 < y := by omega
      have hself : ((sa : Int) == (sa : Int)) = true := by simp
      rcases hy0 with hy | rfl | hy
      · have h1 : y ≤ 0 := by omega
        have h2 : decide (0 < z) = false := by simpa using hle (by omega) h1
        have h3 : decide (0 ≤ y) = false := by simpa using hy
        go_wp2_with (first
            | (go_at_call 7
               refine (HC w4 om4).out.2.2.2.1.mono ?_
               rintro e w5 ⟨rfl, hb5⟩
               have om5 := om4.below hb5
               obtain ⟨l0, l1, l2, l3, l4, l5, l6, l7, -⟩ := om5.cells)
            | (go_at_call 8
               refine (HC w7 om7).out.2.2.2.2.1.mono ?_
               rintro e w8 ⟨rfl, hb8⟩
               have om8 := om7.below hb8
               obtain ⟨o0, o1, o2, o3, o4, o5, o6, o7, -⟩ := om8.cells)
            | (go_at_call 8
               refine (HC w5 om5).out.2.2.2.2.1.mono ?_
               rintro e w6 ⟨rfl, hb6⟩
               have om6 := om5.below hb6
               obtain ⟨m0, m1, m2, m3, m4, m5, m6, m7, -⟩ := om6.cells)
            | (go_at_call 9
               refine (HC w6 om6).out.2.2.2.2.2.mono ?_
               rintro e w7 ⟨rfl, hb7⟩
               have om7 := om6.below hb7
               obtain ⟨n0, n1', n2', n3', n4', n5', n6', n7, -⟩ := om7.cells)
            | fail)
        go_ret
        exact ⟨rfl, OM.bel (by first | exact om8 | exact om7)⟩
      · have h2 : decide (0 < z) = false := by simpa using hle (by omega) (by omega)
        have h3 : decide (z < 0) = false := by simpa using hge (by omega) (by omega)
        go_wp2_with (first
            | (go_at_call 7
               refine (HC w4 om4).out.2.2.2.1.mono ?_
               rintro e w5 ⟨rfl, hb5⟩
               have om5 := om4.below hb5
               obtain ⟨l0, l1, l2, l3, l4, l5, l6, l7, -⟩ := om5.cells)
            | (go_at_call 8
               refine (HC w7 om7).out.2.2.2.2.1.mono ?_
               rintro e w8 ⟨rfl, hb8⟩
               have om8 := om7.below hb8
               obtain ⟨o0, o1, o2, o3, o4, o5, o6, o7, -⟩ := om8.cells)
            | (go_at_call 8
               refine (HC w5 om5).out.2.2.2.2.1.mono ?_
               rintro e w6 ⟨rfl, hb6⟩
               have om6 := om5.below hb6
               obtain ⟨m0, m1, m2, m3, m4, m5, m6, m7, -⟩ := om6.cells)
            | (go_at_call 9
               refine (HC w6 om6).out.2.2.2.2.2.mono ?_
               rintro e w7 ⟨rfl, hb7⟩
               have om7 := om6.below hb7
               obtain ⟨n0, n1', n2', n3', n4', n5', n6', n7, -⟩ := om7.cells)
            | fail)
        go_ret
        exact ⟨rfl, OM.bel (by first | exact om8 | exact om7)⟩
      · have h1 : decide (y ≤ 0) = false := by simpa using hy
        have h2 : decide (z < 0) = false := by simpa using hge (by omega) (by omega)
        have h3 : 0 ≤ y := by omega
        go_wp2_with (first
            | (go_at_call 7
               refine (HC w4 om4).out.2.2.2.1.mono ?_
               rintro e w5 ⟨rfl, hb5⟩
               have om5 := om4.below hb5
               obtain ⟨l0, l1, l2, l3, l4, l5, l6, l7, -⟩ := om5.cells)
            | (go_at_call 8
               refine (HC w7 om7).out.2.2.2.2.1.mono ?_
               rintro e w8 ⟨rfl, hb8⟩
               have om8 := om7.below hb8
               obtain ⟨o0, o1, o2, o3, o4, o5, o6, o7, -⟩ := om8.cells)
            | (go_at_call 8
               refine (HC w5 om5).out.2.2.2.2.1.mono ?_
               rintro e w6 ⟨rfl, hb6⟩
               have om6 := om5.below hb6
               obtain ⟨m0, m1, m2, m3, m4, m5, m6, m7, -⟩ := om6.cells)
            | (go_at_call 9
               refine (HC w6 om6).out.2.2.2.2.2.mono ?_
               rintro e w7 ⟨rfl, hb7⟩
               have om7 := om6.below hb7
               obtain ⟨n0, n1', n2', n3', n4', n5', n6', n7, -⟩ := om7.cells)
            | fail)
        go_ret
        exact ⟨rfl, OM.bel (by first | exact om8 | exact om7)⟩
    · clear HW
      by_cases hy : y ≤ 0
      · have h2 : decide (0 < z) = false := by simpa using hle (by omega) hy
        go_wp2_with (first
            | (go_at_call 7
               refine (HC w4 om4).out.2.2.2.1.mono ?_
               rintro e w5 ⟨rfl, hb5⟩
               have om5 := om4.below hb5
               obtain ⟨l0, l1, l2, l3, l4, l5, l6, l7, -⟩ := om5.cells)
            | (go_at_call 8
               refine (HC w7 om7).out.2.2.2.2.1.mono ?_
               rintro e w8 ⟨rfl, hb8⟩
               have om8 := om7.below hb8
               obtain ⟨o0, o1, o2, o3, o4, o5, o6, o7, -⟩ := om8.cells)
            | (go_at_call 8
               refine (HC w5 om5).out.2.2.2.2.1.mono ?_
               rintro e w6 ⟨rfl, hb6⟩
               have om6 := om5.below hb6
               obtain ⟨m0, m1, m2, m3, m4, m5, m6, m7, -⟩ := om6.cells)
            | (go_at_call 9
               refine (HC w6 om6).out.2.2.2.2.2.mono ?_
               rintro e w7 ⟨rfl, hb7⟩
               have om7 := om6.below hb7
               obtain ⟨n0, n1', n2', n3', n4', n5', n6', n7, -⟩ := om7.cells)
            | fail)
        go_ret
        exact ⟨rfl, OM.bel (by first | exact om8 | exact om7)⟩
      · have h1 : decide (y ≤ 0) = false := by simpa using hy
        go_wp2_with (first
            | (go_at_call 7
               refine (HC w4 om4).out.2.2.2.1.mono ?_
               rintro e w5 ⟨rfl, hb5⟩
               have om5 := om4.below hb5
               obtain ⟨l0, l1, l2, l3, l4, l5, l6, l7, -⟩ := om5.cells)
            | (go_at_call 8
               refine (HC w7 om7).out.2.2.2.2.1.mono ?_
               rintro e w8 ⟨rfl, hb8⟩
               have om8 := om7.below hb8
               obtain ⟨o0, o1, o2, o3, o4, o5, o6, o7, -⟩ := om8.cells)
            | (go_at_call 8
               refine (HC w5 om5).out.2.2.2.2.1.mono ?_
               rintro e w6 ⟨rfl, hb6⟩
               have om6 := om5.below hb6
               obtain ⟨m0, m1, m2, m3, m4, m5, m6, m7, -⟩ := om6.cells)
            | (go_at_call 9
               refine (HC w6 om6).out.2.2.2.2.2.mono ?_
               rintro e w7 ⟨rfl, hb7⟩
               have om7 := om6.below hb7
               obtain ⟨n0, n1', n2', n3', n4', n5', n6', n7, -⟩ := om7.cells)
            | fail)
        go_ret
        exact ⟨rfl, OM.bel (by first | exact om8 | exact om7)⟩
    · have hs1 : ((sa : Int) == (sb : Int)) = false := by rw [beq_eq_false_iff_ne]; omega
      have hs2 : decide ((sa : Int) ≤ (sb : Int)) = false := by simp; omega
      by_cases hy : y ≤ 0
      · have h2 : decide (0 < z) = false := by simpa using hle (by omega) hy
        go_wp2_with (first
            | (go_at_call 7
               refine (HC w4 om4).out.2.2.2.1.mono ?_
               rintro e w5 ⟨rfl, hb5⟩
               have om5 := om4.below hb5
               obtain ⟨l0, l1, l2, l3, l4, l5, l6, l7, -⟩ := om5.cells)
            | (go_at_call 8
               refine (HC w7 om7).out.2.2.2.2.1.mono ?_
               rintro e w8 ⟨rfl, hb8⟩
               have om8 := om7.below hb8
               obtain ⟨o0, o1, o2, o3, o4, o5, o6, o7, -⟩ := om8.cells)
            | (go_at_call 8
               refine (HC w5 om5).out.2.2.2.2.1.mono ?_
               rintro e w6 ⟨rfl, hb6⟩
               have om6 := om5.below hb6
               obtain ⟨m0, m1, m2, m3, m4, m5, m6, m7, -⟩ := om6.cells)
            | (go_at_call 9
               refine (HC w6 om6).out.2.2.2.2.2.mono ?_
               rintro e w7 ⟨rfl, hb7⟩
               have om7 := om6.below hb7
               obtain ⟨n0, n1', n2', n3', n4', n5', n6', n7, -⟩ := om7.cells)
            | fail)
        go_ret
        exact ⟨rfl, OM.bel (by first | exact om8 | exact om7)⟩
      · have h1 : decide (y ≤ 0) = false := by simpa using hy
        go_wp2_with (first
            | (go_at_call 7
               refine (HC w4 om4).out.2.2.2.1.mono ?_
               rintro e w5 ⟨rfl, hb5⟩
               have om5 := om4.below hb5
               obtain ⟨l0, l1, l2, l3, l4, l5, l6, l7, -⟩ := om5.cells)
            | (go_at_call 8
               refine (HC w7 om7).out.2.2.2.2.1.mono ?_
               rintro e w8 ⟨rfl, hb8⟩
               have om8 := om7.below hb8
               obtain ⟨o0, o1, o2, o3, o4, o5, o6, o7, -⟩ := om8.cells)
            | (go_at_call 8
               refine (HC w5 om5).out.2.2.2.2.1.mono ?_
               rintro e w6 ⟨rfl, hb6⟩
               have om6 := om5.below hb6
               obtain ⟨m0, m1, m2, m3, m4, m5, m6, m7, -⟩ := om6.cells)
            | (go_at_call 9
               refine (HC w6 om6).out.2.2.2.2.2.mono ?_
               rintro e w7 ⟨rfl, hb7⟩
               have om7 := om6.below hb7
               obtain ⟨n0, n1', n2', n3', n4', n5', n6', n7, -⟩ := om7.cells)
            | fail)
        go_ret
        exact ⟨rfl, OM.bel (by first | exact om8 | exact om7)⟩
    · clear HW
      by_cases hy : 0 ≤ y
      · have h2 : decide (z < 0) = false := by simpa using hge (by omega) hy
        go_wp2_with (first
            | (go_at_call 7
               refine (HC w4 om4).out.2.2.2.1.mono ?_
               rintro e w5 ⟨rfl, hb5⟩
               have om5 := om4.below hb5
               obtain ⟨l0, l1, l2, l3, l4, l5, l6, l7, -⟩ := om5.cells)
            | (go_at_call 8
               refine (HC w7 om7).out.2.2.2.2.1.mono ?_
               rintro e w8 ⟨rfl, hb8⟩
               have om8 := om7.below hb8
               obtain ⟨o0, o1, o2, o3, o4, o5, o6, o7, -⟩ := om8.cells)
            | (go_at_call 8
               refine (HC w5 om5).out.2.2.2.2.1.mono ?_
               rintro e w6 ⟨rfl, hb6⟩
               have om6 := om5.below hb6
               obtain ⟨m0, m1, m2, m3, m4, m5, m6, m7, -⟩ := om6.cells)
            | (go_at_call 9
               refine (HC w6 om6).out.2.2.2.2.2.mono ?_
               rintro e w7 ⟨rfl, hb7⟩
               have om7 := om6.below hb7
               obtain ⟨n0, n1', n2', n3', n4', n5', n6', n7, -⟩ := om7.cells)
            | fail)
        go_ret
        exact ⟨rfl, OM.bel (by first | exact om8 | exact om7)⟩
      · have h1 : decide (0 ≤ y) = false := by simpa using hy
        go_wp2_with (first
            | (go_at_call 7
               refine (HC w4 om4).out.2.2.2.1.mono ?_
               rintro e w5 ⟨rfl, hb5⟩
               have om5 := om4.below hb5
               obtain ⟨l0, l1, l2, l3, l4, l5, l6, l7, -⟩ := om5.cells)
            | (go_at_call 8
               refine (HC w7 om7).out.2.2.2.2.1.mono ?_
               rintro e w8 ⟨rfl, hb8⟩
               have om8 := om7.below hb8
               obtain ⟨o0, o1, o2, o3, o4, o5, o6, o7, -⟩ := om8.cells)
            | (go_at_call 8
               refine (HC w5 om5).out.2.2.2.2.1.mono ?_
               rintro e w6 ⟨rfl, hb6⟩
               have om6 := om5.below hb6
               obtain ⟨m0, m1, m2, m3, m4, m5, m6, m7, -⟩ := om6.cells)
            | (go_at_call 9
               refine (HC w6 om6).out.2.2.2.2.2.mono ?_
               rintro e w7 ⟨rfl, hb7⟩
               have om7 := om6.below hb7
               obtain ⟨n0, n1', n2', n3', n4', n5', n6', n7, -⟩ := om7.cells)
            | fail)
        go_ret
        exact ⟨rfl, OM.bel (by first | exact om8 | exact om7)⟩
    · have hs1 : ((sa : Int) == (sb : Int)) = false := by rw [beq_eq_false_iff_ne]; omega
      have hs2 : (sa : Int) ≤ (sb : Int) := by omega
      by_cases hy : 0 ≤ y
      · have h2 : decide (z < 0) = false := by simpa using hge (by omega) hy
        go_wp2_with (first
            | (go_at_call 7
               refine (HC w4 om4).out.2.2.2.1.mono ?_
               rintro e w5 ⟨rfl, hb5⟩
               have om5 := om4.below hb5
               obtain ⟨l0, l1, l2, l3, l4, l5, l6, l7, -⟩ := om5.cells)
            | (go_at_call 8
               refine (HC w7 om7).out.2.2.2.2.1.mono ?_
               rintro e w8 ⟨rfl, hb8⟩
               have om8 := om7.below hb8
               obtain ⟨o0, o1, o2, o3, o4, o5, o6, o7, -⟩ := om8.cells)
            | (go_at_call 8
               refine (HC w5 om5).out.2.2.2.2.1.mono ?_
               rintro e w6 ⟨rfl, hb6⟩
               have om6 := om5.below hb6
               obtain ⟨m0, m1, m2, m3, m4, m5, m6, m7, -⟩ := om6.cells)
            | (go_at_call 9
               refine (HC w6 om6).out.2.2.2.2.2.mono ?_
               rintro e w7 ⟨rfl, hb7⟩
               have om7 := om6.below hb7
               obtain ⟨n0, n1', n2', n3', n4', n5', n6', n7, -⟩ := om7.cells)
            | fail)
        go_ret
        exact ⟨rfl, OM.bel (by first | exact om8 | exact om7)⟩
      · have h1 : decide (0 ≤ y) = false := by simpa using hy
        go_wp2_with (first
            | (go_at_call 7
               refine (HC w4 om4).out.2.2.2.1.mono ?_
               rintro e w5 ⟨rfl, hb5⟩
               have om5 := om4.below hb5
               obtain ⟨l0, l1, l2, l3, l4, l5, l6, l7, -⟩ := om5.cells)
            | (go_at_call 8
               refine (HC w7 om7).out.2.2.2.2.1.mono ?_
               rintro e w8 ⟨rfl, hb8⟩
               have om8 := om7.below hb8
               obtain ⟨o0, o1, o2, o3, o4, o5, o6, o7, -⟩ := om8.cells)
            | (go_at_call 8
               refine (HC w5 om5).out.2.2.2.2.1.mono ?_
               rintro e w6 ⟨rfl, hb6⟩
               have om6 := om5.below hb6
               obtain ⟨m0, m1, m2, m3, m4, m5, m6, m7, -⟩ := om6.cells)
            | (go_at_call 9
               refine (HC w6 om6).out.2.2.2.2.2.mono ?_
               rintro e w7 ⟨rfl, hb7⟩
               have om7 := om6.below hb7
               obtain ⟨n0, n1', n2', n3', n4', n5', n6', n7, -⟩ := om7.cells)
            | fail)
        go_ret
        exact ⟨rfl, OM.bel (by first | exact om8 | exact om7)⟩
end Go.Proofs.Ytpjdlcdkldomlaa
