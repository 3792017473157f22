/- Entries: their order, how they lie, whether they may be: batch.Compare, batch.CheckEntry. (Lines of BatE, BatN, BatS.) -/
import Derived.Lib.BytesEntry
import Derived.Lib.Bytealg
import Derived.Laws.Externs
import Derived.Deep.RegionHeld3
import Derived.Test.YtleghbdkjdpilaaEnR
namespace Go.Proofs.Ytleghbdkjdpilaa
open Go.RowKit

/-! ### the order of entries -/
def cmpN (a b : List Int) : Int :=
  match a, b with
  | [], [] => 0
  | [], _ :: _ => -1
  | _ :: _, [] => 1
  | x :: la, y :: lb => if x < y then -1 else if y < x then 1 else cmpN la lb
theorem compareBytes_cmpN : ∀ (a b : List Int), Byt a → Byt b → Lib.compareBytes (Lib.bytesOf a) (Lib.bytesOf b) = cmpN a b
  | [], [], _, _ => rfl
  | [], _ :: _, _, _ => rfl
  | _ :: _, [], _, _ => rfl
  | x :: la, y :: lb, ha, hb => by
    have hx := ha x (List.mem_cons_self ..)
    have hy := hb y (List.mem_cons_self ..)
    have ih := compareBytes_cmpN la lb (fun z hz => ha z (List.mem_cons_of_mem _ hz)) (fun z hz => hb z (List.mem_cons_of_mem _ hz))
    have lt : ∀ (p q : Int), 0 ≤ p ∧ p ≤ 255 → 0 ≤ q ∧ q ≤ 255 → ((UInt8.ofNat p.toNat < UInt8.ofNat q.toNat) ↔ p < q) := by
      intro p q hp hq
      rw [UInt8.lt_iff_toNat_lt, UInt8.toNat_ofNat', UInt8.toNat_ofNat']
      omega
    simp only [Lib.bytesOf, List.map_cons] at ih ⊢
    rw [Lib.compareBytes, cmpN, ih]
    by_cases h1 : x < y
    · rw [if_pos h1, if_pos ((lt x y hx hy).2 h1)]
    · rw [if_neg h1, if_neg (fun h => h1 ((lt x y hx hy).1 h))]
      by_cases h2 : y < x
      · rw [if_pos h2, if_pos ((lt y x hy hx).2 h2)]
      · rw [if_neg h2, if_neg (fun h => h2 ((lt y x hy hx).1 h))]
theorem run_bytesOfR {P : Program} {w : World} {B : Nat} {A : Option Addr} {zs : List Int} (h : Rb w B A zs) (c : Nat) : (Extern.Bytes.bytesOf (.slice A zs.length c)).run P w = .ok ⟨(Lib.bytesOf zs).toArray⟩ w := by
  cases A with
  | none =>
    have hz : zs = [] := by
      by_cases hz : zs = []
      · exact hz
      · obtain ⟨b, o, e, _⟩ := h (by simpa [bv] using hz)
        cases e
    subst hz
    rfl
  | some a =>
    have := Lib.run_loadBytesX (P := P) w zs a .empty (fun j x hj => by
      obtain ⟨b, o, e, _, hc⟩ := h (by rintro h0; simp [bv] at h0; subst h0; simp at hj)
      cases e
      rw [Addr.add_lit]
      exact hc j _ (bv_get hj))
    show (Extern.Bytes.loadBytes a zs.length .empty).run P w = _
    rw [this]
    simp
theorem run_compareR {P : Program} {w : World} {B B' : Nat} {A A' : Option Addr} {xs ys : List Int} (hx : Rb w B A xs) (hy : Rb w B' A' ys) (bx : Byt xs) (by_ : Byt ys) (c c' : Nat) :
    (Extern.BytealgCompare.compare #[.slice A xs.length c, .slice A' ys.length c']).run P w = .ok (.int .i64 (cmpN xs ys)) w := by
  change Sem.run P (do pure (goInt (Extern.BytealgCompare.cmp (← Extern.Bytes.bytesOf (.slice A xs.length c)) (← Extern.Bytes.bytesOf (.slice A' ys.length c'))))) w = _
  simp only [Sem.run_bind, run_bytesOfR hx, run_bytesOfR hy, Sem.run_pure, Result.andThen]
  rw [Lib.cmp_eq]
  show Result.ok (goInt (Lib.compareBytes (Lib.bytesOf xs).toArray.toList (Lib.bytesOf ys).toArray.toList)) w = _
  rw [List.toList_toArray, List.toList_toArray, compareBytes_cmpN xs ys bx by_]
  rfl
theorem bytesCompare {B B' n n' c c' : Nat} {A A' : Option Addr} {xs ys : List Int} (w : World) (hx : Rb w B A xs) (hy : Rb w B' A' ys) (bx : Byt xs) (by_ : Byt ys) (hn : xs.length = n) (hn' : ys.length = n') :
    Calls Try.prog 41 #[.slice A n c, .slice A' n' c'] w fun e w' => e = .returned (.int .i64 (cmpN xs ys)) ∧ w' = w := by
  subst hn hn'
  have hr := run_compareR (P := Try.prog) hx hy bx by_ c c'
  obtain ⟨r, hrr⟩ : ∃ r, cmpN xs ys = r := ⟨_, rfl⟩
  rw [hrr] at hr ⊢
  clear hrr
  go_enter Try.func41, Try.ntmps41
  go_wp2
  rw [run_callFunc_extern Try.func50 (by kernel_rfl) (by kernel_rfl) (by kernel_rfl) (e := Extern.BytealgCompare.compare) (by kernel_rfl), hr]
  simp only [Result.andThen]
  rw [Oper.upon_value]
  go_wp2
  go_ret
  exact ⟨rfl, rfl⟩
def cmpI (x y : Int) : Int := if x < y then -1 else if y < x then 1 else 0
theorem cmpCompare (x y : Int) (w : World) : Calls Try.prog 42 #[.int .u64 x, .int .u64 y] w fun e w' => e = .returned (.int .i64 (cmpI x y)) ∧ w' = w := by
  by_cases h1 : x < y
  · rw [show cmpI x y = -1 from by rw [cmpI, if_pos h1]]
    go_enter Try.func42, Try.ntmps42
    go_wp2
    go_ret
    exact ⟨rfl, rfl⟩
  · by_cases h2 : y < x
    · rw [show cmpI x y = 1 from by rw [cmpI, if_neg h1, if_pos h2]]
      go_enter Try.func42, Try.ntmps42
      go_wp2
      go_ret
      exact ⟨rfl, rfl⟩
    · rw [show cmpI x y = 0 from by rw [cmpI, if_neg h1, if_neg h2]]
      go_enter Try.func42, Try.ntmps42
      go_wp2
      go_ret
      exact ⟨rfl, rfl⟩
theorem cmpOr2 (x y : Int) (g : Nat) (w : World) (hb : Bk w g 3 #[.int .i64 x, .int .i64 y]) : Calls Try.prog 40 #[.slice (some ⟨g, 0, none⟩) 2 2] w fun e w' => e = .returned (.int .i64 (if x ≠ 0 then x else y)) ∧ w' = w := by
  have c0 : w.cell? ⟨g, 0, none⟩ = some (.int .i64 x) := hb.cell 0
  have c1 : w.cell? ⟨g, 1, none⟩ = some (.int .i64 y) := hb.cell 1
  by_cases hx : x = 0
  · subst hx
    by_cases hy : y = 0
    · subst hy
      go_enter Try.func40, Try.ntmps40
      go_wp2
      go_loop [8] (fun i => ∃ j : Nat, j ≤ 2 ∧ i = .int .i64 j) (fun i => 2 - (intOf i).toNat)
      case atStart => exact ⟨0, by omega, rfl⟩
      case round =>
        obtain ⟨j, hj, rfl⟩ := hrel
        have hj3 : j = 0 ∨ j = 1 ∨ j = 2 := by omega
        rcases hj3 with rfl | rfl | rfl
        · go_wp2
          go_round
          case rel => exact ⟨1, by omega, rfl⟩
          case measure => simp [intOf]
        · go_wp2
          go_round
          case rel => exact ⟨2, by omega, rfl⟩
          case measure => simp [intOf]
        · go_wp2
          go_ret
          exact ⟨by simp, rfl⟩
    · have hyb : (y != 0) = true := by simp [hy]
      go_enter Try.func40, Try.ntmps40
      go_wp2
      go_loop [8] (fun i => ∃ j : Nat, j ≤ 1 ∧ i = .int .i64 j) (fun i => 2 - (intOf i).toNat)
      case atStart => exact ⟨0, by omega, rfl⟩
      case round =>
        obtain ⟨j, hj, rfl⟩ := hrel
        have hj3 : j = 0 ∨ j = 1 := by omega
        rcases hj3 with rfl | rfl
        · go_wp2
          go_round
          case rel => exact ⟨1, by omega, rfl⟩
          case measure => simp [intOf]
        · go_wp2
          go_ret
          exact ⟨by simp, rfl⟩
  · have hxb : (x != 0) = true := by simp [hx]
    rw [if_pos hx]
    go_enter Try.func40, Try.ntmps40
    go_wp2
    go_loop [8] (fun i => i = .int .i64 0) (fun i => 2 - (intOf i).toNat)
    case atStart => rfl
    case round =>
      subst hrel
      go_wp2
      go_ret
      exact ⟨rfl, rfl⟩

def entCmp (ka : List Int) (sa : Nat) (kb : List Int) (sb : Nat) : Int := if cmpN ka kb ≠ 0 then cmpN ka kb else cmpI sb sa
/-- An entry's value, its bytes lying below block B. -/
abbrev enV (A1 : Option Addr) (n1 c1 : Nat) (seq : Nat) (kind : Int) (A2 : Option Addr) (n2 c2 : Nat) : Value := .agg #[.slice A1 n1 c1, .int .u64 seq, .int .i64 kind, .slice A2 n2 c2]

set_option maxRecDepth 100000 in
set_option maxHeartbeats 4000000 in
theorem batCompare {A1 A2 A3 A4 : Option Addr} {n1 c1 n2 c2 n3 c3 n4 c4 sa sb B : Nat} {kinda kindb : Int} {ka kb : List Int} (w : World) (ha : Rb w B A1 ka) (hb : Rb w B A3 kb) (ba : Byt ka) (bb : Byt kb) (h1 : ka.length = n1) (h3 : kb.length = n3) (hB : B ≤ w.heap.size) :
    Calls Try.prog 28 #[enV A1 n1 c1 sa kinda A2 n2 c2, enV A3 n3 c3 sb kindb A4 n4 c4] w fun e w' => e = .returned (.int .i64 (entCmp ka sa kb sb)) ∧ Below w.heap.size w w' := by
  have bA := (Bk.new w 29 #[.slice A1 n1 c1, .int .u64 sa, .int .i64 kinda, .slice A2 n2 c2]).alloc (.cells #[.slice A3 n3 c3, .int .u64 sb, .int .i64 kindb, .slice A4 n4 c4] 29)
  have bB := Bk.new (w.alloc (.cells #[.slice A1 n1 c1, .int .u64 sa, .int .i64 kinda, .slice A2 n2 c2] 29)) 29 #[.slice A3 n3 c3, .int .u64 sb, .int .i64 kindb, .slice A4 n4 c4]
  rw [World.size_alloc] at bB
  have ha2 : Rb ((w.alloc (.cells #[.slice A1 n1 c1, .int .u64 sa, .int .i64 kinda, .slice A2 n2 c2] 29)).alloc (.cells #[.slice A3 n3 c3, .int .u64 sb, .int .i64 kindb, .slice A4 n4 c4] 29)) B A1 ka := (ha.alloc hB _).alloc (by simp; omega) _
  have hb2 : Rb ((w.alloc (.cells #[.slice A1 n1 c1, .int .u64 sa, .int .i64 kinda, .slice A2 n2 c2] 29)).alloc (.cells #[.slice A3 n3 c3, .int .u64 sb, .int .i64 kindb, .slice A4 n4 c4] 29)) B A3 kb := (hb.alloc hB _).alloc (by simp; omega) _
  have hbel : Below w.heap.size w ((w.alloc (.cells #[.slice A1 n1 c1, .int .u64 sa, .int .i64 kinda, .slice A2 n2 c2] 29)).alloc (.cells #[.slice A3 n3 c3, .int .u64 sb, .int .i64 kindb, .slice A4 n4 c4] 29)) := ((Below.refl _ w).alloc (Nat.le_refl _) _).alloc (by simp) _
  obtain ⟨w1, hw1⟩ : ∃ w1, (w.alloc (.cells #[.slice A1 n1 c1, .int .u64 sa, .int .i64 kinda, .slice A2 n2 c2] 29)).alloc (.cells #[.slice A3 n3 c3, .int .u64 sb, .int .i64 kindb, .slice A4 n4 c4] 29) = w1 := ⟨_, rfl⟩
  have hs1 : w.heap.size ≤ w1.heap.size := by rw [← hw1]; simp; omega
  rw [hw1] at bA bB ha2 hb2 hbel
  have HW := Lib.hid hw1
  obtain ⟨x, hx⟩ : ∃ x, cmpN ka kb = x := ⟨_, rfl⟩
  obtain ⟨y, hy⟩ : ∃ y, cmpI sb sa = y := ⟨_, rfl⟩
  have hc1 := bytesCompare (c := c1) (c' := c3) w1.drew ha2 hb2 ba bb h1 h3
  have hc2 := cmpCompare sb sa w1.drew
  rw [entCmp]
  rw [hx] at hc1 ⊢
  rw [hy] at hc2 ⊢
  obtain ⟨r, hr⟩ : ∃ r, (if x ≠ 0 then x else y) = r := ⟨_, rfl⟩
  rw [hr]
  have HR := Lib.hid hr
  have k0 : w1.cell? ⟨w.heap.size, 0, none⟩ = some (.slice A1 n1 c1) := bA.cell 0
  have k1 : w1.cell? ⟨w.heap.size, 1, none⟩ = some (.int .u64 sa) := bA.cell 1
  have k2 : w1.cell? ⟨w.heap.size + 1, 0, none⟩ = some (.slice A3 n3 c3) := bB.cell 0
  have k3 : w1.cell? ⟨w.heap.size + 1, 1, none⟩ = some (.int .u64 sb) := bB.cell 1
  clear hw1 hx hy hr
  go_enter Try.func28, Try.ntmps28
  go_wp2_with fail
  rw [HW.out]
  go_region_held3 (fun w' => w'.cell? ⟨w.heap.size, 0, none⟩ = some (.slice A1 n1 c1) ∧ w'.cell? ⟨w.heap.size, 1, none⟩ = some (.int .u64 sa) ∧ w'.cell? ⟨w.heap.size + 1, 0, none⟩ = some (.slice A3 n3 c3) ∧ w'.cell? ⟨w.heap.size + 1, 1, none⟩ = some (.int .u64 sb))
    (go_keep)
    (first
      | (go_at_call 41; refine hc1.mono ?_; rintro e w' ⟨rfl, rfl⟩)
      | (go_at_call 42; refine hc2.mono ?_; rintro e w' ⟨rfl, rfl⟩)
      | (go_at_call 40
         refine (cmpOr2 x y w1.heap.size _ (Bk.new w1.drew _ _)).mono ?_
         rintro e w' ⟨rfl, rfl⟩
         rw [HR.out])
      | fail)
  all_goals go_wp2
  all_goals go_ret
  all_goals exact ⟨rfl, (hbel.alloc hs1 _).drew⟩

structure En where
  key : List Int
  seq : Nat
  kind : Int
  val : List Int
deriving DecidableEq
def enChk (x : En) : Nat := if wrRight ⟨x.kind, x.key, x.val⟩ = false ∨ x.seq = 0 then 2 else if wrShort ⟨x.kind, x.key, x.val⟩ = false ∨ 72057594037927935 < x.seq then 3 else 0

/-- The four cells of an entry whose bytes lie below B, and not in block r. -/
def EnAt (w : World) (B : Nat) (r : Option Nat) (hs : List Value) (i : Nat) (x : En) : Prop :=
  ∃ A1 c1 A2 c2, hs[i * 4]? = some (Value.slice A1 x.key.length c1) ∧ hs[i * 4 + 1]? = some (Value.int .u64 x.seq) ∧ hs[i * 4 + 2]? = some (Value.int .i64 x.kind) ∧ hs[i * 4 + 3]? = some (Value.slice A2 x.val.length c2) ∧
    x.key.length ≤ c1 ∧ Rb w B A1 x.key ∧ x.val.length ≤ c2 ∧ Rb w B A2 x.val ∧ (x.key ≠ [] → ∀ a, A1 = some a → r ≠ some a.block) ∧ (x.val ≠ [] → ∀ a, A2 = some a → r ≠ some a.block)

set_option maxRecDepth 100000 in
theorem batCheckEntry {A1 A2 : Option Addr} {c1 c2 n1 n2 : Nat} (x : En) (w : World) (h1 : x.key.length = n1) (h2 : x.val.length = n2) :
    Calls Try.prog 24 #[enV A1 n1 c1 x.seq x.kind A2 n2 c2] w fun e w' => e = .returned (.int .i64 (enChk x)) ∧ Below w.heap.size w w' := by
  obtain ⟨r, hr⟩ : ∃ r, enChk x = r := ⟨_, rfl⟩
  rw [hr]
  have hright := fun W => batRight (A1 := A1) (A2 := A2) (c1 := c1) (c2 := c2) x.kind W ⟨x.kind, x.key, x.val⟩ rfl h1 h2
  have hlen := fun W => batLengths (A1 := A1) (A2 := A2) (c1 := c1) (c2 := c2) W ⟨x.kind, x.key, x.val⟩ h1 h2
  unfold enChk at hr
  obtain ⟨q, hq⟩ : ∃ q, wrRight ⟨x.kind, x.key, x.val⟩ = q := ⟨_, rfl⟩
  obtain ⟨q2, hq2⟩ : ∃ q2, wrShort ⟨x.kind, x.key, x.val⟩ = q2 := ⟨_, rfl⟩
  obtain ⟨s, hs⟩ : ∃ s, x.seq = s := ⟨_, rfl⟩
  obtain ⟨kd, hkd⟩ : ∃ kd, x.kind = kd := ⟨_, rfl⟩
  rw [hq] at hright hr
  rw [hq2] at hlen hr
  rw [hs] at hr ⊢
  rw [hkd] at hright ⊢
  have hb0 : Below w.heap.size w (w.alloc (.cells #[.slice A1 n1 c1, .int .u64 s, .int .i64 kd, .slice A2 n2 c2] 29)) := (Below.refl _ w).alloc (Nat.le_refl _) _
  have HB := Lib.hid hb0
  have HR := Lib.hid hr
  have HRI := fun W => Lib.hid (hright W)
  have HLE := fun W => Lib.hid (hlen W)
  clear hq hq2 hs hkd hright hlen hr hb0 h1 h2
  cases q with
  | false =>
    have hr := HR.out
    rw [if_pos (.inl rfl)] at hr
    subst hr
    go_enter Try.func24, Try.ntmps24
    go_wp2_with (first | (go_at_call 35; refine (HRI _).out.mono ?_; rintro e w1 ⟨rfl, rfl⟩) | fail)
    go_ret
    exact ⟨rfl, HB.out⟩
  | true =>
    by_cases hs0 : s = 0
    · subst hs0
      have hr := HR.out
      rw [if_pos (.inr rfl)] at hr
      subst hr
      go_enter Try.func24, Try.ntmps24
      go_wp2_with (first | (go_at_call 35; refine (HRI _).out.mono ?_; rintro e w1 ⟨rfl, rfl⟩) | fail)
      go_ret
      exact ⟨rfl, HB.out⟩
    have hsb : (((s : Nat) : Int) == 0) = false := by rw [beq_eq_false_iff_ne]; omega
    have hr := HR.out
    rw [if_neg (by simp [hs0])] at hr
    have HR := Lib.hid hr
    clear hr
    cases q2 with
    | false =>
      have hr := HR.out
      rw [if_pos (.inl rfl)] at hr
      subst hr
      go_enter Try.func24, Try.ntmps24
      go_wp2_with (first | (go_at_call 35; refine (HRI _).out.mono ?_; rintro e w1 ⟨rfl, rfl⟩) | (go_at_call 36; refine (HLE _).out.mono ?_; rintro e w1 ⟨rfl, rfl⟩) | fail)
      go_ret
      exact ⟨rfl, HB.out⟩
    | true =>
      by_cases hs1 : 72057594037927935 < s
      · have hs1' : (72057594037927935 : Int) < (s : Int) := by omega
        have hr := HR.out
        rw [if_pos (.inr hs1)] at hr
        subst hr
        go_enter Try.func24, Try.ntmps24
        go_wp2_with (first | (go_at_call 35; refine (HRI _).out.mono ?_; rintro e w1 ⟨rfl, rfl⟩) | (go_at_call 36; refine (HLE _).out.mono ?_; rintro e w1 ⟨rfl, rfl⟩) | fail)
        go_ret
        exact ⟨rfl, HB.out⟩
      · have hs1' : decide ((72057594037927935 : Int) < (s : Int)) = false := by simp; omega
        have hr := HR.out
        rw [if_neg (by simp; omega)] at hr
        subst hr
        go_enter Try.func24, Try.ntmps24
        go_wp2_with (first | (go_at_call 35; refine (HRI _).out.mono ?_; rintro e w1 ⟨rfl, rfl⟩) | (go_at_call 36; refine (HLE _).out.mono ?_; rintro e w1 ⟨rfl, rfl⟩) | fail)
        go_ret
        exact ⟨rfl, HB.out⟩
end Go.Proofs.Ytleghbdkjdpilaa
