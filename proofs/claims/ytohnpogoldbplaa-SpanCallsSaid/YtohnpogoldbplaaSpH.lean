/- Spans: compareTraces, compareTags, slices.CompareFunc of tags. -/
import Derived.Test.YtohnpogoldbplaaSpG
namespace Go.Proofs.Ytohnpogoldbplaa
open Go.RowKit

def cmpTr (h1 l1 h2 l2 : Int) : Int := orL [cmpI h1 h2, cmpI l1 l2]
def cmpTg (a b : Tg) : Int := orL [cmpS a.key b.key, cmpS a.val b.val]
/-- Two lists of tags. -/
def cmpTL : List Tg → List Tg → Int
  | [], [] => 0
  | [], _ :: _ => -1
  | _ :: _, [] => 1
  | a :: la, b :: lb => if cmpTg a b ≠ 0 then cmpTg a b else cmpTL la lb
theorem cmpTL_step {la lb : List Tg} {j : Nat} {a b : Tg} (ha : la[j]? = some a) (hb : lb[j]? = some b) : cmpTL (la.drop j) (lb.drop j) = if cmpTg a b ≠ 0 then cmpTg a b else cmpTL (la.drop (j + 1)) (lb.drop (j + 1)) := by
  have h1 := (List.getElem?_eq_some_iff.1 ha).1
  have h2 := (List.getElem?_eq_some_iff.1 hb).1
  rw [List.drop_eq_getElem_cons h1, List.drop_eq_getElem_cons h2, (List.getElem?_eq_some_iff.1 ha).2, (List.getElem?_eq_some_iff.1 hb).2, cmpTL]
set_option maxRecDepth 100000 in
set_option maxHeartbeats 2000000 in
theorem spCmpTraces (h1 l1 h2 l2 : Int) (w : World) :
    Calls Try.prog 59 #[.agg #[.int .u64 h1, .int .u64 l1], .agg #[.int .u64 h2, .int .u64 l2]] w fun e w' => e = .returned (.int .i64 (cmpTr h1 l1 h2 l2)) ∧ Below w.heap.size w w' := by
  have b1 := (Bk.new w 24 #[.int .u64 h1, .int .u64 l1]).alloc (.cells #[.int .u64 h2, .int .u64 l2] 24)
  have b2 := Bk.new (w.alloc (.cells #[.int .u64 h1, .int .u64 l1] 24)) 24 #[.int .u64 h2, .int .u64 l2]
  rw [World.size_alloc] at b2
  have hb0 : Below w.heap.size w ((w.alloc (.cells #[.int .u64 h1, .int .u64 l1] 24)).alloc (.cells #[.int .u64 h2, .int .u64 l2] 24)) := ((Below.refl _ w).alloc (Nat.le_refl _) _).alloc (by simp) _
  obtain ⟨W, hW⟩ : ∃ W, (w.alloc (.cells #[.int .u64 h1, .int .u64 l1] 24)).alloc (.cells #[.int .u64 h2, .int .u64 l2] 24) = W := ⟨_, rfl⟩
  rw [hW] at b1 b2 hb0
  have HW := Lib.hid hW
  obtain ⟨g, hg⟩ : ∃ g, w.heap.size = g := ⟨_, rfl⟩
  rw [hg] at b1 b2
  have HG := Lib.hid hg
  have k10 : W.cell? ⟨g, 0, none⟩ = some (.int .u64 h1) := b1.cell 0
  have k11 : W.cell? ⟨g, 1, none⟩ = some (.int .u64 l1) := b1.cell 1
  have k20 : W.cell? ⟨g + 1, 0, none⟩ = some (.int .u64 h2) := b2.cell 0
  have k21 : W.cell? ⟨g + 1, 1, none⟩ = some (.int .u64 l2) := b2.cell 1
  have hsz := hb0.size
  obtain ⟨c1, hc1⟩ : ∃ c, cmpI h1 h2 = c := ⟨_, rfl⟩
  obtain ⟨c2, hc2⟩ : ∃ c, cmpI l1 l2 = c := ⟨_, rfl⟩
  have u1 := fun w => cmpU h1 h2 w
  rw [hc1] at u1
  have u2 := fun w => cmpU l1 l2 w
  rw [hc2] at u2
  have hres : cmpTr h1 l1 h2 l2 = orL [c1, c2] := by rw [cmpTr, hc1, hc2]
  obtain ⟨q, hq⟩ : ∃ q, orL [c1, c2] = q := ⟨_, rfl⟩
  rw [hres, hq]
  have HQ := Lib.hid hq
  have HB := Lib.hid hb0
  have bo := (Bk.new W 3 #[.int .i64 c1, .int .i64 c2]).drew
  have hor := cmpOr (l := [c1, c2]) (n := 2) _ rfl (by decide) bo
  rw [hq] at hor
  have HOR := Lib.hid hor
  clear hor hW hg b1 b2 hc1 hc2 hres hq hb0
  go_enter Try.func59, Try.ntmps59
  go_upto_region 1 with fail
  rw [HW.out, HG.out]
  go_region_held3 (fun w' => w'.cell? ⟨g, 0, none⟩ = some (.int .u64 h1) ∧ w'.cell? ⟨g, 1, none⟩ = some (.int .u64 l1) ∧ w'.cell? ⟨g + 1, 0, none⟩ = some (.int .u64 h2) ∧ w'.cell? ⟨g + 1, 1, none⟩ = some (.int .u64 l2))
    (go_keep)
    (first
      | (go_at_call_of 60 (Value.int .u64 h1)
         refine (u1 _).mono ?_
         rintro e w' ⟨rfl, hw⟩
         rw [hw]
         clear hw w')
      | (go_at_call_of 60 (Value.int .u64 l1)
         refine (u2 _).mono ?_
         rintro e w' ⟨rfl, hw⟩
         rw [hw]
         clear hw w')
      | (go_at_call 58
         refine HOR.out.mono ?_
         rintro e w' ⟨rfl, hw⟩
         rw [hw]
         clear hw w')
      | fail)
  all_goals
    go_wp2
    go_ret
    exact ⟨rfl, (below_drewN (HB.out.alloc hsz (.cells #[.int .i64 c1, .int .i64 c2] 3)) 1)⟩
set_option maxRecDepth 100000 in
set_option maxHeartbeats 2000000 in
theorem spCmpTags (a b : Tg) (w : World) :
    Calls Try.prog 65 #[.agg #[.string a.key, .string a.val], .agg #[.string b.key, .string b.val]] w fun e w' => e = .returned (.int .i64 (cmpTg a b)) ∧ Below w.heap.size w w' := by
  obtain ⟨h1, l1⟩ := a
  obtain ⟨h2, l2⟩ := b
  simp only
  have b1 := (Bk.new w 42 #[.string h1, .string l1]).alloc (.cells #[.string h2, .string l2] 42)
  have b2 := Bk.new (w.alloc (.cells #[.string h1, .string l1] 42)) 42 #[.string h2, .string l2]
  rw [World.size_alloc] at b2
  have hb0 : Below w.heap.size w ((w.alloc (.cells #[.string h1, .string l1] 42)).alloc (.cells #[.string h2, .string l2] 42)) := ((Below.refl _ w).alloc (Nat.le_refl _) _).alloc (by simp) _
  obtain ⟨W, hW⟩ : ∃ W, (w.alloc (.cells #[.string h1, .string l1] 42)).alloc (.cells #[.string h2, .string l2] 42) = W := ⟨_, rfl⟩
  rw [hW] at b1 b2 hb0
  have HW := Lib.hid hW
  obtain ⟨g, hg⟩ : ∃ g, w.heap.size = g := ⟨_, rfl⟩
  rw [hg] at b1 b2
  have HG := Lib.hid hg
  have k10 : W.cell? ⟨g, 0, none⟩ = some (.string h1) := b1.cell 0
  have k11 : W.cell? ⟨g, 1, none⟩ = some (.string l1) := b1.cell 1
  have k20 : W.cell? ⟨g + 1, 0, none⟩ = some (.string h2) := b2.cell 0
  have k21 : W.cell? ⟨g + 1, 1, none⟩ = some (.string l2) := b2.cell 1
  have hsz := hb0.size
  obtain ⟨c1, hc1⟩ : ∃ c, cmpS h1 h2 = c := ⟨_, rfl⟩
  obtain ⟨c2, hc2⟩ : ∃ c, cmpS l1 l2 = c := ⟨_, rfl⟩
  have u1 := fun w => cmpStr h1 h2 w
  rw [hc1] at u1
  have u2 := fun w => cmpStr l1 l2 w
  rw [hc2] at u2
  have hres : cmpTg ⟨h1, l1⟩ ⟨h2, l2⟩ = orL [c1, c2] := by rw [cmpTg, hc1, hc2]
  obtain ⟨q, hq⟩ : ∃ q, orL [c1, c2] = q := ⟨_, rfl⟩
  rw [hres, hq]
  have HQ := Lib.hid hq
  have HB := Lib.hid hb0
  have bo := (Bk.new W 3 #[.int .i64 c1, .int .i64 c2]).drew
  have hor := cmpOr (l := [c1, c2]) (n := 2) _ rfl (by decide) bo
  rw [hq] at hor
  have HOR := Lib.hid hor
  clear hor hW hg b1 b2 hc1 hc2 hres hq hb0
  go_enter Try.func65, Try.ntmps65
  go_upto_region 1 with fail
  rw [HW.out, HG.out]
  go_region_held3 (fun w' => w'.cell? ⟨g, 0, none⟩ = some (.string h1) ∧ w'.cell? ⟨g, 1, none⟩ = some (.string l1) ∧ w'.cell? ⟨g + 1, 0, none⟩ = some (.string h2) ∧ w'.cell? ⟨g + 1, 1, none⟩ = some (.string l2))
    (go_keep)
    (first
      | (go_at_call_of 62 (Value.string h1)
         refine (u1 _).mono ?_
         rintro e w' ⟨rfl, hw⟩
         rw [hw]
         clear hw w')
      | (go_at_call_of 62 (Value.string l1)
         refine (u2 _).mono ?_
         rintro e w' ⟨rfl, hw⟩
         rw [hw]
         clear hw w')
      | (go_at_call 58
         refine HOR.out.mono ?_
         rintro e w' ⟨rfl, hw⟩
         rw [hw]
         clear hw w')
      | fail)
  all_goals
    go_wp2
    go_ret
    exact ⟨rfl, (below_drewN (HB.out.alloc hsz (.cells #[.int .i64 c1, .int .i64 c2] 3)) 1)⟩
end Go.Proofs.Ytohnpogoldbplaa
