/- Texts of the proof of AdjustTreeSaid, joined: Sort SoD AjD UnA SoH SoI UnB UnC. -/
import Derived.Shelf.SlGeneric
import Derived.Shelf.SlSortCmp.WholeK
import Derived.Ground.SlsfProg
import Derived.Test.YtchpekidnbdpdaaProg
import Derived.Test.YtchpekidnbdpdaaJAdjustTree1
import Derived.Test.YtchpekidnbdpdaaJAdjustTree14
import Derived.Test.YtchpekidnbdpdaaJAdjustTree2
import Derived.Test.YtchpekidnbdpdaaJAdjustTree10
import Derived.Deep.QuietTactic
import Derived.Test.YtchpekidnbdpdaaJAdjustTree8
import Derived.Deep.Cut
import Derived.Deep.RegionHeld3
/-
  DERIVED: THE SHELF's CONTRACTS AT THIS DUMP, IN PLAIN WORDS (tools/lay-plain.mjs out of 'TrySort.lean', which tools/lay-shelf.mjs wrote): THE SAME DECLARATIONS UNDER THE SAME NAMES: 'import', 'namespace', 'open', 'def', 'theorem' AND NOTHING ELSE: no command of the shelf's: FOR A HAND-IN. Each laying: the table of numbers ('.._ren') and one theorem, a field a fact of the dump's own or the kernel's comparison; each contract: ONE APPLICATION.
-/
namespace Go.Proofs
open Go.Shelf
def Try.sortSp_ren : Go.Shelf.Ren := ⟨fun | 6 => 55 | 15 => 75 | 14 => 74 | 28 => 90 | 29 => 91 | 20 => 76 | 21 => 83 | 22 => 84 | 23 => 85 | 24 => 86 | 25 => 87 | 26 => 88 | 27 => 89 | 46 => 93 | 47 => 94 | 48 => 95 | 49 => 96 | 50 => 97 | 57 => 99 | n => n, fun | 22 => 34 | 24 => 32 | 25 => 66 | 3 => 3 | 39 => 100 | 0 => 0 | 53 => 113 | 55 => 27 | 4 => 4 | 46 => 107 | 45 => 106 | 50 => 71 | 5 => 5 | 9 => 9 | 66 => 115 | 70 => 119 | 76 => 121 | 77 => 122 | n => n, fun | n => n⟩
theorem Try.sortSp : Go.Proofs.SlLaysF0.n6 Try.prog Try.sortSp_ren := {
  mixed := by kernel_rfl
  f6 := ⟨Try.f55.name, by decide, Try.func55.trans (congrArg some (by kernel_rfl))⟩
  f14 := ⟨Try.f74.name, by decide, Try.func74.trans (congrArg some (by kernel_rfl))⟩
  f15 := Try.func75.trans (congrArg some (by kernel_rfl))
  f20 := ⟨Try.f76.name, by decide, Try.func76.trans (congrArg some (by kernel_rfl))⟩
  f21 := ⟨Try.f83.name, by decide, Try.func83.trans (congrArg some (by kernel_rfl))⟩
  f22 := ⟨Try.f84.name, by decide, Try.func84.trans (congrArg some (by kernel_rfl))⟩
  f23 := ⟨Try.f85.name, by decide, Try.func85.trans (congrArg some (by kernel_rfl))⟩
  f24 := ⟨Try.f86.name, by decide, Try.func86.trans (congrArg some (by kernel_rfl))⟩
  f25 := ⟨Try.f87.name, by decide, Try.func87.trans (congrArg some (by kernel_rfl))⟩
  f26 := ⟨Try.f88.name, by decide, Try.func88.trans (congrArg some (by kernel_rfl))⟩
  f27 := ⟨Try.f89.name, by decide, Try.func89.trans (congrArg some (by kernel_rfl))⟩
  f28 := Try.func90.trans (congrArg some (by kernel_rfl))
  f29 := Try.func91.trans (congrArg some (by kernel_rfl))
  f46 := ⟨Try.f93.name, by decide, Try.func93.trans (congrArg some (by kernel_rfl))⟩
  f47 := Try.func94.trans (congrArg some (by kernel_rfl))
  f48 := Try.func95.trans (congrArg some (by kernel_rfl))
  f49 := ⟨Try.f96.name, by decide, Try.func96.trans (congrArg some (by kernel_rfl))⟩
  f50 := ⟨Try.f97.name, by decide, Try.func97.trans (congrArg some (by kernel_rfl))⟩
  f57 := ⟨Try.f99.name, by decide, Try.func99.trans (congrArg some (by kernel_rfl))⟩
  t0 := Try.underlying0
  a0 := Try.isAgg0
  z0 := Try.sizeOf0
  v0 := Try.zeroValue0
  t3 := Try.underlying3
  a3 := Try.isAgg3
  z3 := Try.sizeOf3
  v3 := Try.zeroValue3
  t4 := Try.underlying4
  a4 := Try.isAgg4
  z4 := Try.sizeOf4
  v4 := Try.zeroValue4
  t5 := Try.underlying5
  a5 := Try.isAgg5
  z5 := Try.sizeOf5
  v5 := Try.zeroValue5
  t9 := Try.underlying9
  a9 := Try.isAgg9
  z9 := Try.sizeOf9
  v9 := Try.zeroValue9
  t22 := Try.underlying34
  a22 := Try.isAgg34
  z22 := Try.sizeOf34
  v22 := Try.zeroValue34
  t25 := Try.underlying66
  a25 := Try.isAgg66
  z25 := Try.sizeOf66
  v25 := Try.zeroValue66
  t39 := Try.underlying100
  a39 := Try.isAgg100
  z39 := Try.sizeOf100
  v39 := Try.zeroValue100
  t45 := Try.underlying106
  a45 := Try.isAgg106
  z45 := Try.sizeOf106
  v45 := Try.zeroValue106
  t46 := Try.underlying107
  a46 := Try.isAgg107
  z46 := Try.sizeOf107
  v46 := Try.zeroValue107
  t50 := Try.underlying71
  a50 := Try.isAgg71
  z50 := Try.sizeOf71
  v50 := Try.zeroValue71
  t53 := Try.underlying113
  a53 := Try.isAgg113
  z53 := Try.sizeOf113
  v53 := Try.zeroValue113
  t55 := Try.underlying27
  a55 := Try.isAgg27
  z55 := Try.sizeOf27
  v55 := Try.zeroValue27
  t66 := Try.underlying115
  a66 := Try.isAgg115
  z66 := Try.sizeOf115
  v66 := Try.zeroValue115
  t70 := Try.underlying119
  a70 := Try.isAgg119
  z70 := Try.sizeOf119
  v70 := Try.zeroValue119
  t76 := Try.underlying121
  a76 := Try.isAgg121
  z76 := Try.sizeOf121
  v76 := Try.zeroValue121
  t77 := Try.underlying122
  a77 := Try.isAgg122
  z77 := Try.sizeOf122
  v77 := Try.zeroValue122 }
def Try.insSp_ren : Go.Shelf.Ren := ⟨fun | 20 => 76 | n => n, fun | 24 => 32 | 22 => 34 | 3 => 3 | 25 => 66 | 4 => 4 | 0 => 0 | n => n, fun | n => n⟩
theorem Try.insSp : Go.Proofs.SlLaysF0.n20 Try.prog Try.insSp_ren := {
  mixed := by kernel_rfl
  f20 := ⟨Try.f76.name, by decide, Try.func76.trans (congrArg some (by kernel_rfl))⟩
  t0 := Try.underlying0
  a0 := Try.isAgg0
  z0 := Try.sizeOf0
  v0 := Try.zeroValue0
  t3 := Try.underlying3
  a3 := Try.isAgg3
  z3 := Try.sizeOf3
  v3 := Try.zeroValue3
  t4 := Try.underlying4
  a4 := Try.isAgg4
  z4 := Try.sizeOf4
  v4 := Try.zeroValue4
  t22 := Try.underlying34
  a22 := Try.isAgg34
  z22 := Try.sizeOf34
  v22 := Try.zeroValue34
  t25 := Try.underlying66
  a25 := Try.isAgg66
  z25 := Try.sizeOf66
  v25 := Try.zeroValue66 }
end Go.Proofs

/- Lists of spans: their order; slices.SortFunc of spans by Compare. -/
namespace Go.Proofs.Ytchpekidnbdpdaa
open Go.RowKit Go.Shelf Go.Sort

def insS (x : Sp) : List Sp → List Sp
  | [] => [x]
  | y :: l => if spCmp x y < 0 then x :: y :: l else y :: insS x l
def ordS (l : List Sp) : List Sp := l.foldl (fun acc x => insS x acc) []
def SortedS (l : List Sp) : Prop := l.Pairwise fun a b => spCmp a b ≤ 0
theorem insS_perm (x : Sp) : ∀ l, (insS x l).Perm (x :: l)
  | [] => List.Perm.refl _
  | y :: l => by
    rw [insS]
    split
    · exact List.Perm.refl _
    · exact ((insS_perm x l).cons y).trans (List.Perm.swap x y l)
theorem insS_mem {x z : Sp} {l : List Sp} (h : z ∈ insS x l) : z = x ∨ z ∈ l := by
  have := (insS_perm x l).mem_iff.1 h
  simpa using this
theorem insS_sorted (x : Sp) : ∀ {l}, SortedS l → SortedS (insS x l)
  | [], _ => List.pairwise_singleton _ _
  | y :: l, h => by
    obtain ⟨h1, h2⟩ := List.pairwise_cons.1 h
    rw [insS]
    split
    · rename_i hlt
      refine List.pairwise_cons.2 ⟨fun z hz => ?_, h⟩
      rcases List.mem_cons.1 hz with rfl | hz
      · omega
      · exact spCmp_cmp.le (show spCmp x y ≤ 0 by omega) (h1 z hz)
    · rename_i hge
      refine List.pairwise_cons.2 ⟨fun z hz => ?_, insS_sorted x h2⟩
      rcases insS_mem hz with rfl | hz
      · have := spCmp_cmp.neg z y
        omega
      · exact h1 z hz
theorem ordS_aux (l : List Sp) : ∀ acc, SortedS acc → SortedS (l.foldl (fun acc x => insS x acc) acc) ∧ (l.foldl (fun acc x => insS x acc) acc).Perm (acc ++ l) := by
  induction l with
  | nil => intro acc h; exact ⟨h, by simp⟩
  | cons x l ih =>
    intro acc h
    obtain ⟨h1, h2⟩ := ih (insS x acc) (insS_sorted x h)
    refine ⟨h1, h2.trans ?_⟩
    have h3 := (insS_perm x acc).append_right l
    refine h3.trans ?_
    simp only [List.cons_append]
    exact (List.perm_middle).symm
theorem ordS_sorted (l : List Sp) : SortedS (ordS l) := (ordS_aux l [] List.Pairwise.nil).1
theorem ordS_perm (l : List Sp) : (ordS l).Perm l := (ordS_aux l [] List.Pairwise.nil).2
theorem ordS_eq {l l' : List Sp} (p : l'.Perm l) (s : SortedS l') : l' = ordS l :=
  List.Perm.eq_of_pairwise (le := fun a b => spCmp a b ≤ 0) (fun a b _ _ h1 h2 => spCmp_cmp.anti h1 h2) s (ordS_sorted l) (p.trans (ordS_perm l).symm)
theorem ordS_same {l l' : List Sp} (p : l'.Perm l) : ordS l' = ordS l := ordS_eq ((ordS_perm l').trans p) (ordS_sorted l')
theorem ordS_length (l : List Sp) : (ordS l).length = l.length := (ordS_perm l).length_eq
theorem ordS_snoc (l : List Sp) (x : Sp) : ordS (l ++ [x]) = insS x (ordS l) := by simp [ordS]

/-! ### slices.SortFunc -/
/-- A span in a row whose block is g: its tags lie elsewhere. -/
structure Far (w : World) (g : Nat) (e : El) : Prop where
  ok : ElOk w w.heap.size e
  far : e.s.tags ≠ [] → ∀ a, e.A = some a → a.block ≠ g
abbrev SortEl (w : World) (g : Nat) := { e : El // Far w g e }
def sortZero (w : World) (g : Nat) : SortEl w g := ⟨⟨zeroSp, none, 0, 0⟩, ⟨⟨Rd.nil, rfl, Nat.zero_le _⟩, fun h => absurd rfl h⟩⟩
theorem swo_sp {β : Type} (p : β → Sp) : SWO (ltOf fun x y : β => spCmp (p x) (p y)) where
  irrefl x := by
    have := (spCmp_cmp.eq (p x) (p x)).2 rfl
    simp [ltOf, this]
  trans x y z h1 h2 := by
    simp only [ltOf, decide_eq_true_eq] at *
    have r1 := spCmp_cmp.rng (p x) (p y)
    have r2 := spCmp_cmp.rng (p y) (p z)
    have := spCmp_cmp.tr (p x) (p y) (p z) (by omega) (by omega)
    omega
  ntrans x y z h1 h2 := by
    simp only [ltOf, decide_eq_false_iff_not] at *
    have n1 := spCmp_cmp.neg (p x) (p y)
    have n2 := spCmp_cmp.neg (p y) (p z)
    have n3 := spCmp_cmp.neg (p x) (p z)
    have := spCmp_cmp.le (a := p z) (b := p y) (c := p x) (by omega) (by omega)
    omega
end Go.Proofs.Ytchpekidnbdpdaa


/- Layer 21, plain: spans sorted by ID, then by the order of spans, and each ID's first kept: what the document's Unique tells. -/
namespace Go.Proofs.Ytchpekidnbdpdaa
open Go.RowKit Go.Sort

/-- The order by which Unique sorts. -/
def cmpUq (x y : Sp) : Int := orL [cmpI x.id y.id, spCmp x y]
theorem cmpUq_eq (x y : Sp) : cmpUq x y = if cmpI x.id y.id ≠ 0 then cmpI x.id y.id else spCmp x y := by
  unfold cmpUq orL
  split
  · rfl
  · show (if spCmp x y ≠ 0 then spCmp x y else 0) = _
    split
    · rfl
    · omega
theorem cmpUq_cmp : Cmp cmpUq := by
  have h := ((cmpI_cmp.pull (fun n : Nat => (n : Int)) fun x y h => by exact Int.ofNat.inj h).lex spCmp_cmp).pull (γ := Sp) (fun x => (x.id, x)) (fun x y h => (Prod.ext_iff.1 h).2)
  have e : cmpUq = fun x y => if cmpI x.id y.id ≠ 0 then cmpI x.id y.id else spCmp x y := by funext x y; exact cmpUq_eq x y
  rw [e]
  exact h
theorem cmpUq_id {x y : Sp} (h : ¬ cmpUq x y < 0) : y.id ≤ x.id := by
  rw [cmpUq_eq] at h
  unfold cmpI at h
  by_cases h1 : (x.id : Int) < y.id
  · rw [if_pos h1] at h; simp at h
  · omega
theorem cmpUq_same {x y : Sp} (h : x.id = y.id) : cmpUq x y = spCmp x y := by
  rw [cmpUq_eq, h]
  have : cmpI (y.id : Int) y.id = 0 := (cmpI_cmp.eq _ _).2 rfl
  rw [this]; simp
theorem swo_cmp {α β : Type} {f : α → α → Int} (F : Cmp f) (p : β → α) : SWO (ltOf fun x y : β => f (p x) (p y)) where
  irrefl x := by unfold ltOf; simp [(F.eq (p x) (p x)).2 rfl]
  trans x y z h1 h2 := by
    unfold ltOf at *
    simp only [decide_eq_true_eq] at *
    have r1 := F.rng (p x) (p y); have r2 := F.rng (p y) (p z)
    have := F.tr _ _ _ (show f (p x) (p y) = -1 by omega) (show f (p y) (p z) = -1 by omega)
    omega
  ntrans x y z h1 h2 := by
    unfold ltOf at *
    simp only [decide_eq_false_iff_not] at *
    have r1 := F.rng (p x) (p y); have r2 := F.rng (p y) (p z); have r3 := F.rng (p x) (p z)
    have n1 := F.neg (p x) (p y); have n2 := F.neg (p y) (p z); have n3 := F.neg (p x) (p z)
    by_cases e1 : f (p x) (p y) = 0
    · rw [(F.eq _ _).1 e1]; exact h2
    · by_cases e2 : f (p y) (p z) = 0
      · rw [← (F.eq _ _).1 e2]; exact h1
      · have := F.tr (p z) (p y) (p x) (by omega) (by omega)
        omega
/-- Sorted by Unique's order. -/
def SortUq (l : List Sp) : Prop := l.Pairwise fun x y => ¬ cmpUq y x < 0
/-- Each ID's first, behind one of the ID p. -/
def cpG : Nat → List Sp → List Sp
  | _, [] => []
  | p, x :: l => if x.id = p then cpG p l else x :: cpG x.id l
def cpc : List Sp → List Sp
  | [] => []
  | x :: l => x :: cpG x.id l

theorem cpG_spec : ∀ {l : List Sp} {p : Nat}, SortUq l → (∀ x ∈ l, p ≤ x.id) →
    RisId (cpG p l) ∧ (∀ x ∈ cpG p l, p < x.id) ∧ (∀ x, x ∈ cpG p l → x ∈ l ∧ ∀ y ∈ l, y.id = x.id → ¬ cmpUq y x < 0) ∧ (∀ y ∈ l, y.id ≠ p → ∃ x ∈ cpG p l, x.id = y.id)
  | [], p, _, _ => ⟨List.Pairwise.nil, fun _ h => (by cases h), fun _ h => (by cases h), fun _ h => (by cases h)⟩
  | x :: l, p, hs, hp => by
    obtain ⟨h1, h2⟩ := List.pairwise_cons.1 hs
    rw [cpG]
    by_cases hx : x.id = p
    · rw [if_pos hx]
      obtain ⟨a, b, c, d⟩ := cpG_spec h2 fun z hz => hp z (List.mem_cons_of_mem _ hz)
      refine ⟨a, b, fun z hz => ?_, fun y hy hyp => ?_⟩
      · obtain ⟨c1, c2⟩ := c z hz
        refine ⟨List.mem_cons_of_mem _ c1, fun y hy e => ?_⟩
        rcases List.mem_cons.1 hy with rfl | hy
        · have := b z hz; omega
        · exact c2 y hy e
      · rcases List.mem_cons.1 hy with rfl | hy
        · exact absurd hx hyp
        · exact d y hy hyp
    · rw [if_neg hx]
      obtain ⟨a, b, c, d⟩ := cpG_spec (p := x.id) h2 fun z hz => cmpUq_id (h1 z hz)
      have hpx := hp x (List.mem_cons_self ..)
      refine ⟨List.pairwise_cons.2 ⟨fun z hz => b z hz, a⟩, fun z hz => ?_, fun z hz => ?_, fun y hy hyp => ?_⟩
      · rcases List.mem_cons.1 hz with rfl | hz
        · omega
        · have := b z hz; omega
      · rcases List.mem_cons.1 hz with rfl | hz
        · refine ⟨List.mem_cons_self .., fun y hy e => ?_⟩
          rcases List.mem_cons.1 hy with rfl | hy
          · rw [(cmpUq_cmp.eq y y).2 rfl]; omega
          · exact h1 y hy
        · obtain ⟨c1, c2⟩ := c z hz
          refine ⟨List.mem_cons_of_mem _ c1, fun y hy e => ?_⟩
          rcases List.mem_cons.1 hy with rfl | hy
          · have := b z hz; omega
          · exact c2 y hy e
      · rcases List.mem_cons.1 hy with rfl | hy
        · exact ⟨y, List.mem_cons_self .., rfl⟩
        · by_cases e : y.id = x.id
          · exact ⟨x, List.mem_cons_self .., e.symm⟩
          · obtain ⟨z, hz, e2⟩ := d y hy e
            exact ⟨z, List.mem_cons_of_mem _ hz, e2⟩
theorem cpc_spec {l : List Sp} (hs : SortUq l) : RisId (cpc l) ∧ (∀ x, x ∈ cpc l → x ∈ l ∧ ∀ y ∈ l, y.id = x.id → ¬ cmpUq y x < 0) ∧ (∀ y ∈ l, ∃ x ∈ cpc l, x.id = y.id) := by
  cases l with
  | nil => exact ⟨List.Pairwise.nil, fun _ h => (by cases h), fun _ h => (by cases h)⟩
  | cons x l =>
    obtain ⟨h1, h2⟩ := List.pairwise_cons.1 hs
    obtain ⟨a, b, c, d⟩ := cpG_spec (p := x.id) h2 fun z hz => cmpUq_id (h1 z hz)
    refine ⟨List.pairwise_cons.2 ⟨fun z hz => b z hz, a⟩, fun z hz => ?_, fun y hy => ?_⟩
    · rcases List.mem_cons.1 hz with rfl | hz
      · refine ⟨List.mem_cons_self .., fun y hy e => ?_⟩
        rcases List.mem_cons.1 hy with rfl | hy
        · rw [(cmpUq_cmp.eq y y).2 rfl]; omega
        · exact h1 y hy
      · obtain ⟨c1, c2⟩ := c z hz
        refine ⟨List.mem_cons_of_mem _ c1, fun y hy e => ?_⟩
        rcases List.mem_cons.1 hy with rfl | hy
        · have := b z hz; omega
        · exact c2 y hy e
    · rcases List.mem_cons.1 hy with rfl | hy
      · exact ⟨y, List.mem_cons_self .., rfl⟩
      · by_cases e : y.id = x.id
        · exact ⟨x, List.mem_cons_self .., e.symm⟩
        · obtain ⟨z, hz, e2⟩ := d y hy e
          exact ⟨z, List.mem_cons_of_mem _ hz, e2⟩
/-- Rising lists of the same spans are one. -/
theorem ris_ext : ∀ {a b : List Sp}, RisId a → RisId b → (∀ x, x ∈ a ↔ x ∈ b) → a = b
  | [], [], _, _, _ => rfl
  | [], y :: b, _, _, h => by have := (h y).2 (List.mem_cons_self ..); cases this
  | x :: a, [], _, _, h => by have := (h x).1 (List.mem_cons_self ..); cases this
  | x :: a, y :: b, ha, hb, h => by
    obtain ⟨a1, a2⟩ := List.pairwise_cons.1 ha
    obtain ⟨b1, b2⟩ := List.pairwise_cons.1 hb
    have e : x = y := by
      rcases List.mem_cons.1 ((h x).1 (List.mem_cons_self ..)) with e | e
      · exact e
      · rcases List.mem_cons.1 ((h y).2 (List.mem_cons_self ..)) with e' | e'
        · exact e'.symm
        · have := b1 x e; have := a1 y e'; omega
    subst e
    congr 1
    refine ris_ext a2 b2 fun z => ⟨fun hz => ?_, fun hz => ?_⟩
    · rcases List.mem_cons.1 ((h z).1 (List.mem_cons_of_mem _ hz)) with e | e
      · subst e; have := a1 z hz; omega
      · exact e
    · rcases List.mem_cons.1 ((h z).2 (List.mem_cons_of_mem _ hz)) with e | e
      · subst e; have := b1 z hz; omega
      · exact e
theorem insAt_has (x : Sp) (out : List Sp) : x ∈ insAt x out ∧ ∀ y ∈ out, y ∈ insAt x out := by
  unfold insAt
  refine ⟨by simp, fun y hy => ?_⟩
  rw [← List.take_append_drop (insK x.id out out.length) out] at hy
  rcases List.mem_append.1 hy with h | h
  · exact List.mem_append_left _ h
  · exact List.mem_append_right _ (List.mem_cons_of_mem _ h)
theorem uniqTo_has (l : List Sp) : ∀ i, i ≤ l.length → ∀ j x, j < i → l[j]? = some x → fstTo l x j l.length = true → x ∈ uniqTo l i
  | 0, _, j, x, h, _, _ => by omega
  | i + 1, hi, j, x, hj, hx, hf => by
    obtain ⟨z, hz⟩ : ∃ z, l[i]? = some z := ⟨_, List.getElem?_eq_getElem (by omega)⟩
    rw [uniqTo_step hz]
    by_cases e : j = i
    · subst e
      rw [hx] at hz; cases hz
      rw [if_pos hf]
      exact (insAt_has x _).1
    · have := uniqTo_has l i (by omega) j x (by omega) hx hf
      split
      · exact (insAt_has z _).2 x this
      · exact this
/-- A least one of its ID is among the unique. -/
theorem uniq_has {l : List Sp} {x : Sp} (hx : x ∈ l) (hm : ∀ y ∈ l, y.id = x.id → ¬ cmpUq y x < 0) : x ∈ uniq l := by
  obtain ⟨j, hj⟩ : ∃ j, l.findIdx? (fun y => decide (y = x)) = some j := by
    cases h : l.findIdx? (fun y => decide (y = x)) with
    | none => have := List.findIdx?_eq_none_iff.1 h x hx; simp at this
    | some j => exact ⟨j, rfl⟩
  obtain ⟨h1, h2, h3⟩ := List.findIdx?_eq_some_iff_getElem.1 hj
  have e : l[j] = x := of_decide_eq_true h2
  have hjx : l[j]? = some x := by rw [List.getElem?_eq_getElem h1, e]
  refine uniqTo_has l l.length (Nat.le_refl _) j x h1 hjx (fstTo_of fun k y hk hy => ?_)
  rw [ahd_not]
  rintro ⟨e1, e2 | ⟨e2, e3⟩⟩
  · exact hm y (List.mem_of_getElem? hy) e1 (by rw [cmpUq_same e1]; exact e2)
  · have : y = x := (spCmp_cmp.eq y x).1 e2
    have h4 := h3 k e3
    rw [(List.getElem?_eq_some_iff.1 hy).2, this] at h4
    simp at h4
theorem uniq_least {l : List Sp} {x : Sp} (hx : x ∈ uniq l) : x ∈ l ∧ ∀ y ∈ l, y.id = x.id → ¬ cmpUq y x < 0 := by
  obtain ⟨j, hj, h1, h2⟩ := (uniqTo_ris l l.length (Nat.le_refl _)).2 x hx
  refine ⟨List.mem_of_getElem? h1, fun y hy e h => ?_⟩
  obtain ⟨k, hk, rfl⟩ := List.getElem_of_mem hy
  have := ahd_not.1 (fstTo_at h2 hk (List.getElem?_eq_getElem hk))
  rw [cmpUq_same e] at h
  exact this ⟨e, .inl h⟩
theorem uniq_ris (l : List Sp) : RisId (uniq l) := (uniqTo_ris l l.length (Nat.le_refl _)).1
/-- **Sorted, and each ID's first kept: the document's Unique.** -/
theorem cpc_uniq {l l' : List Sp} (hs : SortUq l') (hp : l'.Perm l) : cpc l' = uniq l := by
  obtain ⟨a, b, c⟩ := cpc_spec hs
  refine ris_ext a (uniq_ris l) fun x => ⟨fun h => ?_, fun h => ?_⟩
  · obtain ⟨h1, h2⟩ := b x h
    exact uniq_has (hp.mem_iff.1 h1) fun y hy e => h2 y (hp.mem_iff.2 hy) e
  · obtain ⟨h1, h2⟩ := uniq_least h
    obtain ⟨z, hz, e⟩ := c x (hp.mem_iff.2 h1)
    obtain ⟨h3, h4⟩ := b z hz
    have n1 := h2 z (hp.mem_iff.1 h3) e
    have n2 := h4 x (hp.mem_iff.2 h1) e.symm
    have n3 := cmpUq_cmp.neg x z
    have : x = z := (cmpUq_cmp.eq x z).1 (by omega)
    rw [this]; exact hz
/-- Spans sorted so are told by their perm. -/
theorem sortUq_of {d : List Sp} (h : ∀ (i j : Nat) (x y : Sp), i < j → d[i]? = some x → d[j]? = some y → ¬ cmpUq y x < 0) : SortUq d := by
  rw [SortUq, List.pairwise_iff_getElem]
  intro i j hi hj hij
  exact h i j _ _ hij (List.getElem?_eq_getElem hi) (List.getElem?_eq_getElem hj)
theorem uniq_perm {l l' : List Sp} (h : ∀ x, x ∈ l ↔ x ∈ l') : uniq l = uniq l' := by
  refine ris_ext (uniq_ris l) (uniq_ris l') fun x => ⟨fun hx => ?_, fun hx => ?_⟩
  · obtain ⟨h1, h2⟩ := uniq_least hx
    exact uniq_has ((h x).1 h1) fun y hy e => h2 y ((h y).2 hy) e
  · obtain ⟨h1, h2⟩ := uniq_least hx
    exact uniq_has ((h x).2 h1) fun y hy e => h2 y ((h y).1 hy) e
end Go.Proofs.Ytchpekidnbdpdaa


/- Layer 21: Unique's two closures. -/
namespace Go.Proofs.Ytchpekidnbdpdaa
open Go.RowKit
theorem loadSp_shutU (a : Addr) : loadVar 32 a = loadK 32 a := rfl
attribute [local go_sem ↓] loadSp_shutU
set_option maxRecDepth 100000 in
set_option maxHeartbeats 4000000 in
theorem ajCmp {A1 A2 : Option Addr} {c1 c2 n m B : Nat} (a b : Sp) (w : World) (hf : RbT w B A1 a.tags) (hg : RbT w B A2 b.tags) (hn : a.tags.length = n) (hm : b.tags.length = m) (hB : B ≤ w.heap.size) (hnl : n ≤ 9223372036854775807) (hml : m ≤ 9223372036854775807) :
    Calls Try.prog 35 #[spV a A1 n c1, spV b A2 m c2] w fun e w' => e = .returned (.int .i64 (cmpUq a b)) ∧ Gr w w' := by
  have hb0 : Below w.heap.size w ((w.alloc (.cells (spC a A1 n c1) 32)).alloc (.cells (spC b A2 m c2) 32)) := ((Below.refl _ w).alloc (Nat.le_refl _) _).alloc (by simp) _
  have hff := Rd.below hf (hb0.mono hB)
  have hgg := Rd.below hg (hb0.mono hB)
  have bk1 := (Bk.new w 32 (spC a A1 n c1)).alloc (.cells (spC b A2 m c2) 32)
  have bk2 := Bk.new (w.alloc (.cells (spC a A1 n c1) 32)) 32 (spC b A2 m c2)
  rw [World.size_alloc] at bk2
  have hs1 : ((w.alloc (.cells (spC a A1 n c1) 32)).alloc (.cells (spC b A2 m c2) 32)).heap.size = w.heap.size + 2 := by simp
  obtain ⟨W, hW⟩ : ∃ W, (w.alloc (.cells (spC a A1 n c1) 32)).alloc (.cells (spC b A2 m c2) 32) = W := ⟨_, rfl⟩
  rw [hW] at hb0 hff hgg bk1 bk2 hs1
  have HW := Lib.hid hW
  obtain ⟨g, hgq⟩ : ∃ g, w.heap.size = g := ⟨_, rfl⟩
  rw [hgq] at bk1 bk2
  have HG := Lib.hid hgq
  have bd1 := bk1.drew
  have bd2 := bk2.drew
  have fd := Rd.drew hff
  have gd := Rd.drew hgg
  have hbd : Below w.heap.size w W.drew := below_drewN hb0 1
  have hBW : B ≤ W.drew.heap.size := by show B ≤ W.heap.size; omega
  have HDR : Hid (∀ {w' : World}, W.drew.drawn ≤ w'.drawn → w.drawn ≤ w'.drawn) := fun h => by
    rw [← hW] at h
    exact Nat.le_trans (Nat.le_add_right w.drawn 1) h
  have HN := Lib.hid hn
  have HM := Lib.hid hm
  have k1 : W.drew.cell? ⟨g, 2, none⟩ = some (.int .u64 a.id) := bd1.cell 2
  have k2 : W.drew.cell? ⟨g + 1, 2, none⟩ = some (.int .u64 b.id) := bd2.cell 2
  have l1 := loadK_sp bd1
  have l2 := loadK_sp bd2
  obtain ⟨p, hp⟩ : ∃ p, cmpI a.id b.id = p := ⟨_, rfl⟩
  obtain ⟨q, hq⟩ : ∃ q, spCmp a b = q := ⟨_, rfl⟩
  have u1 := fun w => cmpU a.id b.id w
  rw [hp] at u1
  have hcs := spCompareG (c1 := c1) (c2 := c2) a b W.drew fd gd hn hm hBW hnl hml
  rw [hq] at hcs
  have hres : cmpUq a b = orL [p, q] := by unfold cmpUq; rw [hp, hq]
  rw [hres]
  have HCS := Lib.hid hcs
  clear hres hp hq hcs hW hgq hf hg hn hm hb0 hff hgg bk1 bk2 hs1 fd gd
  go_enter Try.func35, Try.ntmps35
  go_upto_region 1 with fail
  rw [HW.out, HG.out]
  go_region_held3 (fun w' => w'.cell? ⟨g, 2, none⟩ = some (.int .u64 a.id) ∧ w'.cell? ⟨g + 1, 2, none⟩ = some (.int .u64 b.id) ∧ (loadK 32 ⟨g, 0, none⟩).run Try.prog w' = .ok (spV a A1 n c1) w' ∧ (loadK 32 ⟨g + 1, 0, none⟩).run Try.prog w' = .ok (spV b A2 m c2) w')
    (first | exact ⟨k1, k2, l1, l2⟩ | exact ⟨j1, j2, m1, m2⟩ | exact ⟨i1, i2, n1, n2⟩)
    (first
      | (go_at_call 37
         refine (u1 _).mono ?_
         rintro e w' ⟨rfl, hw⟩
         rw [hw]
         clear hw w')
      | (go_at_call 38
         refine HCS.out.mono ?_
         rintro e w5 ⟨rfl, hG5⟩
         have hb5 := hG5.b
         have be1 := bd1.below hb5 bd1.lt
         have be2 := bd2.below hb5 bd2.lt
         have hbe := hbd.trans (hb5.mono hbd.size)
         have j1 : w5.cell? ⟨g, 2, none⟩ = some (.int .u64 a.id) := be1.cell 2
         have j2 : w5.cell? ⟨g + 1, 2, none⟩ = some (.int .u64 b.id) := be2.cell 2
         have m1 := loadK_sp be1
         have m2 := loadK_sp be2
         have hor := cmpOr (l := [p, q]) (n := 2) _ rfl (by decide) (Bk.new w5 3 _)
         have bg1 := be1.alloc (.cells #[.int .i64 p, .int .i64 q] 3)
         have bg2 := be2.alloc (.cells #[.int .i64 p, .int .i64 q] 3)
         have i1 : (w5.alloc (.cells #[.int .i64 p, .int .i64 q] 3)).cell? ⟨g, 2, none⟩ = some (.int .u64 a.id) := bg1.cell 2
         have i2 : (w5.alloc (.cells #[.int .i64 p, .int .i64 q] 3)).cell? ⟨g + 1, 2, none⟩ = some (.int .u64 b.id) := bg2.cell 2
         have n1 := loadK_sp bg1
         have n2 := loadK_sp bg2
         have hbz := hbe.alloc hbe.size (.cells #[.int .i64 p, .int .i64 q] 3))
      | (go_at_call 36
         refine hor.mono ?_
         rintro e w' ⟨rfl, hw⟩
         rw [hw]
         clear hw w')
      | fail)
  all_goals
    go_wp2
    go_ret
    exact ⟨rfl, ⟨hbz, HDR.out hG5.d⟩⟩
set_option maxRecDepth 100000 in
set_option maxHeartbeats 2000000 in
theorem ajEq {A1 A2 : Option Addr} {c1 c2 n m : Nat} (a b : Sp) (w : World) :
    Calls Try.prog 40 #[spV a A1 n c1, spV b A2 m c2] w fun e w' => e = .returned (.bool (decide (a.id = b.id))) ∧ Below w.heap.size w w' := by
  have hb0 : Below w.heap.size w ((w.alloc (.cells (spC a A1 n c1) 32)).alloc (.cells (spC b A2 m c2) 32)) := ((Below.refl _ w).alloc (Nat.le_refl _) _).alloc (by simp) _
  have bk1 := (Bk.new w 32 (spC a A1 n c1)).alloc (.cells (spC b A2 m c2) 32)
  have bk2 := Bk.new (w.alloc (.cells (spC a A1 n c1) 32)) 32 (spC b A2 m c2)
  rw [World.size_alloc] at bk2
  obtain ⟨W, hW⟩ : ∃ W, (w.alloc (.cells (spC a A1 n c1) 32)).alloc (.cells (spC b A2 m c2) 32) = W := ⟨_, rfl⟩
  rw [hW] at hb0 bk1 bk2
  have HW := Lib.hid hW
  obtain ⟨g, hgq⟩ : ∃ g, w.heap.size = g := ⟨_, rfl⟩
  rw [hgq] at bk1 bk2
  have HG := Lib.hid hgq
  have k1 : W.cell? ⟨g, 2, none⟩ = some (.int .u64 a.id) := bk1.cell 2
  have k2 : W.cell? ⟨g + 1, 2, none⟩ = some (.int .u64 b.id) := bk2.cell 2
  obtain ⟨q, hq⟩ : ∃ q, decide (a.id = b.id) = q := ⟨_, rfl⟩
  have he : ((a.id : Int) == (b.id : Int)) = q := by rw [← hq]; by_cases h : a.id = b.id <;> simp [h] <;> omega
  rw [hq]
  have HB := Lib.hid hb0
  clear hW hgq hb0 bk1 bk2 hq
  go_enter Try.func40, Try.ntmps40
  go_upto_region 1 with fail
  rw [HW.out, HG.out]
  go_wp2
  go_ret
  exact ⟨rfl, HB.out⟩
end Go.Proofs.Ytchpekidnbdpdaa


/- ref.Order: by insertion. -/
namespace Go.Proofs.Ytchpekidnbdpdaa
open Go.RowKit
attribute [local go_sem ↓] loadK_shut
attribute [local go_sem ↓] appK_shut
attribute [local go_sem ↓] sliced_s
attribute [local go_sem ↓ high] sliced_s0

theorem insS_split (x : Sp) : ∀ (a b : List Sp), (∀ y ∈ a, ¬ spCmp x y < 0) → (∀ y ∈ b, spCmp x y < 0) → insS x (a ++ b) = a ++ x :: b
  | [], [], _, _ => rfl
  | [], y :: b, _, h => by simp [insS, h y (by simp)]
  | y :: a, b, h1, h2 => by
    rw [List.cons_append, insS, if_neg (h1 y (by simp)), insS_split x a b (fun z hz => h1 z (by simp [hz])) h2]
    rfl
theorem insS_at {x : Sp} {l : List Sp} {k : Nat} (hs : SortedS l) (hd : ∀ y ∈ l.drop k, spCmp x y < 0) (hl : k ≤ l.length) (hk : ∀ y, k ≠ 0 → l[k - 1]? = some y → ¬ spCmp x y < 0) : insS x l = l.take k ++ x :: l.drop k := by
  have h := insS_split x (l.take k) (l.drop k) (fun z hz => ?_) hd
  · rwa [List.take_append_drop] at h
  · obtain ⟨i, hi, rfl⟩ := List.mem_iff_getElem.1 hz
    simp only [List.length_take] at hi
    rw [List.getElem_take]
    have h1 := hk _ (by omega) (List.getElem?_eq_getElem (by omega : k - 1 < l.length))
    intro h2
    have h3 : spCmp l[i] (l[k - 1]'(by omega)) ≤ 0 := by
      by_cases hik : i = k - 1
      · subst hik
        rw [(spCmp_cmp.eq _ _).2 rfl]
        exact Int.le_refl _
      · exact (List.pairwise_iff_getElem.1 hs) i (k - 1) (by omega) (by omega) (by omega)
    have h4 := spCmp_cmp.le (show spCmp x l[i] ≤ 0 by omega) h3
    have h5 := (spCmp_cmp.eq _ _).1 (show spCmp x (l[k - 1]'(by omega)) = 0 by omega)
    have h6 := spCmp_cmp.neg l[i] (l[k - 1]'(by omega))
    rw [← h5] at h6 h3
    omega
theorem insS_sp {x : Sp} {l : List El} {k : Nat} (hs : SortedS (sps l)) (hd : ∀ y ∈ l.drop k, spCmp x y.s < 0) (hl : k ≤ l.length) (hk : ∀ y, k ≠ 0 → l[k - 1]? = some y → ¬ spCmp x y.s < 0) : insS x (sps l) = sps (l.take k) ++ x :: sps (l.drop k) := by
  have h := insS_at (x := x) (k := k) hs (fun y hy => by
    rw [sps, ← List.map_drop] at hy
    obtain ⟨e, he, rfl⟩ := List.mem_map.1 hy
    exact hd e he) (by rw [sps_length]; exact hl) (fun y h0 hy => by
    simp only [sps, List.getElem?_map, Option.map_eq_some_iff] at hy
    obtain ⟨e, he, rfl⟩ := hy
    exact hk e h0 he)
  rw [h]
  simp only [sps, List.map_take, List.map_drop]
end Go.Proofs.Ytchpekidnbdpdaa


/- bootprintkit.Shuffled: the same spans in another order. -/
namespace Go.Proofs.Ytchpekidnbdpdaa
open Go.RowKit
def storeK (t : TypeId) (a : Addr) (v : Value) : Sem Unit := storeVar t a v
theorem storeK_shut (t : TypeId) (a : Addr) (v : Value) : storeVar t a v = storeK t a v := rfl
theorem loadS_shut (a : Addr) : loadVar 32 a = loadK 32 a := rfl
attribute [local go_sem ↓] loadS_shut
attribute [local go_sem ↓] storeK_shut
attribute [local go_sem ↓] appK_shut

theorem els_set {l : List El} {i : Nat} (hi : i < l.length) (e : El) : els (l.set i e) = els (l.take i) ++ elC e ++ els (l.drop (i + 1)) := by
  rw [List.set_eq_take_append_cons_drop, if_pos hi, els_append]
  simp [els]
theorem run_storeVar_at {P : Program} (w : World) (g o : Nat) (t ty : TypeId) (cells cur : Array Value) (hg : w.heap[g]? = some (.cells cur t (0, 0))) (hl : o + cells.size ≤ cur.size) (h1 : ∀ v ∈ cells.toList, v.oneCell' = true) (hi : (P.info? ty).map (·.size) = some cells.size) :
    (storeVar ty ⟨g, o, none⟩ (.agg cells)).run P w = .ok () (w.setRow g (cur.toList.take o ++ cells.toList ++ cur.toList.drop (o + cells.size)).toArray) := by
  have := run_storeCells_at (P := P) g o t cells.toList 0 cur w hg (by simpa using hl) h1
  cases hq : P.info? ty with
  | none => simp [hq] at hi
  | some i =>
    have hs : cells.size = i.size := by simp [hq] at hi; omega
    rw [Array.length_toList, Nat.add_zero] at this
    simp [storeVar, sizeOf, typeInfo, hq, Value.cells, hs]
    simpa [hs] using this
set_option maxRecDepth 100000 in
/-- A span stored into a row. -/
theorem RowS.store {W : World} {base g n c i : Nat} {l : List El} (h : RowS W base (.slice (some ⟨g, 0, none⟩) n c) n l) (hi : i < n) (e : El) (he : OkF W (.slice (some ⟨g, 0, none⟩) n c) e) :
    ∃ W', (storeK 32 ⟨g, i * 11, none⟩ (spV e.s e.A e.n e.c)).run Try.prog W = .ok () W' ∧ RowS W' base (.slice (some ⟨g, 0, none⟩) n c) n (l.set i e) ∧ W.grownBy W' (some g) := by
  rcases h.own.2 with ⟨h1, _⟩ | ⟨g', cap', cur, hv, hbase, hb, hnc, hcm, hcs, htk⟩
  · cases h1
  · injection hv with e1 _ e3
    injection e1 with e1
    injection e1 with e1
    subst e1 e3
    have hi11 : i * 11 + 11 ≤ n * 11 := by omega
    have hn11 : n * 11 ≤ cur.size := by rw [hcs]; exact Nat.mul_le_mul_right 11 hnc
    have hst : (storeK 32 ⟨g, i * 11, none⟩ (spV e.s e.A e.n e.c)).run Try.prog W = .ok () (W.setRow g (cur.toList.take (i * 11) ++ elC e ++ cur.toList.drop (i * 11 + 11)).toArray) :=
      run_storeVar_at W g (i * 11) 32 32 (spC e.s e.A e.n e.c) cur hb (by show i * 11 + 11 ≤ _; omega) (fun v hv => by
        have := spC_one e.s e.A e.n e.c
        rw [Array.all_eq_true'] at this
        exact this v (by simpa using hv)) (by rfl)
    refine ⟨_, hst, ?_, only_row g _⟩
    have hgr : W.grownBy (W.setRow g (cur.toList.take (i * 11) ++ elC e ++ cur.toList.drop (i * 11 + 11)).toArray) (some g) := only_row g _
    have hF : ∀ x ∈ l.set i e, OkF W (.slice (some ⟨g, 0, none⟩) n c) x := fun x hx => by
      rcases List.mem_or_eq_of_mem_set hx with hx | rfl
      · exact ⟨h.ok x hx, h.far x hx⟩
      · exact he
    refine ⟨⟨by rw [els_length, List.length_set, h.len], .inr ⟨g, c, _, rfl, hbase, setRow_heap W g cur _ _ _ hb, hnc, hcm, ?_, ?_⟩⟩, by rw [List.length_set, h.len], fun x hx => ?_, fun x hx => (hF x hx).2⟩
    · simp only [List.size_toArray, List.length_append, List.length_take, List.length_drop, Array.length_toList, elC_length]
      omega
    · have e1 : els (l.take i) = cur.toList.take (i * 11) := by
        rw [← els_take, ← htk, List.take_take, Nat.min_eq_left (by omega)]
      have e2 : els (l.drop (i + 1)) = (cur.toList.drop (i * 11 + 11)).take (n * 11 - (i * 11 + 11)) := by
        rw [← els_drop, ← htk, List.drop_take, show (i + 1) * 11 = i * 11 + 11 from by omega]
      have hl1 : (cur.toList.take (i * 11) ++ elC e).length = i * 11 + 11 := by
        rw [List.length_append, List.length_take, Array.length_toList, elC_length, Nat.min_eq_left (by omega)]
      rw [els_set (by rw [h.len]; exact hi), e1, e2, List.take_append, hl1, List.take_of_length_le (by omega)]
    · obtain ⟨h1, h2⟩ := hF x hx
      refine ⟨?_, h1.len, h1.max⟩
      by_cases ht : x.s.tags = []
      · rw [ht]
        exact Rd.nil
      · exact h1.rd.grownS hgr fun a ha => h2 ht a ha
theorem OkF.grown {w w' : World} {v : Value} {e : El} (h : OkF w v e) (hg : w.grownBy w' v.ownBlock) : OkF w' v e := by
  obtain ⟨h1, h2⟩ := h
  refine ⟨⟨?_, h1.len, h1.max⟩, h2⟩
  by_cases ht : e.s.tags = []
  · rw [ht]
    exact Rd.nil
  · exact h1.rd.grownS hg fun a ha => h2 ht a ha
theorem RowS.okf {w : World} {base n : Nat} {v : Value} {l : List El} (h : RowS w base v n l) {e : El} (he : e ∈ l) : OkF w v e := ⟨h.ok e he, h.far e he⟩
/-- The same spans, in a row of the call's own, in some order. -/
def ShufPost (w : World) (n : Nat) (l : List El) (e : Ending) (w' : World) : Prop :=
  ∃ A' c' l', e = .returned (.slice A' n c') ∧ (sps l').Perm (sps l) ∧ (∀ x ∈ l', x.n ≤ 1000000) ∧ RowS w' w.heap.size (.slice A' n c') n l' ∧ Below w.heap.size w w'
set_option maxRecDepth 100000 in
set_option maxHeartbeats 4000000 in
theorem kitShuf {A AP : Option Addr} {c n B m cp : Nat} {l : List El} {ps : List Int} (w : World) (hf : RbS w B A l) (hn : l.length = n) (hB : B ≤ w.heap.size) (hnl : n ≤ 100000) (hsm : ∀ e ∈ l, e.n ≤ 1000000)
    (hp : Ri w B AP ps) (hm : ps.length = m) (hml : m ≤ 9223372036854775807) :
    Calls Try.prog 19 #[.slice A n c, .slice AP m cp] w (ShufPost w n l) := by
  have HN := Lib.hid hn
  have HM := Lib.hid hm
  have HSM := Lib.hid hsm
  have hrl := Rd.alloc hf.rd hB (.cells #[] 32)
  clear hn hsm hm
  go_enter Try.func19, Try.ntmps19
  go_wp2_with (at_builtin; go_loud (refine wpList_appS _ rfl (.tmp 9) (.tmp 10) rfl w.heap.size _ 0 [] rfl (World.ownsRow_lit w #[] 0 (Nat.le_refl _) (by simp [maxLen]) rfl) B A n c l rfl HN.out hrl (by omega) (by simp) ?_))
  intro A1 c1 w1 hap _
  have hap1 := hap.fresh1
  have hrow1 : RowS w1 w.heap.size (.slice A1 n c1) n l := by
    have h := (RowS.nil w w.heap.size).app (es := l) (v' := .slice A1 n c1) (w' := w1) (by rw [Nat.zero_add, HN.out, List.nil_append]; exact hap1) (fun e he => (hf.ok e he).more hB) (fun e he ht a ha e1 => by cases e1)
    rw [Nat.zero_add, HN.out, List.nil_append] at h
    exact h
  have hb1 := hap1.below0
  obtain ⟨g, rfl⟩ : ∃ g, A1 = some ⟨g, 0, none⟩ := by
    rcases hap1.own.2 with ⟨h1, _⟩ | ⟨g, _, _, h1, _⟩
    · injection h1 with e1
      contradiction
    · injection h1 with e1
      exact ⟨g, e1⟩
  clear hap hap1 hrl
  go_wp2
  go_loopw [6] (fun iv_ wr => ∃ (i : Nat) (l' : List El), i ≤ m ∧ iv_ = .int .i64 i ∧ (sps l').Perm (sps l) ∧ (∀ x ∈ l', x.n ≤ 1000000) ∧ RowS wr w.heap.size (.slice (some ⟨g, 0, none⟩) n c1) n l' ∧ Below w.heap.size w wr) (fun i _ => m - (intOf i).toNat)
  case atStart => exact ⟨0, l, by omega, rfl, List.Perm.refl _, HSM.out, hrow1, hb1⟩
  case round =>
    obtain ⟨i, l', hi, rfl, hpm, hsm', hrow, hb⟩ := hrel
    have HP := Lib.hid hpm
    have HS' := Lib.hid hsm'
    clear hpm hsm'
    by_cases hlt : i < m
    · have hlt' : (i : Int) < (m : Int) := by omega
      by_cases h1n : 1 < n
      · have h1n' : (1 : Int) < (n : Int) := by omega
        obtain ⟨b, o, z, -, hAP, -, hcz⟩ := Ri.get (k := i) (Rd.below hp (hb.mono hB)) (by rw [HM.out]; exact hlt)
        subst hAP
        have hz0 : ¬ (n : Int) = 0 := by omega
        have hzb : ((n : Int) == 0) = false := by rw [beq_eq_false_iff_ne]; omega
        have hz1 := Int.emod_nonneg z hz0
        have hz2 := Int.emod_lt_of_pos z (show (0 : Int) < (n : Int) by omega)
        obtain ⟨p, hp'⟩ : ∃ p : Nat, z % (n : Int) = (p : Int) := ⟨(z % (n : Int)).toNat, by omega⟩
        have hpk := fun W => kitPick z n W (by omega) (by omega)
        rw [hp'] at hpk hz1 hz2
        have hpn : p < n := by omega
        have hpn' : (p : Int) < (n : Int) := by omega
        obtain ⟨q, hq'⟩ : ∃ q : Nat, i % n = q := ⟨_, rfl⟩
        have hqn : q < n := by rw [← hq']; exact Nat.mod_lt _ (by omega)
        have hqn' : (q : Int) < (n : Int) := by omega
        have hrem : (i : Int).tmod (n : Int) = (q : Int) := by rw [← hq']; rfl
        have HPK := Lib.hid hpk
        clear hpk hp' hz1 hz2 hq'
        go_wp2_with fail
        go_quiet ((go_at_call 20; exact Calls.quiet_of_same (HPK.out _)))
        have hb1 : Below w.heap.size w (wr.drewN nq) := below_drewN hb nq
        have hrow1' := hrow.drewN nq
        obtain ⟨WX, hWX⟩ : ∃ WX, wr.drewN nq = WX := ⟨_, rfl⟩
        rw [hWX] at hb1 hrow1' ⊢
        clear hWX
        have hbd : Below w.heap.size w WX.drew := below_drewN hb1 1
        have hrowd : RowS WX.drew w.heap.size (.slice (some ⟨g, 0, none⟩) n c1) n l' := hrow1'.drewN 1
        have hlen := hrowd.len
        obtain ⟨x, hx⟩ : ∃ x, l'[p]? = some x := ⟨_, List.getElem?_eq_getElem (by rw [hlen]; exact hpn)⟩
        obtain ⟨y, hy⟩ : ∃ y, l'[q]? = some y := ⟨_, List.getElem?_eq_getElem (by rw [hlen]; exact hqn)⟩
        have hxm := List.mem_of_getElem? hx
        have hym := List.mem_of_getElem? hy
        have hlp : (loadK 32 ⟨g, p * 11, none⟩).run Try.prog WX.drew = .ok (spV x.s x.A x.n x.c) WX.drew := by
          obtain ⟨b', o', e', -, hc', -⟩ := hrowd.rbs.get hx
          cases e'
          rw [Nat.zero_add] at hc'
          exact loadK_el hc'
        have hlq : (loadK 32 ⟨g, q * 11, none⟩).run Try.prog WX.drew = .ok (spV y.s y.A y.n y.c) WX.drew := by
          obtain ⟨b', o', e', -, hc', -⟩ := hrowd.rbs.get hy
          cases e'
          rw [Nat.zero_add] at hc'
          exact loadK_el hc'
        obtain ⟨W1, hs1, hrs1, hgr1⟩ := hrowd.store hpn y (hrowd.okf hym)
        obtain ⟨W2, hs2, hrs2, hgr2⟩ := hrs1.store hqn x ((hrowd.okf hxm).grown hgr1)
        have hgw := (hrowd.own_lt g rfl).2
        have hbl : ∀ {U V : World}, U.grownBy V (some g) → w.heap.size ≤ U.heap.size → Below w.heap.size U V := fun h hs => ⟨h.os, h.tape, h.output, h.size, fun i hi => h.block i (by omega) (fun e => by have := Option.some.inj e; omega)⟩
        have hb2 : Below w.heap.size w W2 := (hbd.trans (hbl hgr1 hbd.size)).trans (hbl hgr2 (Nat.le_trans hbd.size hgr1.size))
        have hpm2 : (sps ((l'.set p y).set q x)).Perm (sps l) := by
          refine (List.Perm.map _ ?_).trans HP.out
          obtain ⟨h1, h2⟩ := List.getElem?_eq_some_iff.1 hx
          obtain ⟨h3, h4⟩ := List.getElem?_eq_some_iff.1 hy
          rw [← h2, ← h4]
          exact List.set_set_perm h1 h3
        have hsm2 : ∀ u ∈ (l'.set p y).set q x, u.n ≤ 1000000 := fun u hu => by
          rcases List.mem_or_eq_of_mem_set hu with hu | rfl
          · rcases List.mem_or_eq_of_mem_set hu with hu | rfl
            · exact HS'.out u hu
            · exact HS'.out _ hym
          · exact HS'.out _ hxm
        have HR : Hid (∃ l2 : List El, (sps l2).Perm (sps l) ∧ (∀ x ∈ l2, x.n ≤ 1000000) ∧ RowS W2 w.heap.size (.slice (some ⟨g, 0, none⟩) n c1) n l2 ∧ Below w.heap.size w W2) := ⟨_, hpm2, hsm2, hrs2, hb2⟩
        clear hpm2 hsm2 hrs1 hrs2 hb2 hgr1 hgr2 hxm hym hx hy hlen hrowd hbd hbl hrow1' hb1 hrow
        go_wp2_with fail
        go_region_with (fail)
        all_goals
          clear hlp hlq hs1 hs2
          go_wp2
          go_roundw
          case rel =>
            obtain ⟨l2, hr1, hr2, hr3, hr4⟩ := HR.out
            exact ⟨i + 1, l2, by omega, by go_num, hr1, hr2, hr3, hr4⟩
          case measure => simp [intOf]; omega
      · have h1n' : decide ((1 : Int) < (n : Int)) = false := by simp; omega
        have HX : Hid (ShufPost w n l (.returned (.slice (some ⟨g, 0, none⟩) n c1)) wr) := ⟨_, _, l', rfl, HP.out, HS'.out, hrow, hb⟩
        go_wp2
        go_ret
        exact HX.out
    · have hlt' : decide ((i : Int) < (m : Int)) = false := by simp; omega
      have HX : Hid (ShufPost w n l (.returned (.slice (some ⟨g, 0, none⟩) n c1)) wr) := ⟨_, _, l', rfl, HP.out, HS'.out, hrow, hb⟩
      go_wp2
      go_ret
      exact HX.out
end Go.Proofs.Ytchpekidnbdpdaa

/- Layer 21: a row of spans cut off and cleared behind the cut (the built-in clear); spans kept once each, plain. -/
namespace Go.Proofs.Ytchpekidnbdpdaa
open Go.RowKit

/-- Each ID's first, of spans as they lie. -/
def cpGE : Nat → List El → List El
  | _, [] => []
  | p, x :: l => if x.s.id = p then cpGE p l else x :: cpGE x.s.id l
def cpE : List El → List El
  | [] => []
  | x :: l => x :: cpGE x.s.id l
theorem sps_cpGE : ∀ (l : List El) (p : Nat), sps (cpGE p l) = cpG p (sps l)
  | [], _ => rfl
  | x :: l, p => by
    rw [cpGE]
    show _ = cpG p (x.s :: sps l)
    rw [cpG]
    split
    · exact sps_cpGE l p
    · show x.s :: sps (cpGE x.s.id l) = _
      rw [sps_cpGE l]
theorem sps_cpE (l : List El) : sps (cpE l) = cpc (sps l) := by
  cases l with
  | nil => rfl
  | cons x l => show x.s :: sps (cpGE x.s.id l) = x.s :: cpG x.s.id (sps l); rw [sps_cpGE]
theorem cpGE_snoc : ∀ (l : List El) (p : Nat) (x : El), cpGE p (l ++ [x]) = if x.s.id = ((l.getLast?.map (·.s.id)).getD p) then cpGE p l else cpGE p l ++ [x]
  | [], p, x => by
    show (if x.s.id = p then [] else [x]) = if x.s.id = p then [] else [] ++ [x]
    rfl
  | y :: l, p, x => by
    have ih := fun q => cpGE_snoc l q x
    have hl : ((y :: l).getLast?.map (·.s.id)).getD p = (l.getLast?.map (·.s.id)).getD y.s.id := by
      cases l with
      | nil => rfl
      | cons z l => rw [List.getLast?_cons_cons, List.getLast?_eq_some_getLast (List.cons_ne_nil z l)]; rfl
    rw [hl, List.cons_append, cpGE, cpGE]
    by_cases h : y.s.id = p
    · rw [if_pos h, if_pos h, ih, h]
    · rw [if_neg h, if_neg h, ih]
      split
      · rfl
      · rfl
theorem cpE_snoc {l : List El} {x y : El} (h : l.getLast? = some y) : cpE (l ++ [x]) = if x.s.id = y.s.id then cpE l else cpE l ++ [x] := by
  cases l with
  | nil => cases h
  | cons z l =>
    show z :: cpGE z.s.id (l ++ [x]) = if x.s.id = y.s.id then z :: cpGE z.s.id l else z :: cpGE z.s.id l ++ [x]
    rw [cpGE_snoc]
    have hl : (l.getLast?.map (·.s.id)).getD z.s.id = y.s.id := by
      cases l with
      | nil => simp at h; rw [h]; rfl
      | cons u l => rw [List.getLast?_cons_cons] at h; rw [h]; rfl
    rw [hl]
    split
    · rfl
    · rfl
theorem take_last {l : List El} {k : Nat} {y : El} (h : l[k]? = some y) : (l.take (k + 1)).getLast? = some y := by
  rw [take_snoc h]; simp
theorem cpE_take {l : List El} {k : Nat} {x y : El} (hy : l[k]? = some y) (hx : l[k + 1]? = some x) : cpE (l.take (k + 2)) = if x.s.id = y.s.id then cpE (l.take (k + 1)) else cpE (l.take (k + 1)) ++ [x] := by
  rw [take_snoc hx]
  exact cpE_snoc (take_last hy)
theorem cpE_one {l : List El} {x : El} (h : l[0]? = some x) : cpE (l.take 1) = l.take 1 := by
  cases l with
  | nil => simp at h
  | cons z l => rfl

theorem zsp_one : ∀ v ∈ zspC.toList, v.oneCell' = true := by decide
theorem zeroCells_one {z : Array Value} (hz : ∀ v ∈ z.toList, v.oneCell' = true) (n : Nat) : ∀ v ∈ (Builtin.zeroCells z n).toList, v.oneCell' = true := by
  intro v hv
  obtain ⟨i, hi, rfl⟩ := List.getElem_of_mem hv
  simp only [Builtin.zeroCells, Array.length_toList, Array.size_map, Array.size_range] at hi
  have h0 : 0 < z.size := by
    rcases Nat.eq_zero_or_pos z.size with h | h
    · rw [h] at hi; omega
    · exact h
  simp only [Builtin.zeroCells, Array.getElem_toList, Array.getElem_map, Array.getElem_range]
  have hm := Nat.mod_lt i h0
  rw [getElem!_pos z (i % z.size) hm]
  exact hz _ (by simp)
set_option maxRecDepth 100000 in
/-- A row of spans cut off at k, the rest cleared. -/
theorem RowS.cleared {w : World} {base g n c k : Nat} {l : List El} (h : RowS w base (.slice (some ⟨g, 0, none⟩) n c) n l) (hk : k < n) :
    ∃ W', (∀ (ty : TypeId) (c' : Nat), (Builtin.clear_ #[34] ty #[.slice (some ⟨g, k * 11, none⟩) (n - k) c']).run Try.prog w = .ok (.tuple #[]) W') ∧ RowS W' base (.slice (some ⟨g, 0, none⟩) k c) k (l.take k) ∧ w.grownBy W' (some g) := by
  have hz : ∀ W : World, (zeroValue 32).run Try.prog W = .ok (.agg zspC) W := fun W => by
    have h1 := spinfo
    cases hq : Try.prog.info? 32 with
    | none => rw [hq] at h1; cases h1
    | some i =>
      rw [hq] at h1
      have h2 := Option.some.inj h1
      have h3 : i.zero = some (.agg zspC) := congrArg Prod.fst h2
      simp [zeroValue, typeInfo, Sem.run_bind, hq, h3]
  obtain ⟨m, hm⟩ : ∃ m, n - k = m + 1 := ⟨n - k - 1, by omega⟩
  rcases h.own.2 with ⟨h1, _⟩ | ⟨g', cap', cur, hv, hbase, hb, hnc, hcm, hcs, htk⟩
  · cases h1
  · injection hv with e1 _ e3
    injection e1 with e1
    injection e1 with e1
    subst e1 e3
    have hzs : (Builtin.zeroCells zspC (m + 1)).toList.length = (m + 1) * 11 := by rw [Array.length_toList, size_zeroCells]; rfl
    have hst := run_storeCells_at (P := Try.prog) g (k * 11) 32 (Builtin.zeroCells zspC (m + 1)).toList 0 cur w hb (by rw [hzs, hcs]; have := Nat.mul_le_mul_right 11 hnc; omega) (zeroCells_one zsp_one _)
    simp only [Nat.add_zero] at hst
    refine ⟨w.setRow g (cur.toList.take (k * 11) ++ (Builtin.zeroCells zspC (m + 1)).toList ++ cur.toList.drop (k * 11 + (Builtin.zeroCells zspC (m + 1)).toList.length)).toArray, ?_, ?_, only_row g _⟩
    · intro ty c'
      rw [hm]
      have hu := run_underlying Try.underlying34 w
      simp only [Builtin.clear_]
      simp [hu, hz, Sem.run_bind, Value.cells]
      rw [hst]
      simp [Result.andThen]
    · have hl := h.len
      have hel := els_length l
      refine ⟨⟨by rw [els_length, List.length_take]; omega, .inr ⟨g, c, _, rfl, hbase, setRow_heap w g cur _ _ _ hb, by omega, hcm, ?_, ?_⟩⟩, by rw [List.length_take]; omega, fun e he => ?_, fun e he => h.far e (List.mem_of_mem_take he)⟩
      · have := Nat.mul_le_mul_right 11 hnc
        simp only [List.size_toArray, List.length_append, List.length_take, List.length_drop, Array.length_toList, hzs]
        omega
      · have := Nat.mul_le_mul_right 11 hnc
        rw [List.append_assoc, List.take_append_of_le_length (by rw [List.length_take, Array.length_toList]; omega), List.take_take, Nat.min_self]
        rw [show els (l.take k) = (els l).take (k * 11) from (flatR_take elC_length l k).symm, ← htk, List.take_take]
        congr 1
        omega
      · have hf := h.ok e (List.mem_of_mem_take he)
        refine ⟨?_, hf.len, hf.max⟩
        by_cases ht : e.s.tags = []
        · rw [ht]; exact Rd.nil
        · exact hf.rd.grownS (only_row g _) fun a ha e1 => h.far e (List.mem_of_mem_take he) ht a ha (by rw [← Option.some.inj e1]; rfl)
end Go.Proofs.Ytchpekidnbdpdaa


/- Layer 21: slices.CompactFunc of spans by their IDs. -/
namespace Go.Proofs.Ytchpekidnbdpdaa
open Go.RowKit
attribute [local go_sem ↓] loadS_shut storeK_shut
theorem clear_shut (ty : TypeId) (v : Value) : Builtin.clear_ #[34] ty #[v] = Builtin.clear_ #[34] ty #[v] := rfl
/-- What CompactFunc hands back. -/
def CpcPost (w : World) (base : Nat) (A : Option Addr) (n cap : Nat) (l : List El) (e : Ending) (w' : World) : Prop :=
  ∃ k l', e = .returned (.slice A k cap) ∧ k ≤ n ∧ l' = cpE l ∧ RowS w' base (.slice A k cap) k l' ∧ w.grownBy w' (Value.slice A n cap).ownBlock
theorem below_by {w w' : World} {n : Nat} {row : Option Nat} (h : Below n w w') (hn : w.heap.size ≤ n) : w.grownBy w' row :=
  ⟨h.os, h.tape, h.output, h.size, fun i hi _ => h.block i (Nat.lt_of_lt_of_le hi hn)⟩
set_option maxRecDepth 100000 in
set_option maxHeartbeats 8000000 in
theorem ajCompact {base n cap : Nat} {A : Option Addr} {l : List El} (w : World) (h : RowS w base (.slice A n cap) n l) (hz : n < 1152921504606846976) :
    Calls Try.prog 39 #[.slice A n cap, .func (.func 40) #[] #[]] w (CpcPost w base A n cap l) := by
  have HL := Lib.hid h.len
  have hnc := h.cap
  by_cases h2 : n < 2
  · have h2z : (n : Int) < 2 := by omega
    have HR : Aside _ := h
    clear h
    go_enter Try.func39, Try.ntmps39
    go_wp2
    go_ret
    refine ⟨n, l, rfl, Nat.le_refl _, ?_, HR.out, World.grownBy.refl _ _⟩
    have hl := HL.out
    match l, hl with
    | [], _ => rfl
    | [x], _ => rfl
    | x :: y :: r, hl => simp at hl; omega
  have h2z : ¬ (n : Int) < 2 := by omega
  obtain ⟨g, rfl⟩ : ∃ g, A = some ⟨g, 0, none⟩ := by
    rcases h.own.2 with ⟨h1, h3⟩ | ⟨g, cap', cur, hv, _⟩
    · omega
    · injection hv with e1 _ e3
      exact ⟨g, e1⟩
  have HR : Aside _ := h
  clear h
  go_enter Try.func39, Try.ntmps39
  go_wp2
  go_loopw [5] (fun v wr => ∃ k : Nat, v = .int .i64 (k : Nat) ∧ 1 ≤ k ∧ k ≤ n ∧ Aside (RowS wr base (.slice (some ⟨g, 0, none⟩) n cap) n l) ∧ Hid (w.grownBy wr (some g)) ∧ Hid (cpE (l.take k) = l.take k)) (fun v _ => n - (intOf v).toNat)
  case atStart =>
    obtain ⟨x, hx⟩ : ∃ x, l[0]? = some x := ⟨_, List.getElem?_eq_getElem (by rw [HL.out]; omega)⟩
    exact ⟨1, rfl, Nat.le_refl _, by omega, HR, World.grownBy.refl _ _, cpE_one hx⟩
  case round =>
    obtain ⟨k, rfl, hk1, hkn, R1, HG, HC⟩ := hrel
    clear HR
    by_cases hlt : k < n
    · have hltz : (k : Int) < (n : Int) := by omega
      obtain ⟨j, hj⟩ : ∃ j, k = j + 1 := ⟨k - 1, by omega⟩
      obtain ⟨x, hx⟩ : ∃ x, l[k]? = some x := ⟨_, List.getElem?_eq_getElem (by rw [HL.out]; omega)⟩
      obtain ⟨y, hy⟩ : ∃ y, l[j]? = some y := ⟨_, List.getElem?_eq_getElem (by rw [HL.out]; omega)⟩
      have HX := Lib.hid hx
      have HY := Lib.hid hy
      have rk : IntKind.i64.wrap ((k : Int) - 1) = (j : Int) := by rw [IntKind.wrap_i64]; omega
      have bj : (j : Int) < (n : Int) := by omega
      have HJ := Lib.hid hj
      have ld : ∀ W, RowS W base (.slice (some ⟨g, 0, none⟩) n cap) n l → (loadK 32 ⟨g, k * 11, none⟩).run Try.prog W = .ok (spV x.s x.A x.n x.c) W ∧ (loadK 32 ⟨g, j * 11, none⟩).run Try.prog W = .ok (spV y.s y.A y.n y.c) W := fun W hR => by
        obtain ⟨b1, o1, e1, -, hc1, -⟩ := hR.rbs.get HX.out
        obtain ⟨b2, o2, e2, -, hc2, -⟩ := hR.rbs.get HY.out
        cases e1; cases e2
        have q1 := loadK_el hc1
        have q2 := loadK_el hc2
        rw [Nat.zero_add] at q1 q2
        exact ⟨q1, q2⟩
      have LD : Aside _ := ld
      have l1 := ld _ (R1.out.drewN 1)
      obtain ⟨l1, l2⟩ := l1
      obtain ⟨q, hq⟩ : ∃ q, decide (x.s.id = y.s.id) = q := ⟨_, rfl⟩
      have hce := ajEq (A1 := x.A) (c1 := x.c) (n := x.n) (A2 := y.A) (c2 := y.c) (m := y.n) x.s y.s wr.drew
      rw [hq] at hce
      have HCE := Lib.hid hce
      have HQ := Lib.hid hq
      clear ld hx hy hq hce hj
      go_wp2_with fail
      go_region_held3 (fun w' => (loadK 32 ⟨g, k * 11, none⟩).run Try.prog w' = .ok (spV x.s x.A x.n x.c) w' ∧ (loadK 32 ⟨g, j * 11, none⟩).run Try.prog w' = .ok (spV y.s y.A y.n y.c) w')
        (first | exact ⟨l1, l2⟩ | exact ⟨m1, m2⟩)
        (first
          | (go_at_call 40
             refine HCE.out.mono ?_
             rintro e w5 ⟨rfl, hb5⟩
             have R5 : Aside (RowS w5 base (.slice (some ⟨g, 0, none⟩) n cap) n l) := (R1.out.drewN 1).bS hb5
             obtain ⟨m1, m2⟩ := LD.out w5 R5.out
             have g1 : wr.grownBy wr.drew (some g) := ⟨rfl, rfl, rfl, Nat.le_refl _, fun _ _ _ => rfl⟩
             have HG5 : Hid (w.grownBy w5 (some g)) := (HG.out.trans g1).trans (below_by hb5 (Nat.le_refl _)))
          | fail)
      have hj := HJ.out
      cases q with
      | false =>
        have hne : ¬ x.s.id = y.s.id := of_decide_eq_false HQ.out
        have HC2 : Hid (cpE (l.take (k + 1)) = l.take (k + 1)) := by
          have hc := HC.out
          have e1 := cpE_take HY.out (x := x) (by rw [← hj]; exact HX.out)
          rw [if_neg hne, ← hj, hc] at e1
          show cpE (l.take (k + 1)) = l.take (k + 1)
          rw [show k + 1 = j + 2 by omega, e1, show j + 2 = k + 1 by omega, take_snoc HX.out]
        clear hj hne
        go_wp2
        go_roundw
        case rel => exact ⟨k + 1, by go_num, by omega, by omega, R5, HG5, HC2⟩
        case measure => simp [intOf]; omega
      | true =>
        have heq : x.s.id = y.s.id := of_decide_eq_true HQ.out
        have HK0 : Hid (cpE (l.take (k + 1)) = l.take k) := by
          have hc := HC.out
          have e1 := cpE_take HY.out (x := x) (by rw [← hj]; exact HX.out)
          rw [if_pos heq, ← hj, hc] at e1
          rw [show k + 1 = j + 2 by omega]
          exact e1
        clear hj heq m1 m2 l1 l2
        have hk1' : 1 ≤ k := by omega
        go_wp2
        obtain ⟨nn, hnn⟩ : ∃ nn, n - k = nn := ⟨_, rfl⟩
        obtain ⟨cc, hcc⟩ : ∃ cc, cap - k = cc := ⟨_, rfl⟩
        rw [hnn, hcc]
        have HNN := Lib.hid hnn
        have HCC := Lib.hid hcc
        have hncc : nn ≤ cc := by omega
        clear hnn hcc
        go_loopw [5, 7] (fun v5 v7 wr => ∃ (p q2 : Nat) (kept : List El), v5 = .int .i64 (p : Nat) ∧ v7 = .int .i64 (q2 : Nat) ∧ 1 ≤ q2 ∧ q2 ≤ nn ∧ p + 1 ≤ k + q2 ∧ Hid (kept = cpE (l.take (k + q2)) ∧ kept.length = p) ∧ Aside (RowS wr base (.slice (some ⟨g, 0, none⟩) n cap) n (kept ++ l.drop p)) ∧ Hid (w.grownBy wr (some g))) (fun _ v7 _ => nn - (intOf v7).toNat)
        case atStart => exact ⟨k, 1, l.take k, rfl, rfl, Nat.le_refl _, by have := HNN.out; omega, Nat.le_refl _, ⟨HK0.out.symm, by rw [List.length_take, HL.out]; omega⟩, by rw [List.take_append_drop]; exact R5, HG5⟩
        case round =>
          obtain ⟨p, q2, kept, rfl, rfl, hq1, hqn, hpq, HK, R6, HG6⟩ := hrel
          clear R5 HG5 HK0
          have hkn2 : Hid (nn + k = n) := by have := HNN.out; show nn + k = n; omega
          by_cases hlt2 : q2 < nn
          · have hltz2 : (q2 : Int) < (nn : Int) := by omega
            have HLT2 := Lib.hid hlt2
            obtain ⟨q3, hq3⟩ : ∃ q3, q2 + 1 = q3 := ⟨_, rfl⟩
            have wq : IntKind.i64.wrap ((q2 : Int) + 1) = (q3 : Int) := by have := HNN.out; rw [IntKind.wrap_i64]; omega
            obtain ⟨p3, hp3⟩ : ∃ p3, p + 1 = p3 := ⟨_, rfl⟩
            have wp : IntKind.i64.wrap ((p : Int) + 1) = (p3 : Int) := by have := HNN.out; rw [IntKind.wrap_i64]; omega
            have HQ3 := Lib.hid hq3
            have HP3 := Lib.hid hp3
            clear hq3 hp3
            obtain ⟨r, hr⟩ : ∃ r, q2 = r + 1 := ⟨q2 - 1, by omega⟩
            have rr : IntKind.i64.wrap ((q2 : Int) - 1) = (r : Int) := by have := HNN.out; rw [IntKind.wrap_i64]; omega
            have br : (r : Int) < (nn : Int) := by omega
            have HRR := Lib.hid hr
            obtain ⟨x2, hx2⟩ : ∃ x, l[k + q2]? = some x := ⟨_, List.getElem?_eq_getElem (by rw [HL.out, ← hkn2.out]; omega)⟩
            obtain ⟨y2, hy2⟩ : ∃ y, l[k + r]? = some y := ⟨_, List.getElem?_eq_getElem (by rw [HL.out, ← hkn2.out]; omega)⟩
            have gx : (kept ++ l.drop p)[k + q2]? = some x2 := by
              rw [List.getElem?_append_right (by rw [HK.out.2]; omega), HK.out.2, List.getElem?_drop, show p + (k + q2 - p) = k + q2 by omega]
              exact hx2
            have gy : (kept ++ l.drop p)[k + r]? = some y2 := by
              rw [List.getElem?_append_right (by rw [HK.out.2]; omega), HK.out.2, List.getElem?_drop, show p + (k + r - p) = k + r by omega]
              exact hy2
            have ld : ∀ W, RowS W base (.slice (some ⟨g, 0, none⟩) n cap) n (kept ++ l.drop p) → (loadK 32 ⟨g, k * 11 + q2 * 11, none⟩).run Try.prog W = .ok (spV x2.s x2.A x2.n x2.c) W ∧ (loadK 32 ⟨g, k * 11 + r * 11, none⟩).run Try.prog W = .ok (spV y2.s y2.A y2.n y2.c) W := fun W hR => by
              obtain ⟨b1, o1, e1, -, hc1, -⟩ := hR.rbs.get gx
              obtain ⟨b2, o2, e2, -, hc2, -⟩ := hR.rbs.get gy
              cases e1; cases e2
              have q1 := loadK_el hc1
              have q2 := loadK_el hc2
              rw [Nat.zero_add, Nat.add_mul] at q1 q2
              exact ⟨q1, q2⟩
            have LD2 : Aside _ := ld
            obtain ⟨l1, l2⟩ := ld _ (R6.out.drewN 1)
            obtain ⟨q', hq'⟩ : ∃ q, decide (x2.s.id = y2.s.id) = q := ⟨_, rfl⟩
            have hce := ajEq (A1 := x2.A) (c1 := x2.c) (n := x2.n) (A2 := y2.A) (c2 := y2.c) (m := y2.n) x2.s y2.s wr.drew
            rw [hq'] at hce
            have HCE2 := Lib.hid hce
            have HQ2 := Lib.hid hq'
            have HX2 := Lib.hid hx2
            have HY2 := Lib.hid hy2
            have GX := Lib.hid gx
            clear ld hx2 hy2 gx gy hq' hce hr
            go_wp2_with fail
            go_region_held3 (fun w' => (loadK 32 ⟨g, k * 11 + q2 * 11, none⟩).run Try.prog w' = .ok (spV x2.s x2.A x2.n x2.c) w' ∧ (loadK 32 ⟨g, k * 11 + r * 11, none⟩).run Try.prog w' = .ok (spV y2.s y2.A y2.n y2.c) w')
              (first | exact ⟨l1, l2⟩ | exact ⟨m1, m2⟩)
              (first
                | (go_at_call 40
                   refine HCE2.out.mono ?_
                   rintro e w7 ⟨rfl, hb7⟩
                   have R7 : Aside (RowS w7 base (.slice (some ⟨g, 0, none⟩) n cap) n (kept ++ l.drop p)) := (R6.out.drewN 1).bS hb7
                   obtain ⟨m1, m2⟩ := LD2.out w7 R7.out
                   have g1 : wr.grownBy wr.drew (some g) := ⟨rfl, rfl, rfl, Nat.le_refl _, fun _ _ _ => rfl⟩
                   have HG7 : Hid (w.grownBy w7 (some g)) := (HG6.out.trans g1).trans (below_by hb7 (Nat.le_refl _)))
                | fail)
            have hr := HRR.out
            have hce := cpE_take HY2.out (x := x2) (by rw [Nat.add_assoc, ← hr]; exact HX2.out)
            rw [show k + r + 2 = k + (q2 + 1) by omega, show k + r + 1 = k + q2 by omega] at hce
            cases q' with
            | true =>
              rw [if_pos (of_decide_eq_true HQ2.out)] at hce
              have HK2 : Hid (kept = cpE (l.take (k + (q2 + 1))) ∧ kept.length = p) := ⟨by rw [hce]; exact HK.out.1, HK.out.2⟩
              clear hce hr l1 l2 m1 m2
              go_wp2
              go_roundw
              case rel =>
                have hnn2 := HNN.out; have hlt3 := HLT2.out; have h3 := HQ3.out
                subst h3
                exact ⟨p, q2 + 1, kept, rfl, rfl, by omega, by omega, by omega, HK2, R7, HG7⟩
              case measure =>
                have hnn2 := HNN.out; have hlt3 := HLT2.out; have h3 := HQ3.out
                simp [intOf]; omega
            | false =>
              rw [if_neg (of_decide_eq_false HQ2.out)] at hce
              have hpn : p < n := by have := hkn2.out; omega
              have hpz : (p : Int) < (n : Int) := by omega
              obtain ⟨W', st, R8, g8⟩ := R7.out.store (i := p) hpn x2 (R7.out.okf (List.mem_of_getElem? GX.out))
              have HK2 : Hid (kept ++ [x2] = cpE (l.take (k + (q2 + 1))) ∧ (kept ++ [x2]).length = p + 1) := ⟨by rw [hce, ← HK.out.1], by rw [List.length_append, HK.out.2]; rfl⟩
              have R9 : Aside (RowS W' base (.slice (some ⟨g, 0, none⟩) n cap) n ((kept ++ [x2]) ++ l.drop (p + 1))) := by
                have e1 : (kept ++ l.drop p).set p x2 = (kept ++ [x2]) ++ l.drop (p + 1) := by
                  have hd : l.drop p = l[p]'(by rw [HL.out]; exact hpn) :: l.drop (p + 1) := List.drop_eq_getElem_cons _
                  rw [List.set_append_right _ _ (by rw [HK.out.2]; omega), HK.out.2, Nat.sub_self, hd, List.set_cons_zero, List.append_assoc]
                  rfl
                have := R8
                rw [e1] at this
                exact this
              have HG9 : Hid (w.grownBy W' (some g)) := HG7.out.trans g8
              clear hce hr l1 l2 m2 R8 g8
              go_wp2
              go_roundw
              case rel =>
                have hnn2 := HNN.out; have hlt3 := HLT2.out; have h3 := HQ3.out; have h4 := HP3.out
                subst h3 h4
                exact ⟨p + 1, q2 + 1, kept ++ [x2], rfl, rfl, by omega, by omega, by omega, HK2, R9, HG9⟩
              case measure =>
                have hnn2 := HNN.out; have hlt3 := HLT2.out; have h3 := HQ3.out
                simp [intOf]; omega
          · have hltz2 : ¬ (q2 : Int) < (nn : Int) := by omega
            have hpn : p < n := by have := hkn2.out; omega
            have hpz : (p : Int) ≤ (n : Int) := by omega
            have hpc : (p : Int) ≤ (cap : Int) := by omega
            obtain ⟨W', cl, R8, g8⟩ := R6.out.cleared hpn
            have R9 : Aside (RowS W' base (.slice (some ⟨g, 0, none⟩) p cap) p kept) := by
              have := R8
              rw [List.take_append_of_le_length (by rw [HK.out.2]; omega), List.take_of_length_le (by rw [HK.out.2]; omega)] at this
              exact this
            have HG9 : Hid (w.grownBy W' (some g)) := HG6.out.trans g8
            clear R8 g8
            go_wp2
            go_ret
            have hk2 := hkn2.out
            have hkk := HK.out.1
            rw [show k + q2 = n by omega, List.take_of_length_le (by rw [HL.out]; omega)] at hkk
            exact ⟨p, kept, rfl, by omega, hkk, R9.out, HG9.out⟩
    · have hltz : ¬ (k : Int) < (n : Int) := by omega
      obtain rfl : k = n := by omega
      go_wp2
      go_ret
      refine ⟨k, l, rfl, Nat.le_refl _, ?_, R1.out, HG.out⟩
      have := HC.out
      rw [List.take_of_length_le (by rw [HL.out]; omega)] at this
      exact this.symm
end Go.Proofs.Ytchpekidnbdpdaa

