/- Texts of the proof of GatherScriptSaid, joined: Sort SoD GaA GaB GaC GaD GaE GaF. -/
import Derived.Shelf.SlGeneric
import Derived.Shelf.SlSortCmp.WholeK
import Derived.Ground.SlsfProg
import Derived.Test.YtoojpagpkbcfjaaGreatProg
import Derived.Test.YtoojpagpkbcfjaaGreatJGatherScript1
import Derived.Test.YtoojpagpkbcfjaaGreatJGatherScript11
import Derived.Test.YtoojpagpkbcfjaaGreatJGatherScript2
import Derived.Test.YtoojpagpkbcfjaaGreatJGatherScript6
import Derived.Test.YtoojpagpkbcfjaaGreatJGatherScript7
/-
  DERIVED: THE SHELF's CONTRACTS AT THIS DUMP, IN PLAIN WORDS (tools/lay-plain.mjs out of 'TrySortZ.lean', which tools/lay-shelf.mjs wrote): THE SAME DECLARATIONS UNDER THE SAME NAMES: 'import', 'namespace', 'open', 'def', 'theorem' AND NOTHING ELSE: no command of the shelf's: FOR A HAND-IN. Each laying: the table of numbers ('.._ren') and one theorem, a field a fact of the dump's own or the kernel's comparison; each contract: ONE APPLICATION.
-/
namespace Go.Proofs
open Go.Shelf
def Try.sortSp_ren : Go.Shelf.Ren := ⟨fun | 6 => 62 | 15 => 58 | 14 => 78 | 28 => 75 | 29 => 76 | 20 => 97 | 21 => 98 | 22 => 99 | 23 => 100 | 24 => 101 | 25 => 102 | 26 => 103 | 27 => 104 | 46 => 109 | 47 => 93 | 48 => 94 | 49 => 110 | 50 => 111 | 57 => 112 | n => n, fun | 22 => 45 | 24 => 40 | 25 => 112 | 3 => 3 | 39 => 105 | 0 => 0 | 53 => 125 | 55 => 35 | 4 => 4 | 46 => 118 | 45 => 117 | 50 => 122 | 5 => 5 | 9 => 9 | 66 => 138 | 70 => 142 | 76 => 151 | 77 => 152 | n => n, fun | n => n⟩
theorem Try.sortSp : Go.Proofs.SlLaysF0.n6 Tryz.prog Try.sortSp_ren := {
  mixed := by kernel_rfl
  f6 := ⟨Tryz.f62.name, by decide, Tryz.func62.trans (congrArg some (by kernel_rfl))⟩
  f14 := ⟨Tryz.f78.name, by decide, Tryz.func78.trans (congrArg some (by kernel_rfl))⟩
  f15 := Tryz.func58.trans (congrArg some (by kernel_rfl))
  f20 := ⟨Tryz.f97.name, by decide, Tryz.func97.trans (congrArg some (by kernel_rfl))⟩
  f21 := ⟨Tryz.f98.name, by decide, Tryz.func98.trans (congrArg some (by kernel_rfl))⟩
  f22 := ⟨Tryz.f99.name, by decide, Tryz.func99.trans (congrArg some (by kernel_rfl))⟩
  f23 := ⟨Tryz.f100.name, by decide, Tryz.func100.trans (congrArg some (by kernel_rfl))⟩
  f24 := ⟨Tryz.f101.name, by decide, Tryz.func101.trans (congrArg some (by kernel_rfl))⟩
  f25 := ⟨Tryz.f102.name, by decide, Tryz.func102.trans (congrArg some (by kernel_rfl))⟩
  f26 := ⟨Tryz.f103.name, by decide, Tryz.func103.trans (congrArg some (by kernel_rfl))⟩
  f27 := ⟨Tryz.f104.name, by decide, Tryz.func104.trans (congrArg some (by kernel_rfl))⟩
  f28 := Tryz.func75.trans (congrArg some (by kernel_rfl))
  f29 := Tryz.func76.trans (congrArg some (by kernel_rfl))
  f46 := ⟨Tryz.f109.name, by decide, Tryz.func109.trans (congrArg some (by kernel_rfl))⟩
  f47 := Tryz.func93.trans (congrArg some (by kernel_rfl))
  f48 := Tryz.func94.trans (congrArg some (by kernel_rfl))
  f49 := ⟨Tryz.f110.name, by decide, Tryz.func110.trans (congrArg some (by kernel_rfl))⟩
  f50 := ⟨Tryz.f111.name, by decide, Tryz.func111.trans (congrArg some (by kernel_rfl))⟩
  f57 := ⟨Tryz.f112.name, by decide, Tryz.func112.trans (congrArg some (by kernel_rfl))⟩
  t0 := Tryz.underlying0
  a0 := Tryz.isAgg0
  z0 := Tryz.sizeOf0
  v0 := Tryz.zeroValue0
  t3 := Tryz.underlying3
  a3 := Tryz.isAgg3
  z3 := Tryz.sizeOf3
  v3 := Tryz.zeroValue3
  t4 := Tryz.underlying4
  a4 := Tryz.isAgg4
  z4 := Tryz.sizeOf4
  v4 := Tryz.zeroValue4
  t5 := Tryz.underlying5
  a5 := Tryz.isAgg5
  z5 := Tryz.sizeOf5
  v5 := Tryz.zeroValue5
  t9 := Tryz.underlying9
  a9 := Tryz.isAgg9
  z9 := Tryz.sizeOf9
  v9 := Tryz.zeroValue9
  t22 := Tryz.underlying45
  a22 := Tryz.isAgg45
  z22 := Tryz.sizeOf45
  v22 := Tryz.zeroValue45
  t25 := Tryz.underlying112
  a25 := Tryz.isAgg112
  z25 := Tryz.sizeOf112
  v25 := Tryz.zeroValue112
  t39 := Tryz.underlying105
  a39 := Tryz.isAgg105
  z39 := Tryz.sizeOf105
  v39 := Tryz.zeroValue105
  t45 := Tryz.underlying117
  a45 := Tryz.isAgg117
  z45 := Tryz.sizeOf117
  v45 := Tryz.zeroValue117
  t46 := Tryz.underlying118
  a46 := Tryz.isAgg118
  z46 := Tryz.sizeOf118
  v46 := Tryz.zeroValue118
  t50 := Tryz.underlying122
  a50 := Tryz.isAgg122
  z50 := Tryz.sizeOf122
  v50 := Tryz.zeroValue122
  t53 := Tryz.underlying125
  a53 := Tryz.isAgg125
  z53 := Tryz.sizeOf125
  v53 := Tryz.zeroValue125
  t55 := Tryz.underlying35
  a55 := Tryz.isAgg35
  z55 := Tryz.sizeOf35
  v55 := Tryz.zeroValue35
  t66 := Tryz.underlying138
  a66 := Tryz.isAgg138
  z66 := Tryz.sizeOf138
  v66 := Tryz.zeroValue138
  t70 := Tryz.underlying142
  a70 := Tryz.isAgg142
  z70 := Tryz.sizeOf142
  v70 := Tryz.zeroValue142
  t76 := Tryz.underlying151
  a76 := Tryz.isAgg151
  z76 := Tryz.sizeOf151
  v76 := Tryz.zeroValue151
  t77 := Tryz.underlying152
  a77 := Tryz.isAgg152
  z77 := Tryz.sizeOf152
  v77 := Tryz.zeroValue152 }
def Try.sortTr_ren : Go.Shelf.Ren := ⟨fun | 6 => 46 | 15 => 58 | 14 => 57 | 28 => 75 | 29 => 76 | 20 => 67 | 21 => 68 | 22 => 69 | 23 => 70 | 24 => 71 | 25 => 72 | 26 => 73 | 27 => 74 | 46 => 92 | 47 => 93 | 48 => 94 | 49 => 95 | 50 => 96 | 57 => 108 | n => n, fun | 22 => 54 | 24 => 37 | 25 => 91 | 3 => 3 | 39 => 105 | 0 => 0 | 53 => 125 | 55 => 35 | 4 => 4 | 46 => 118 | 45 => 117 | 50 => 122 | 5 => 5 | 9 => 9 | 66 => 138 | 70 => 142 | 76 => 151 | 77 => 152 | n => n, fun | n => n⟩
theorem Try.sortTr : Go.Proofs.SlLaysF0.n6 Tryz.prog Try.sortTr_ren := {
  mixed := by kernel_rfl
  f6 := ⟨Tryz.f46.name, by decide, Tryz.func46.trans (congrArg some (by kernel_rfl))⟩
  f14 := ⟨Tryz.f57.name, by decide, Tryz.func57.trans (congrArg some (by kernel_rfl))⟩
  f15 := Tryz.func58.trans (congrArg some (by kernel_rfl))
  f20 := ⟨Tryz.f67.name, by decide, Tryz.func67.trans (congrArg some (by kernel_rfl))⟩
  f21 := ⟨Tryz.f68.name, by decide, Tryz.func68.trans (congrArg some (by kernel_rfl))⟩
  f22 := ⟨Tryz.f69.name, by decide, Tryz.func69.trans (congrArg some (by kernel_rfl))⟩
  f23 := ⟨Tryz.f70.name, by decide, Tryz.func70.trans (congrArg some (by kernel_rfl))⟩
  f24 := ⟨Tryz.f71.name, by decide, Tryz.func71.trans (congrArg some (by kernel_rfl))⟩
  f25 := ⟨Tryz.f72.name, by decide, Tryz.func72.trans (congrArg some (by kernel_rfl))⟩
  f26 := ⟨Tryz.f73.name, by decide, Tryz.func73.trans (congrArg some (by kernel_rfl))⟩
  f27 := ⟨Tryz.f74.name, by decide, Tryz.func74.trans (congrArg some (by kernel_rfl))⟩
  f28 := Tryz.func75.trans (congrArg some (by kernel_rfl))
  f29 := Tryz.func76.trans (congrArg some (by kernel_rfl))
  f46 := ⟨Tryz.f92.name, by decide, Tryz.func92.trans (congrArg some (by kernel_rfl))⟩
  f47 := Tryz.func93.trans (congrArg some (by kernel_rfl))
  f48 := Tryz.func94.trans (congrArg some (by kernel_rfl))
  f49 := ⟨Tryz.f95.name, by decide, Tryz.func95.trans (congrArg some (by kernel_rfl))⟩
  f50 := ⟨Tryz.f96.name, by decide, Tryz.func96.trans (congrArg some (by kernel_rfl))⟩
  f57 := ⟨Tryz.f108.name, by decide, Tryz.func108.trans (congrArg some (by kernel_rfl))⟩
  t0 := Tryz.underlying0
  a0 := Tryz.isAgg0
  z0 := Tryz.sizeOf0
  v0 := Tryz.zeroValue0
  t3 := Tryz.underlying3
  a3 := Tryz.isAgg3
  z3 := Tryz.sizeOf3
  v3 := Tryz.zeroValue3
  t4 := Tryz.underlying4
  a4 := Tryz.isAgg4
  z4 := Tryz.sizeOf4
  v4 := Tryz.zeroValue4
  t5 := Tryz.underlying5
  a5 := Tryz.isAgg5
  z5 := Tryz.sizeOf5
  v5 := Tryz.zeroValue5
  t9 := Tryz.underlying9
  a9 := Tryz.isAgg9
  z9 := Tryz.sizeOf9
  v9 := Tryz.zeroValue9
  t22 := Tryz.underlying54
  a22 := Tryz.isAgg54
  z22 := Tryz.sizeOf54
  v22 := Tryz.zeroValue54
  t25 := Tryz.underlying91
  a25 := Tryz.isAgg91
  z25 := Tryz.sizeOf91
  v25 := Tryz.zeroValue91
  t39 := Tryz.underlying105
  a39 := Tryz.isAgg105
  z39 := Tryz.sizeOf105
  v39 := Tryz.zeroValue105
  t45 := Tryz.underlying117
  a45 := Tryz.isAgg117
  z45 := Tryz.sizeOf117
  v45 := Tryz.zeroValue117
  t46 := Tryz.underlying118
  a46 := Tryz.isAgg118
  z46 := Tryz.sizeOf118
  v46 := Tryz.zeroValue118
  t50 := Tryz.underlying122
  a50 := Tryz.isAgg122
  z50 := Tryz.sizeOf122
  v50 := Tryz.zeroValue122
  t53 := Tryz.underlying125
  a53 := Tryz.isAgg125
  z53 := Tryz.sizeOf125
  v53 := Tryz.zeroValue125
  t55 := Tryz.underlying35
  a55 := Tryz.isAgg35
  z55 := Tryz.sizeOf35
  v55 := Tryz.zeroValue35
  t66 := Tryz.underlying138
  a66 := Tryz.isAgg138
  z66 := Tryz.sizeOf138
  v66 := Tryz.zeroValue138
  t70 := Tryz.underlying142
  a70 := Tryz.isAgg142
  z70 := Tryz.sizeOf142
  v70 := Tryz.zeroValue142
  t76 := Tryz.underlying151
  a76 := Tryz.isAgg151
  z76 := Tryz.sizeOf151
  v76 := Tryz.zeroValue151
  t77 := Tryz.underlying152
  a77 := Tryz.isAgg152
  z77 := Tryz.sizeOf152
  v77 := Tryz.zeroValue152 }
end Go.Proofs

/- Lists of spans: their order; slices.SortFunc of spans by Compare. -/
namespace Go.Proofs.YtoojpagpkbcfjaaGreat
open Go.RowKit Go.Shelf Go.Sort

def insS (x : Sp) : List Sp → List Sp
  | [] => [x]
  | y :: l => if spCmp x y < 0 then x :: y :: l else y :: insS x l
def ordS (l : List Sp) : List Sp := l.foldl (fun acc x => insS x acc) []
def SortedS (l : List Sp) : Prop := l.Pairwise fun a b => spCmp a b ≤ 0
theorem insS_perm (x : Sp) : ∀ l, (insS x l).Perm (x :: l)
  | [] => List.Perm.refl _
  | y :: l => by
    rw [insS]
    split
    · exact List.Perm.refl _
    · exact ((insS_perm x l).cons y).trans (List.Perm.swap x y l)
theorem insS_mem {x z : Sp} {l : List Sp} (h : z ∈ insS x l) : z = x ∨ z ∈ l := by
  have := (insS_perm x l).mem_iff.1 h
  simpa using this
theorem insS_sorted (x : Sp) : ∀ {l}, SortedS l → SortedS (insS x l)
  | [], _ => List.pairwise_singleton _ _
  | y :: l, h => by
    obtain ⟨h1, h2⟩ := List.pairwise_cons.1 h
    rw [insS]
    split
    · rename_i hlt
      refine List.pairwise_cons.2 ⟨fun z hz => ?_, h⟩
      rcases List.mem_cons.1 hz with rfl | hz
      · omega
      · exact spCmp_cmp.le (show spCmp x y ≤ 0 by omega) (h1 z hz)
    · rename_i hge
      refine List.pairwise_cons.2 ⟨fun z hz => ?_, insS_sorted x h2⟩
      rcases insS_mem hz with rfl | hz
      · have := spCmp_cmp.neg z y
        omega
      · exact h1 z hz
theorem ordS_aux (l : List Sp) : ∀ acc, SortedS acc → SortedS (l.foldl (fun acc x => insS x acc) acc) ∧ (l.foldl (fun acc x => insS x acc) acc).Perm (acc ++ l) := by
  induction l with
  | nil => intro acc h; exact ⟨h, by simp⟩
  | cons x l ih =>
    intro acc h
    obtain ⟨h1, h2⟩ := ih (insS x acc) (insS_sorted x h)
    refine ⟨h1, h2.trans ?_⟩
    have h3 := (insS_perm x acc).append_right l
    refine h3.trans ?_
    simp only [List.cons_append]
    exact (List.perm_middle).symm
theorem ordS_sorted (l : List Sp) : SortedS (ordS l) := (ordS_aux l [] List.Pairwise.nil).1
theorem ordS_perm (l : List Sp) : (ordS l).Perm l := (ordS_aux l [] List.Pairwise.nil).2
theorem ordS_eq {l l' : List Sp} (p : l'.Perm l) (s : SortedS l') : l' = ordS l :=
  List.Perm.eq_of_pairwise (le := fun a b => spCmp a b ≤ 0) (fun a b _ _ h1 h2 => spCmp_cmp.anti h1 h2) s (ordS_sorted l) (p.trans (ordS_perm l).symm)
theorem ordS_same {l l' : List Sp} (p : l'.Perm l) : ordS l' = ordS l := ordS_eq ((ordS_perm l').trans p) (ordS_sorted l')
theorem ordS_length (l : List Sp) : (ordS l).length = l.length := (ordS_perm l).length_eq
theorem ordS_snoc (l : List Sp) (x : Sp) : ordS (l ++ [x]) = insS x (ordS l) := by simp [ordS]

/-! ### slices.SortFunc -/
/-- A span in a row whose block is g: its tags lie elsewhere. -/
structure Far (w : World) (g : Nat) (e : El) : Prop where
  ok : ElOk w w.heap.size e
  far : e.s.tags ≠ [] → ∀ a, e.A = some a → a.block ≠ g
abbrev SortEl (w : World) (g : Nat) := { e : El // Far w g e }
def sortZero (w : World) (g : Nat) : SortEl w g := ⟨⟨zeroSp, none, 0, 0⟩, ⟨⟨Rd.nil, rfl, Nat.zero_le _⟩, fun h => absurd rfl h⟩⟩
theorem swo_sp {β : Type} (p : β → Sp) : SWO (ltOf fun x y : β => spCmp (p x) (p y)) where
  irrefl x := by
    have := (spCmp_cmp.eq (p x) (p x)).2 rfl
    simp [ltOf, this]
  trans x y z h1 h2 := by
    simp only [ltOf, decide_eq_true_eq] at *
    have r1 := spCmp_cmp.rng (p x) (p y)
    have r2 := spCmp_cmp.rng (p y) (p z)
    have := spCmp_cmp.tr (p x) (p y) (p z) (by omega) (by omega)
    omega
  ntrans x y z h1 h2 := by
    simp only [ltOf, decide_eq_false_iff_not] at *
    have n1 := spCmp_cmp.neg (p x) (p y)
    have n2 := spCmp_cmp.neg (p y) (p z)
    have n3 := spCmp_cmp.neg (p x) (p z)
    have := spCmp_cmp.le (a := p z) (b := p y) (c := p x) (by omega) (by omega)
    omega
end Go.Proofs.YtoojpagpkbcfjaaGreat


/- Layer 20, plain: what a gatherer is; each call as a function. -/
namespace Go.Proofs.YtoojpagpkbcfjaaGreat
open Go.RowKit

structure Tr where
  hi : Nat
  lo : Nat
deriving DecidableEq
def Sp.tr (s : Sp) : Tr := ⟨s.hi, s.lo⟩
def Tr.lt (a b : Tr) : Bool := decide (a.hi < b.hi ∨ (a.hi = b.hi ∧ a.lo < b.lo))
/-- A trace, and when a span of it came. -/
abbrev Due := Tr × Int
def dLt (a b : Due) : Bool := decide (a.2 < b.2 ∨ (a.2 = b.2 ∧ (a.1.hi < b.1.hi ∨ (a.1.hi = b.1.hi ∧ a.1.lo < b.1.lo))))
theorem dLt_ok : LtOk dLt where
  irr x := by simp [dLt]
  tr x y z h1 h2 := by
    simp only [dLt, decide_eq_false_iff_not] at *
    omega
  asy x y h := by
    simp only [dLt, decide_eq_false_iff_not, decide_eq_true_eq] at *
    omega
theorem dLt_anti {a b : Due} (h1 : dLt a b = false) (h2 : dLt b a = false) : a = b := by
  obtain ⟨⟨ah, al⟩, at_⟩ := a
  obtain ⟨⟨bh, bl⟩, bt⟩ := b
  simp only [dLt, decide_eq_false_iff_not] at h1 h2
  have e1 : ah = bh := by omega
  have e2 : al = bl := by omega
  have e3 : at_ = bt := by omega
  subst e1 e2 e3
  rfl
/-- An open trace: its spans, the time of the last. -/
structure Opn where
  t : Tr
  l : List Sp
  time : Int
def Opn.due (x : Opn) : Due := (x.t, x.time)
structure GSt where
  win : Int
  cap : Int
  now : Int
  op : List Opn
  all : List Tr
  cl : List (Tr × List Sp)
  late : Nat
namespace GSt
def new (win cap : Int) : GSt := ⟨win, cap, 0, [], [], [], 0⟩
def get (G : GSt) (t : Tr) : Option Opn := G.op.find? fun x => decide (x.t = t)
/-- An open trace takes its place, the traces rising. -/
def putIn (x : Opn) : List Opn → List Opn
  | [] => [x]
  | y :: l => if Tr.lt y.t x.t = true then y :: putIn x l else if y.t = x.t then x :: l else x :: y :: l
def delOf (t : Tr) (l : List Opn) : List Opn := l.filter fun x => decide (x.t ≠ t)
def close (G : GSt) (t : Tr) (l : List Sp) : GSt := { G with cl := G.cl ++ [(t, ordS l)], all := G.all ++ [t], op := delOf t G.op }
def add (G : GSt) (s : Sp) : GSt × Nat × Nat :=
  if spChk s ≠ 0 then (G, 0, spChk s)
  else if s.tr ∈ G.all then ({ G with late := G.late + 1 }, 2, 0)
  else
    let l := (match G.get s.tr with | some x => x.l | none => []) ++ [s]
    if G.cap ≤ (l.length : Int) then (G.close s.tr l, 3, 0)
    else ({ G with op := putIn ⟨s.tr, l, G.now⟩ G.op }, 1, 0)
/-- The first that is due. -/
def first : List Opn → Option Opn
  | [] => none
  | x :: l => match first l with
    | none => some x
    | some y => if dLt y.due x.due = true then some y else some x
def closeDue : Nat → GSt → GSt
  | 0, G => G
  | f + 1, G => match first G.op with
    | none => G
    | some x => if G.win ≤ G.now - x.time then closeDue f (G.close x.t x.l) else G
def tick (G : GSt) (n : Int) : GSt × Nat :=
  if n < 0 ∨ 1152921504606846976 - G.now < n then (G, 2)
  else (closeDue G.op.length { G with now := G.now + n }, 0)
def due (G : GSt) : Int := match first G.op with | none => 0 | some x => x.time + G.win - G.now
end GSt
theorem first_none {l : List Opn} (h : GSt.first l = none) : l = [] := by
  cases l with
  | nil => rfl
  | cons x l =>
    unfold GSt.first at h
    split at h
    · cases h
    · split at h <;> cases h
theorem first_some : ∀ {l : List Opn} {x : Opn}, GSt.first l = some x → x ∈ l ∧ ∀ y ∈ l, dLt y.due x.due = false
  | [], x, h => by cases h
  | y :: l, x, h => by
    unfold GSt.first at h
    cases hf : GSt.first l with
    | none =>
      rw [hf] at h
      cases h
      rw [first_none hf]
      exact ⟨List.mem_cons_self .., fun z hz => by
        rw [List.mem_singleton.1 hz]
        exact dLt_ok.irr _⟩
    | some z =>
      rw [hf] at h
      simp only at h
      obtain ⟨h1, h2⟩ := first_some hf
      by_cases hlt : dLt z.due y.due = true
      · rw [if_pos hlt] at h
        cases h
        exact ⟨List.mem_cons_of_mem _ h1, fun u hu => by
          rcases List.mem_cons.1 hu with rfl | hu
          · exact dLt_ok.asy _ _ hlt
          · exact h2 u hu⟩
      · rw [if_neg hlt] at h
        cases h
        have h3 : dLt z.due y.due = false := by simpa using hlt
        exact ⟨List.mem_cons_self .., fun u hu => by
          rcases List.mem_cons.1 hu with rfl | hu
          · exact dLt_ok.irr _
          · exact dLt_ok.tr _ _ _ h3 (h2 u hu)⟩
end Go.Proofs.YtoojpagpkbcfjaaGreat


/- Layer 20: the heap's methods, reached through an interface. -/
namespace Go.Proofs.YtoojpagpkbcfjaaGreat
open Go.RowKit

abbrev trV (t : Tr) : Value := .agg #[.int .u64 (t.hi : Nat), .int .u64 (t.lo : Nat)]
abbrev dueV (d : Due) : Value := .agg #[.int .u64 (d.1.hi : Nat), .int .u64 (d.1.lo : Nat), .int .i64 d.2]
def dueC (d : Due) : List Value := [.int .u64 (d.1.hi : Nat), .int .u64 (d.1.lo : Nat), .int .i64 d.2]
theorem dueC_length (d : Due) : (dueC d).length = 3 := rfl
theorem mPush (w : World) (a : Addr) : (method 272 88 (.pointer (some a)) "Push").run Tryz.prog w = .ok (133, .pointer (some a)) w := by kernel_rfl
theorem mPop (w : World) (a : Addr) : (method 272 88 (.pointer (some a)) "Pop").run Tryz.prog w = .ok (132, .pointer (some a)) w := by kernel_rfl
theorem ldTurns {w : World} {a : Addr} {v : Value} (h : w.cell? a = some v) : (loadVar 66 a).run Tryz.prog w = .ok v w := by
  go_simp
/-- A method with a value's receiver, reached through a pointer. -/
theorem wrapOk (t : TypeId) (a : Addr) (s m : ByteArray) (w : World) : (Builtin.ssaWrapNilChk_ #[t] t #[.pointer (some a), .string s, .string m]).run Tryz.prog w = .ok (.pointer (some a)) w := by rfl
theorem mVal {name : String} {f : Nat} {w : World} {a : Addr} {v : Value} (hf : (Tryz.prog.info? 88).map (fun i => (i.methods.find? (·.name == name)).map fun m => (m.path, m.func)) = some (some (#[], some (f, false))))
    (h : w.cell? a = some v) : (method (Tryz.prog.types.size + 100) 88 (.pointer (some a)) name).run Tryz.prog w = .ok (f, v) w := by
  cases hi : Tryz.prog.info? 88 with
  | none => rw [hi] at hf; cases hf
  | some i =>
    rw [hi] at hf
    simp only [Option.map_some] at hf
    cases hm : i.methods.find? (·.name == name) with
    | none => rw [hm] at hf; cases hf
    | some m =>
      rw [hm] at hf
      simp only [Option.map_some, Option.some.injEq, Prod.mk.injEq] at hf
      obtain ⟨hp, hfn⟩ := hf
      have hl := ldTurns h
      show (method ((Tryz.prog.types.size + 99) + 1) _ _ _).run _ _ = _
      unfold method
      simp [typeInfo, hi, hm, hp, hfn, follow, receiverAt, Place.get, run_underlying Tryz.underlying88, strVal, wrapOk, asAddr, hl, Result.andThen]
theorem mLen {w : World} {a : Addr} {v : Value} (h : w.cell? a = some v) : (method 272 88 (.pointer (some a)) "Len").run Tryz.prog w = .ok (129, v) w := mVal (by kernel_rfl) h
theorem mLess {w : World} {a : Addr} {v : Value} (h : w.cell? a = some v) : (method 272 88 (.pointer (some a)) "Less").run Tryz.prog w = .ok (130, v) w := mVal (by kernel_rfl) h
theorem mSwap {w : World} {a : Addr} {v : Value} (h : w.cell? a = some v) : (method 272 88 (.pointer (some a)) "Swap").run Tryz.prog w = .ok (131, v) w := mVal (by kernel_rfl) h
theorem enPush (args : Array Value) (w : World) : (callFunc 133 args).run Tryz.prog w = .ok (.enter 133 args) w := enters_of Tryz.func133 (by kernel_rfl) rfl args w
theorem enPop (args : Array Value) (w : World) : (callFunc 132 args).run Tryz.prog w = .ok (.enter 132 args) w := enters_of Tryz.func132 (by kernel_rfl) rfl args w
theorem enLen (args : Array Value) (w : World) : (callFunc 129 args).run Tryz.prog w = .ok (.enter 129 args) w := enters_of Tryz.func129 (by kernel_rfl) rfl args w
theorem enLess (args : Array Value) (w : World) : (callFunc 130 args).run Tryz.prog w = .ok (.enter 130 args) w := enters_of Tryz.func130 (by kernel_rfl) rfl args w
theorem enSwap (args : Array Value) (w : World) : (callFunc 131 args).run Tryz.prog w = .ok (.enter 131 args) w := enters_of Tryz.func131 (by kernel_rfl) rfl args w
end Go.Proofs.YtoojpagpkbcfjaaGreat


/- Layer 20: the heap's order: compareTraces, Less, Len, Swap. -/
namespace Go.Proofs.YtoojpagpkbcfjaaGreat
open Go.RowKit
theorem loadTr_shut (a : Addr) : loadVar 37 a = loadK 37 a := rfl
theorem loadDu_shut (a : Addr) : loadVar 74 a = loadK 74 a := rfl

set_option maxRecDepth 100000 in
set_option maxHeartbeats 2000000 in
theorem gaCmpTraces (h1 l1 h2 l2 : Int) (w : World) :
    Calls Tryz.prog 47 #[.agg #[.int .u64 h1, .int .u64 l1], .agg #[.int .u64 h2, .int .u64 l2]] w fun e w' => e = .returned (.int .i64 (cmpTr h1 l1 h2 l2)) ∧ Gr w w' := by
  have b1 := (Bk.new w 37 #[.int .u64 h1, .int .u64 l1]).alloc (.cells #[.int .u64 h2, .int .u64 l2] 37)
  have b2 := Bk.new (w.alloc (.cells #[.int .u64 h1, .int .u64 l1] 37)) 37 #[.int .u64 h2, .int .u64 l2]
  rw [World.size_alloc] at b2
  have hb0 : Below w.heap.size w ((w.alloc (.cells #[.int .u64 h1, .int .u64 l1] 37)).alloc (.cells #[.int .u64 h2, .int .u64 l2] 37)) := ((Below.refl _ w).alloc (Nat.le_refl _) _).alloc (by simp) _
  obtain ⟨W, hW⟩ : ∃ W, (w.alloc (.cells #[.int .u64 h1, .int .u64 l1] 37)).alloc (.cells #[.int .u64 h2, .int .u64 l2] 37) = W := ⟨_, rfl⟩
  rw [hW] at b1 b2 hb0
  have HW := Lib.hid hW
  obtain ⟨g, hg⟩ : ∃ g, w.heap.size = g := ⟨_, rfl⟩
  rw [hg] at b1 b2
  have HG := Lib.hid hg
  have k10 : W.cell? ⟨g, 0, none⟩ = some (.int .u64 h1) := b1.cell 0
  have k11 : W.cell? ⟨g, 1, none⟩ = some (.int .u64 l1) := b1.cell 1
  have k20 : W.cell? ⟨g + 1, 0, none⟩ = some (.int .u64 h2) := b2.cell 0
  have k21 : W.cell? ⟨g + 1, 1, none⟩ = some (.int .u64 l2) := b2.cell 1
  have hsz := hb0.size
  obtain ⟨c1, hc1⟩ : ∃ c, cmpI h1 h2 = c := ⟨_, rfl⟩
  obtain ⟨c2, hc2⟩ : ∃ c, cmpI l1 l2 = c := ⟨_, rfl⟩
  have u1 := fun w => cmpU h1 h2 w
  rw [hc1] at u1
  have u2 := fun w => cmpU l1 l2 w
  rw [hc2] at u2
  have hres : cmpTr h1 l1 h2 l2 = orL [c1, c2] := by rw [cmpTr, hc1, hc2]
  obtain ⟨q, hq⟩ : ∃ q, orL [c1, c2] = q := ⟨_, rfl⟩
  rw [hres, hq]
  have HQ := Lib.hid hq
  have HB := Lib.hid hb0
  have bo := (Bk.new W 3 #[.int .i64 c1, .int .i64 c2]).drew
  have hor := cmpOr (l := [c1, c2]) (n := 2) _ rfl (by decide) bo
  rw [hq] at hor
  have HOR := Lib.hid hor
  clear hor hW hg b1 b2 hc1 hc2 hres hq hb0
  go_enter Tryz.func47, Tryz.ntmps47
  go_upto_region 1 with fail
  rw [HW.out, HG.out]
  go_region_held3 (fun w' => w'.cell? ⟨g, 0, none⟩ = some (.int .u64 h1) ∧ w'.cell? ⟨g, 1, none⟩ = some (.int .u64 l1) ∧ w'.cell? ⟨g + 1, 0, none⟩ = some (.int .u64 h2) ∧ w'.cell? ⟨g + 1, 1, none⟩ = some (.int .u64 l2))
    (go_keep)
    (first
      | (go_at_call_of 60 (Value.int .u64 h1)
         refine (u1 _).mono ?_
         rintro e w' ⟨rfl, hw⟩
         rw [hw]
         clear hw w')
      | (go_at_call_of 60 (Value.int .u64 l1)
         refine (u2 _).mono ?_
         rintro e w' ⟨rfl, hw⟩
         rw [hw]
         clear hw w')
      | (go_at_call 59
         refine HOR.out.mono ?_
         rintro e w' ⟨rfl, hw⟩
         rw [hw]
         clear hw w')
      | fail)
  all_goals
    go_wp2
    go_ret
    exact ⟨rfl, ⟨below_drewN (HB.out.alloc hsz (.cells #[.int .i64 c1, .int .i64 c2] 3)) 1, by rw [← HW.out]; exact Nat.le_add_right w.drawn 1⟩⟩

theorem due_lt (x y : Due) : decide (orL [cmpI x.2 y.2, cmpTr x.1.hi x.1.lo y.1.hi y.1.lo] < 0) = dLt x y := by
  obtain ⟨⟨xh, xl⟩, xt⟩ := x
  obtain ⟨⟨yh, yl⟩, yt⟩ := y
  unfold dLt
  apply decide_eq_decide.2
  simp only [cmpTr, orL, cmpI]
  by_cases h1 : xt < yt
  · simp [h1]
  · by_cases h2 : yt < xt
    · simp [h1, h2]; omega
    · by_cases h3 : xh < yh
      · have : (xh : Int) < (yh : Int) := by omega
        simp [h1, h2, this]; omega
      · by_cases h4 : yh < xh
        · have e1 : ¬ (xh : Int) < (yh : Int) := by omega
          have e2 : (yh : Int) < (xh : Int) := by omega
          simp [h1, h2, e1, e2]; omega
        · have e1 : ¬ (xh : Int) < (yh : Int) := by omega
          have e2 : ¬ (yh : Int) < (xh : Int) := by omega
          by_cases h5 : xl < yl
          · have : (xl : Int) < (yl : Int) := by omega
            simp [h1, h2, e1, e2, this]; omega
          · by_cases h6 : yl < xl
            · have e3 : ¬ (xl : Int) < (yl : Int) := by omega
              have e4 : (yl : Int) < (xl : Int) := by omega
              simp [h1, h2, e1, e2, e3, e4]; omega
            · have e3 : ¬ (xl : Int) < (yl : Int) := by omega
              have e4 : ¬ (yl : Int) < (xl : Int) := by omega
              simp [h1, h2, e1, e2, e3, e4]; omega
set_option maxRecDepth 100000 in
theorem loadK_trD {w : World} {b o i : Nat} {d : Due} (h : ∀ j, j < 3 → w.cell? ⟨b, o + (i * 3 + j), none⟩ = (dueC d)[j]?) : (loadK 37 ⟨b, o + i * 3, none⟩).run Tryz.prog w = .ok (trV d.1) w :=
  run_loadVar_cells w _ _ ⟨b, o + i * 3, none⟩ [.int .u64 d.1.hi, .int .u64 d.1.lo] Tryz.underlying37 rfl (by rfl) (fun j v hv => by
    have hj : j < 2 := (List.getElem?_eq_some_iff.1 hv).1
    rw [Addr.add_lit, Nat.add_assoc, h j (by omega)]
    match j, hj, hv with
    | 0, _, hv => exact hv
    | 1, _, hv => exact hv)
set_option maxRecDepth 100000 in
theorem loadK_du {w : World} {b o i : Nat} {d : Due} (h : ∀ j, j < 3 → w.cell? ⟨b, o + (i * 3 + j), none⟩ = (dueC d)[j]?) : (loadK 74 ⟨b, o + i * 3, none⟩).run Tryz.prog w = .ok (dueV d) w :=
  run_loadVar_cells w _ _ ⟨b, o + i * 3, none⟩ (dueC d) Tryz.underlying74 rfl (by rfl) (fun j v hv => by
    have hj : j < 3 := (List.getElem?_eq_some_iff.1 hv).1
    rw [Addr.add_lit, Nat.add_assoc, h j hj]
    exact hv)
attribute [local go_sem ↓] loadTr_shut
set_option maxRecDepth 100000 in
set_option maxHeartbeats 2000000 in
theorem gaLess {A : Option Addr} {n c B i j : Nat} {l : List Due} {x y : Due} (w : World) (hr : Rd w B A (flatR dueC l)) (hB : B ≤ w.heap.size) (hn : l.length = n) (hnl : n ≤ 4611686018427387904) (hx : l[i]? = some x) (hy : l[j]? = some y) :
    Calls Tryz.prog 130 #[.slice A n c, .int .i64 (i : Nat), .int .i64 (j : Nat)] w fun e w' => e = .returned (.bool (dLt x y)) ∧ Below w.heap.size w w' := by
  have hi := (List.getElem?_eq_some_iff.1 hx).1
  have hj := (List.getElem?_eq_some_iff.1 hy).1
  rw [hn] at hi hj
  obtain ⟨b, o, rfl, hb, hcx⟩ := flatR_at dueC_length (by omega) hr hx
  obtain ⟨b', o', e0, -, hcy⟩ := flatR_at dueC_length (by omega) hr hy
  cases e0
  have KS : Hid (∀ W, Below w.heap.size w W → W.cell? ⟨b, o + i * 3 + 2, none⟩ = some (.int .i64 x.2) ∧ W.cell? ⟨b, o + j * 3 + 2, none⟩ = some (.int .i64 y.2) ∧ (loadK 37 ⟨b, o + i * 3, none⟩).run Tryz.prog W = .ok (trV x.1) W ∧ (loadK 37 ⟨b, o + j * 3, none⟩).run Tryz.prog W = .ok (trV y.1) W) := Lib.hid fun W hW => by
    have q1 : ∀ k, k < 3 → W.cell? ⟨b, o + (i * 3 + k), none⟩ = (dueC x)[k]? := fun k hk => (hW.cell (p := ⟨b, o + (i * 3 + k), none⟩) (Nat.lt_of_lt_of_le hb hB)).trans (hcx k hk)
    have q2 : ∀ k, k < 3 → W.cell? ⟨b, o + (j * 3 + k), none⟩ = (dueC y)[k]? := fun k hk => (hW.cell (p := ⟨b, o + (j * 3 + k), none⟩) (Nat.lt_of_lt_of_le hb hB)).trans (hcy k hk)
    exact ⟨by rw [Nat.add_assoc]; exact q1 2 (by omega), by rw [Nat.add_assoc]; exact q2 2 (by omega), loadK_trD q1, loadK_trD q2⟩
  have hdl := due_lt x y
  obtain ⟨⟨xh, xl⟩, xt⟩ := x
  obtain ⟨⟨yh, yl⟩, yt⟩ := y
  simp only at hdl
  obtain ⟨q, hq⟩ : ∃ q, dLt (⟨xh, xl⟩, xt) (⟨yh, yl⟩, yt) = q := ⟨_, rfl⟩
  rw [hq] at hdl ⊢
  obtain ⟨c1, hc1⟩ : ∃ c1, cmpI xt yt = c1 := ⟨_, rfl⟩
  obtain ⟨c2, hc2⟩ : ∃ c2, cmpTr xh xl yh yl = c2 := ⟨_, rfl⟩
  have u1 := fun W => cmpJ xt yt W
  have u2 := fun W => gaCmpTraces xh xl yh yl W
  rw [hc1, hc2] at hdl
  simp only [hc1] at u1
  simp only [hc2] at u2
  obtain ⟨r, hre⟩ : ∃ r, orL [c1, c2] = r := ⟨_, rfl⟩
  have HOR : Hid (∀ (W : World), Calls Tryz.prog 59 #[.slice (some ⟨W.heap.size, 0, none⟩) 2 2] (W.alloc (.cells #[.int .i64 c1, .int .i64 c2] 3)) fun e w' => e = .returned (.int .i64 r) ∧ w' = W.alloc (.cells #[.int .i64 c1, .int .i64 c2] 3)) := Lib.hid fun W => by
    have h := cmpOr (l := [c1, c2]) (n := 2) _ rfl (by decide) (Bk.new W 3 #[.int .i64 c1, .int .i64 c2])
    rw [hre] at h
    exact h
  rw [hre] at hdl
  obtain ⟨s1, s2, s3, s4⟩ := KS.out w (Below.refl _ w)
  have hi' : (i : Int) < (n : Int) := by omega
  have hj' : (j : Int) < (n : Int) := by omega
  clear hcx hcy hr hx hy hn hq hc1 hc2 hre
  go_enter Tryz.func130, Tryz.ntmps130
  go_wp2_with fail
  have b0 := (Below.refl w.heap.size w).drew
  go_region_held3 (fun W => W.cell? ⟨b, o + i * 3 + 2, none⟩ = some (.int .i64 xt) ∧ W.cell? ⟨b, o + j * 3 + 2, none⟩ = some (.int .i64 yt) ∧ (loadK 37 ⟨b, o + i * 3, none⟩).run Tryz.prog W = .ok (trV ⟨xh, xl⟩) W ∧ (loadK 37 ⟨b, o + j * 3, none⟩).run Tryz.prog W = .ok (trV ⟨yh, yl⟩) W)
    (first | exact KS.out _ (Below.refl _ w) | exact KS.out _ b0 | exact KS.out _ b2 | exact KS.out _ (Below.alloc b2 b2.size _)) (first
    | (go_at_call 80; refine (u1 _).mono ?_; rintro e w' ⟨rfl, hw⟩; rw [hw]; clear hw w')
    | (go_at_call 47; refine (u2 _).mono ?_; rintro e w2 ⟨rfl, g2⟩; have b2 := b0.trans (g2.b.mono b0.size))
    | (go_at_call 59; refine (HOR.out _).mono ?_; rintro e w' ⟨rfl, hw⟩; rw [hw]; clear hw w'))
  all_goals
    have B3 := Lib.hid (Below.alloc b2 b2.size (.cells #[.int .i64 c1, .int .i64 c2] 3))
    go_wp2
    go_ret
    exact ⟨by rw [← hdl]; rfl, B3.out⟩
end Go.Proofs.YtoojpagpkbcfjaaGreat


/- Layer 20: the heap's methods: Len, Swap. -/
namespace Go.Proofs.YtoojpagpkbcfjaaGreat
open Go.RowKit
def storeKD (t : TypeId) (a : Addr) (v : Value) : Sem Unit := storeVar t a v
theorem storeKD_shut (a : Addr) (v : Value) : storeVar 74 a v = storeKD 74 a v := rfl
attribute [local go_sem ↓] storeKD_shut loadDu_shut
theorem dueC_one (d : Due) : ∀ u ∈ dueC d, u.oneCell' = true := by
  intro u hu
  simp [dueC] at hu
  rcases hu with rfl | rfl | rfl <;> rfl
/-- The row of what is due. -/
abbrev DuR (w : World) (base : Nat) (v : Value) (l : List Due) : Prop := w.ownsRow base 74 3 v l.length (flatR dueC l)
set_option maxRecDepth 100000 in
theorem du_store {W : World} {base g n c i : Nat} {l : List Due} (h : DuR W base (.slice (some ⟨g, 0, none⟩) n c) l) (hl : l.length = n) (hin : i < n) (d : Due) :
    ∃ W', (storeKD 74 ⟨g, i * 3, none⟩ (dueV d)).run Tryz.prog W = .ok () W' ∧ DuR W' base (.slice (some ⟨g, 0, none⟩) n c) (l.set i d) ∧ W.grownBy W' (some g) ∧ W'.heap.size = W.heap.size := by
  unfold DuR at h
  rw [hl] at h
  obtain ⟨W', h1, h2, h3⟩ := row_store (P := Tryz.prog) dueC_length dueC_one (ty := 74) (by rfl) h hl hin d
  exact ⟨W', h1, by unfold DuR; rw [List.length_set, hl]; exact h2, h3⟩
theorem du_load {W : World} {base g n c i : Nat} {l : List Due} {d : Due} (h : DuR W base (.slice (some ⟨g, 0, none⟩) n c) l) (hl : l.length = n) (hd : l[i]? = some d) : (loadK 74 ⟨g, i * 3, none⟩).run Tryz.prog W = .ok (dueV d) W := by
  subst hl
  obtain ⟨b, o, e, -, hc⟩ := flatR_at dueC_length (by omega) (Rd.of_own h) hd
  cases e
  have := loadK_du hc
  rwa [Nat.zero_add] at this
set_option maxRecDepth 100000 in
theorem gaLen (w : World) (A : Option Addr) (n c : Nat) : Calls Tryz.prog 129 #[.slice A n c] w fun e w' => e = .returned (.int .i64 (n : Nat)) ∧ w = w' := by
  go_enter Tryz.func129, Tryz.ntmps129
  go_wp2_with fail
  go_ret
  exact ⟨rfl, rfl⟩
set_option maxRecDepth 100000 in
set_option maxHeartbeats 2000000 in
theorem gaSwap {g n c i j base : Nat} {l : List Due} (w : World) (hr : DuR w base (.slice (some ⟨g, 0, none⟩) n c) l) (hn : l.length = n) (hnl : n ≤ 4611686018427387904) (hi : i < n) (hj : j < n) :
    Calls Tryz.prog 131 #[.slice (some ⟨g, 0, none⟩) n c, .int .i64 (i : Nat), .int .i64 (j : Nat)] w fun e w' => e = .returned (.tuple #[]) ∧ DuR w' base (.slice (some ⟨g, 0, none⟩) n c) (swp l i j) ∧ w.grownBy w' (some g) := by
  obtain ⟨x, hx⟩ : ∃ x, l[i]? = some x := ⟨_, List.getElem?_eq_getElem (by omega)⟩
  obtain ⟨y, hy⟩ : ∃ y, l[j]? = some y := ⟨_, List.getElem?_eq_getElem (by omega)⟩
  have hrd : DuR w.drew base (.slice (some ⟨g, 0, none⟩) n c) l := World.ownsRow.drew hr
  have lx := du_load hrd hn hx
  have ly := du_load hrd hn hy
  obtain ⟨w1, s1, r1, g1, z1⟩ := du_store hrd hn hi y
  obtain ⟨w2, s2, r2, g2, z2⟩ := du_store r1 (by rw [List.length_set, hn]) hj x
  have gd : w.grownBy w.drew (some g) := ⟨rfl, rfl, rfl, Nat.le_refl _, fun _ _ _ => rfl⟩
  have hsw : swp l i j = (l.set i y).set j x := by
    unfold swp
    rw [hx, hy]
  rw [hsw]
  have G2 := Lib.hid ((gd.trans g1).trans g2)
  have R2 := Lib.hid r2
  have hi' : (i : Int) < (n : Int) := by omega
  have hj' : (j : Int) < (n : Int) := by omega
  clear hr hrd gd hx hy r1 r2 g1 g2 z1 z2 hsw hn
  go_enter Tryz.func131, Tryz.ntmps131
  go_wp2_with fail
  go_region
  all_goals go_wp2_with fail
  all_goals go_end0
  all_goals exact ⟨rfl, R2.out, G2.out⟩
end Go.Proofs.YtoojpagpkbcfjaaGreat


/- Layer 20: heap.up, heap.down. -/
namespace Go.Proofs.YtoojpagpkbcfjaaGreat
open Go.RowKit
theorem du_rd {w : World} {base n c : Nat} {A : Option Addr} {l : List Due} (h : DuR w base (.slice A n c) l) (hl : l.length = n) : Rd w w.heap.size A (flatR dueC l) := by
  subst hl
  exact Rd.of_own h
abbrev hpV (F : Nat) : Value := .iface 88 (.pointer (some ⟨F, 4, none⟩))
set_option maxRecDepth 100000 in
set_option maxHeartbeats 4000000 in
theorem gaUp {F g n c base j f : Nat} {cs : Array Value} {l : List Due} (w : World) (hB : Bk w F 69 cs) (h4 : cs[4]? = some (.slice (some ⟨g, 0, none⟩) n c)) (hr : DuR w base (.slice (some ⟨g, 0, none⟩) n c) l) (hn : l.length = n) (hnl : n ≤ 4611686018427387904) (hj : j < n) (hjf : j < f) :
    Calls Tryz.prog 55 #[hpV F, .int .i64 (j : Nat)] w fun e w' => e = .returned (.tuple #[]) ∧ DuR w' base (.slice (some ⟨g, 0, none⟩) n c) (hUp dLt f l j) ∧ FrK w w' (Kis g) := by
  have hgF : F ≠ g := fun e => by
    obtain ⟨cur, hc⟩ := own_bk (g := g) hr rfl
    exact ne_of_type hc hB (by decide) e.symm
  have HB := Lib.hid hB
  have R0 := Lib.hid hr
  have HN := Lib.hid hn
  obtain ⟨res, hres⟩ : ∃ res, hUp dLt f l j = res := ⟨_, rfl⟩
  rw [hres]
  have HRES := Lib.hid hres
  have eL := enLess
  have eS := enSwap
  clear hB hr hn hres
  go_enter Tryz.func55, Tryz.ntmps55
  go_wp2_with fail
  go_loopw [1, 4] (fun j_ _ wr => ∃ (k f' : Nat) (l' : List Due), j_ = .int .i64 (k : Nat) ∧ k < n ∧ k < f' ∧ Hid (hUp dLt f' l' k = res) ∧ Hid (DuR wr base (.slice (some ⟨g, 0, none⟩) n c) l' ∧ l'.length = n) ∧ Hid (FrK w wr (Kis g))) (fun j_ _ _ => (intOf j_).toNat)
  case atStart => exact ⟨j, f, l, rfl, hj, hjf, HRES, Lib.hid ⟨R0.out, HN.out⟩, Lib.hid (FrK.refl w _)⟩
  case round =>
    obtain ⟨k, f', l', rfl, hk, hkf, HU, HR, HF⟩ := hrel
    have hbr := HF.out.bk HB.out (fun e => hgF e)
    have c4 : wr.cell? ⟨F, 4, none⟩ = some (.slice (some ⟨g, 0, none⟩) n c) := by rw [hbr.cell 4]; exact h4
    have mL := mLess c4
    obtain ⟨f0, rfl⟩ : ∃ f0, f' = f0 + 1 := ⟨f' - 1, by omega⟩
    by_cases hk0 : k = 0
    · subst hk0
      have hu := HU.out
      unfold hUp at hu
      rw [if_pos rfl] at hu
      have HU2 := Lib.hid hu
      clear hu hbr
      go_wp2_with fail
      go_end0
      exact ⟨rfl, HU2.out ▸ HR.out.1, HF.out⟩
    · obtain ⟨i, hi⟩ : ∃ i, (k - 1) / 2 = i := ⟨_, rfl⟩
      have hi1 : ((k : Int) - 1) / 2 = (i : Int) := by omega
      have hik : i < k := by omega
      have hne : ((i : Int) == (k : Int)) = false := by simp; omega
      obtain ⟨x, hx⟩ : ∃ x, l'[k]? = some x := ⟨_, List.getElem?_eq_getElem (by rw [HR.out.2]; exact hk)⟩
      obtain ⟨y, hy⟩ : ∃ y, l'[i]? = some y := ⟨_, List.getElem?_eq_getElem (by rw [HR.out.2]; omega)⟩
      have hu := HU.out
      unfold hUp at hu
      rw [if_neg hk0, hi, hx, hy] at hu
      simp only at hu
      have cL := gaLess (c := c) wr (du_rd HR.out.1 HR.out.2) (Nat.le_refl _) HR.out.2 hnl hx hy
      have CL := Lib.hid cL
      have HU2 := Lib.hid hu
      have HBR := Lib.hid hbr
      clear hu hbr hx hy cL hi
      go_wp2_with fail
      refine CL.out.mono ?_
      rintro e w2 ⟨rfl, b2⟩
      have hf2 := HF.out.trans (FrK.of_below b2 (Nat.le_refl _) (Kis g)) fun _ _ e => e
      have hr2 : DuR w2 base (.slice (some ⟨g, 0, none⟩) n c) l' := own_of HR.out.1 fun q hq => b2.block q (HR.out.1.lt q hq).2
      cases hlt : dLt x y with
      | false =>
        have hres2 : l' = res := by
          have h1 := HU2.out
          rw [hlt, if_neg (by simp)] at h1
          exact h1
        subst hres2
        have HF2 := Lib.hid hf2
        have HR2 := Lib.hid hr2
        clear hf2 hr2 hlt b2 CL
        go_wp2_with fail
        go_end0
        exact ⟨rfl, HR2.out, HF2.out⟩
      | true =>
        have hu2 : hUp dLt f0 (swp l' i k) i = res := by
          have h1 := HU2.out
          rw [hlt, if_pos rfl] at h1
          exact h1
        have c42 : w2.cell? ⟨F, 4, none⟩ = some (.slice (some ⟨g, 0, none⟩) n c) := by
          have h1 := (b2.block F HBR.out.lt).trans HBR.out
          rw [Bk.cell h1 4]
          exact h4
        have mS := mSwap c42
        have cS := gaSwap (c := c) w2 hr2 HR.out.2 hnl (show i < n by omega) hk
        have CS := Lib.hid cS
        have HU3 := Lib.hid hu2
        have HF2 := Lib.hid hf2
        have HL := HR.out.2
        clear hf2 hr2 hlt b2 CL cS hu2 c42
        go_wp2_with fail
        refine CS.out.mono ?_
        rintro e w3 ⟨rfl, r3, g3⟩
        have HR3 := Lib.hid r3
        have HF3 := Lib.hid (HF2.out.trans (FrK.of_grown g3 fun b _ e => (Option.some.inj e).symm) fun _ _ e => e)
        clear r3 g3 CS
        go_wp2_with fail
        exact ⟨⟨i, f0, swp l' i k, by go_num, by omega, by omega, HU3, Lib.hid ⟨HR3.out, by rw [swp_len]; exact HL⟩, HF3⟩, by simp only [intOf]; omega⟩
end Go.Proofs.YtoojpagpkbcfjaaGreat


/- Layer 20: heap.down. Printed by tools/genGaF.py. -/
namespace Go.Proofs.YtoojpagpkbcfjaaGreat
open Go.RowKit
set_option maxRecDepth 100000 in
set_option maxHeartbeats 4000000 in
theorem gaDown {F g N n c base i f : Nat} {cs : Array Value} {l : List Due} (w : World) (hB : Bk w F 69 cs) (h4 : cs[4]? = some (.slice (some ⟨g, 0, none⟩) N c)) (hr : DuR w base (.slice (some ⟨g, 0, none⟩) N c) l) (hn : l.length = N) (hNl : N ≤ 1152921504606846976) (hnN : n ≤ N) (hi : i < N) (hif : n ≤ i + f) (hff : n < f + 1 + i) :
    Calls Tryz.prog 61 #[hpV F, .int .i64 (i : Nat), .int .i64 (n : Nat)] w fun e w' => (∃ q, e = .returned (.bool q)) ∧ DuR w' base (.slice (some ⟨g, 0, none⟩) N c) (hDown dLt f l i n) ∧ FrK w w' (Kis g) := by
  have hgF : F ≠ g := fun e => by
    obtain ⟨cur, hc⟩ := own_bk (g := g) hr rfl
    exact ne_of_type hc hB (by decide) e.symm
  have HB := Lib.hid hB
  have R0 := Lib.hid hr
  have HN := Lib.hid hn
  obtain ⟨res, hres⟩ : ∃ res, hDown dLt f l i n = res := ⟨_, rfl⟩
  rw [hres]
  have HRES := Lib.hid hres
  have eL := enLess
  have eS := enSwap
  clear hB hr hn hres hff
  go_enter Tryz.func61, Tryz.ntmps61
  go_wp2_with fail
  go_loopw [7, 8, 9, 10] (fun i_ _ _ _ wr => ∃ (k f' : Nat) (l' : List Due), i_ = .int .i64 (k : Nat) ∧ k < N ∧ n ≤ k + f' ∧ Hid (hDown dLt f' l' k n = res) ∧ Hid (DuR wr base (.slice (some ⟨g, 0, none⟩) N c) l' ∧ l'.length = N) ∧ Hid (FrK w wr (Kis g))) (fun i_ _ _ _ _ => N - (intOf i_).toNat)
  case atStart => exact ⟨i, f, l, rfl, hi, hif, HRES, Lib.hid ⟨R0.out, HN.out⟩, Lib.hid (FrK.refl w _)⟩
  case round =>
    obtain ⟨k, f', l', rfl, hk, hkf, HU, HR, HF⟩ := hrel
    have HLN := Lib.hid HR.out.2
    have HR1 := Lib.hid HR.out.1
    obtain ⟨j1, hj1⟩ : ∃ j1, 2 * k + 1 = j1 := ⟨_, rfl⟩
    have hj1i : 2 * (k : Int) + 1 = (j1 : Int) := by omega
    by_cases hend : n ≤ j1
    · have hend' : (n : Int) ≤ (j1 : Int) := by omega
      have hendd : decide ((j1 : Int) ≥ (n : Int)) = true := by simp; omega
      have hres2 : l' = res := by
        have h1 := HU.out
        cases f' with
        | zero => exact h1
        | succ f0 =>
          unfold hDown at h1
          rw [if_pos (by omega)] at h1
          exact h1
      subst hres2
      clear HU HRES
      go_wp2_with fail
      go_ret
      exact ⟨⟨_, rfl⟩, HR1.out, HF.out⟩
    · have hend' : ¬ (n : Int) ≤ (j1 : Int) := by omega
      have hendd : decide ((j1 : Int) ≥ (n : Int)) = false := by simp; omega
      have hj0 : ¬ (j1 : Int) < 0 := by omega
      obtain ⟨f0, rfl⟩ : ∃ f0, f' = f0 + 1 := ⟨f' - 1, by omega⟩
      have hu := HU.out
      unfold hDown at hu
      rw [if_neg (by omega)] at hu
      have HU2 := Lib.hid hu
      obtain ⟨j2, hj2⟩ : ∃ j2, j1 + 1 = j2 := ⟨_, rfl⟩
      have hj2i : (j1 : Int) + 1 = (j2 : Int) := by omega
      clear hu HU
      by_cases h2n : j2 < n
      · have h2n' : (j2 : Int) < (n : Int) := by omega
        obtain ⟨x2, hx2⟩ : ∃ x, l'[j2]? = some x := ⟨_, List.getElem?_eq_getElem (by have := HLN.out; omega)⟩
        obtain ⟨x1, hx1⟩ : ∃ x, l'[j1]? = some x := ⟨_, List.getElem?_eq_getElem (by have := HLN.out; omega)⟩
        have hbr := HF.out.bk HB.out (fun e => hgF e)
        have c4 : wr.cell? ⟨F, 4, none⟩ = some (.slice (some ⟨g, 0, none⟩) N c) := by rw [Bk.cell hbr 4]; exact h4
        have mL := mLess c4
        have cL := gaLess (c := c) wr (du_rd HR1.out HLN.out) (Nat.le_refl _) HLN.out (by omega) hx2 hx1
        have hkd : hKid dLt l' k n = if dLt x2 x1 = true then j2 else j1 := by
          unfold hKid
          rw [show 2 * k + 2 = j2 by omega, show 2 * k + 1 = j1 by omega, hx2, hx1]
          simp only [h2n, true_and]
        have HKQ := Lib.hid hkd
        have CL := Lib.hid cL
        clear hbr c4 cL hkd hx2 hx1
        go_wp2_with fail
        refine CL.out.mono ?_
        rintro e w2 ⟨rfl, b2⟩
        have HF2 := Lib.hid (HF.out.trans (FrK.of_below b2 (Nat.le_refl _) (Kis g)) fun _ _ e => e)
        have HR2 : Hid (DuR w2 base (.slice (some ⟨g, 0, none⟩) N c) l') := Lib.hid (own_of HR1.out fun q hq => b2.block q (HR1.out.lt q hq).2)
        cases hq : dLt x2 x1 with
        | true =>
          have HKD : Hid (hKid dLt l' k n = j2) := Lib.hid (by rw [HKQ.out, hq, if_pos rfl])
          clear hq b2 HKQ CL mL
          obtain ⟨y, hy⟩ : ∃ y, l'[j2]? = some y := ⟨_, List.getElem?_eq_getElem (by have := HLN.out; omega)⟩
          obtain ⟨z, hz⟩ : ∃ z, l'[k]? = some z := ⟨_, List.getElem?_eq_getElem (by have := HLN.out; omega)⟩
          have hu := HU2.out
          rw [show hKid dLt l' k n = j2 from HKD.out, hy, hz] at hu
          simp only at hu
          have hbr := HF2.out.bk HB.out (fun e => hgF e)
          have c4 : w2.cell? ⟨F, 4, none⟩ = some (.slice (some ⟨g, 0, none⟩) N c) := by rw [Bk.cell hbr 4]; exact h4
          have mL := mLess c4
          have cL := gaLess (c := c) w2 (du_rd HR2.out HLN.out) (Nat.le_refl _) HLN.out (by omega) hy hz
          have CL2 := Lib.hid cL
          have HU4 := Lib.hid hu
          have HBR2 := Lib.hid hbr
          clear hu hbr hy hz cL c4
          go_wp2_with fail
          refine CL2.out.mono ?_
          rintro e w5 ⟨rfl, b5⟩
          have hf5 := HF2.out.trans (FrK.of_below b5 (Nat.le_refl _) (Kis g)) fun _ _ e => e
          have hr5 : DuR w5 base (.slice (some ⟨g, 0, none⟩) N c) l' := own_of HR2.out fun q hq => b5.block q (HR2.out.lt q hq).2
          cases hlt : dLt y z with
          | false =>
            have hres2 : l' = res := by
              have h1 := HU4.out
              rw [hlt, if_neg (by simp)] at h1
              exact h1
            subst hres2
            have HF5 := Lib.hid hf5
            have HR5 := Lib.hid hr5
            clear hf5 hr5 hlt b5 CL2
            go_wp2_with fail
            go_ret
            exact ⟨⟨_, rfl⟩, HR5.out, HF5.out⟩
          | true =>
            have hu5 : hDown dLt f0 (swp l' k j2) j2 n = res := by
              have h1 := HU4.out
              rw [hlt, if_pos rfl] at h1
              exact h1
            have c45 : w5.cell? ⟨F, 4, none⟩ = some (.slice (some ⟨g, 0, none⟩) N c) := by
              have h1 := (b5.block F HBR2.out.lt).trans HBR2.out
              rw [Bk.cell h1 4]
              exact h4
            have mS := mSwap c45
            have cS := gaSwap (c := c) w5 hr5 HLN.out (by omega) (show k < N by omega) (show j2 < N by omega)
            have CS := Lib.hid cS
            have HU5 := Lib.hid hu5
            have HF5 := Lib.hid hf5
            clear hf5 hr5 hlt b5 CL2 cS hu5 c45
            go_wp2_with fail
            refine CS.out.mono ?_
            rintro e w6 ⟨rfl, r6, g6⟩
            have HR6 := Lib.hid r6
            have HF6 := Lib.hid (HF5.out.trans (FrK.of_grown g6 fun b _ e => (Option.some.inj e).symm) fun _ _ e => e)
            clear r6 g6 CS
            go_wp2_with fail
            exact ⟨⟨j2, f0, swp l' k j2, by go_num, by omega, by omega, HU5, Lib.hid ⟨HR6.out, by rw [swp_len]; exact HLN.out⟩, HF6⟩, by simp only [intOf]; omega⟩
        | false =>
          have HKD : Hid (hKid dLt l' k n = j1) := Lib.hid (by rw [HKQ.out, hq, if_neg (by simp)])
          clear hq b2 HKQ CL mL
          obtain ⟨y, hy⟩ : ∃ y, l'[j1]? = some y := ⟨_, List.getElem?_eq_getElem (by have := HLN.out; omega)⟩
          obtain ⟨z, hz⟩ : ∃ z, l'[k]? = some z := ⟨_, List.getElem?_eq_getElem (by have := HLN.out; omega)⟩
          have hu := HU2.out
          rw [show hKid dLt l' k n = j1 from HKD.out, hy, hz] at hu
          simp only at hu
          have hbr := HF2.out.bk HB.out (fun e => hgF e)
          have c4 : w2.cell? ⟨F, 4, none⟩ = some (.slice (some ⟨g, 0, none⟩) N c) := by rw [Bk.cell hbr 4]; exact h4
          have mL := mLess c4
          have cL := gaLess (c := c) w2 (du_rd HR2.out HLN.out) (Nat.le_refl _) HLN.out (by omega) hy hz
          have CL2 := Lib.hid cL
          have HU4 := Lib.hid hu
          have HBR2 := Lib.hid hbr
          clear hu hbr hy hz cL c4
          go_wp2_with fail
          refine CL2.out.mono ?_
          rintro e w5 ⟨rfl, b5⟩
          have hf5 := HF2.out.trans (FrK.of_below b5 (Nat.le_refl _) (Kis g)) fun _ _ e => e
          have hr5 : DuR w5 base (.slice (some ⟨g, 0, none⟩) N c) l' := own_of HR2.out fun q hq => b5.block q (HR2.out.lt q hq).2
          cases hlt : dLt y z with
          | false =>
            have hres2 : l' = res := by
              have h1 := HU4.out
              rw [hlt, if_neg (by simp)] at h1
              exact h1
            subst hres2
            have HF5 := Lib.hid hf5
            have HR5 := Lib.hid hr5
            clear hf5 hr5 hlt b5 CL2
            go_wp2_with fail
            go_ret
            exact ⟨⟨_, rfl⟩, HR5.out, HF5.out⟩
          | true =>
            have hu5 : hDown dLt f0 (swp l' k j1) j1 n = res := by
              have h1 := HU4.out
              rw [hlt, if_pos rfl] at h1
              exact h1
            have c45 : w5.cell? ⟨F, 4, none⟩ = some (.slice (some ⟨g, 0, none⟩) N c) := by
              have h1 := (b5.block F HBR2.out.lt).trans HBR2.out
              rw [Bk.cell h1 4]
              exact h4
            have mS := mSwap c45
            have cS := gaSwap (c := c) w5 hr5 HLN.out (by omega) (show k < N by omega) (show j1 < N by omega)
            have CS := Lib.hid cS
            have HU5 := Lib.hid hu5
            have HF5 := Lib.hid hf5
            clear hf5 hr5 hlt b5 CL2 cS hu5 c45
            go_wp2_with fail
            refine CS.out.mono ?_
            rintro e w6 ⟨rfl, r6, g6⟩
            have HR6 := Lib.hid r6
            have HF6 := Lib.hid (HF5.out.trans (FrK.of_grown g6 fun b _ e => (Option.some.inj e).symm) fun _ _ e => e)
            clear r6 g6 CS
            go_wp2_with fail
            exact ⟨⟨j1, f0, swp l' k j1, by go_num, by omega, by omega, HU5, Lib.hid ⟨HR6.out, by rw [swp_len]; exact HLN.out⟩, HF6⟩, by simp only [intOf]; omega⟩
      · have h2n' : ¬ (j2 : Int) < (n : Int) := by omega
        have h2nd : decide ((j2 : Int) < (n : Int)) = false := by simp; omega
        have HKD : Hid (hKid dLt l' k n = j1) := Lib.hid (by
          unfold hKid
          split
          · rw [if_neg (by rintro ⟨h1, -⟩; omega)]
            exact hj1
          · exact hj1)
        obtain ⟨y, hy⟩ : ∃ y, l'[j1]? = some y := ⟨_, List.getElem?_eq_getElem (by have := HLN.out; omega)⟩
        obtain ⟨z, hz⟩ : ∃ z, l'[k]? = some z := ⟨_, List.getElem?_eq_getElem (by have := HLN.out; omega)⟩
        have hu := HU2.out
        rw [show hKid dLt l' k n = j1 from HKD.out, hy, hz] at hu
        simp only at hu
        have hbr := HF.out.bk HB.out (fun e => hgF e)
        have c4 : wr.cell? ⟨F, 4, none⟩ = some (.slice (some ⟨g, 0, none⟩) N c) := by rw [Bk.cell hbr 4]; exact h4
        have mL := mLess c4
        have cL := gaLess (c := c) wr (du_rd HR1.out HLN.out) (Nat.le_refl _) HLN.out (by omega) hy hz
        have CL2 := Lib.hid cL
        have HU4 := Lib.hid hu
        have HBR2 := Lib.hid hbr
        clear hu hbr hy hz cL c4
        go_wp2_with fail
        refine CL2.out.mono ?_
        rintro e w5 ⟨rfl, b5⟩
        have hf5 := HF.out.trans (FrK.of_below b5 (Nat.le_refl _) (Kis g)) fun _ _ e => e
        have hr5 : DuR w5 base (.slice (some ⟨g, 0, none⟩) N c) l' := own_of HR1.out fun q hq => b5.block q (HR1.out.lt q hq).2
        cases hlt : dLt y z with
        | false =>
          have hres2 : l' = res := by
            have h1 := HU4.out
            rw [hlt, if_neg (by simp)] at h1
            exact h1
          subst hres2
          have HF5 := Lib.hid hf5
          have HR5 := Lib.hid hr5
          clear hf5 hr5 hlt b5 CL2
          go_wp2_with fail
          go_ret
          exact ⟨⟨_, rfl⟩, HR5.out, HF5.out⟩
        | true =>
          have hu5 : hDown dLt f0 (swp l' k j1) j1 n = res := by
            have h1 := HU4.out
            rw [hlt, if_pos rfl] at h1
            exact h1
          have c45 : w5.cell? ⟨F, 4, none⟩ = some (.slice (some ⟨g, 0, none⟩) N c) := by
            have h1 := (b5.block F HBR2.out.lt).trans HBR2.out
            rw [Bk.cell h1 4]
            exact h4
          have mS := mSwap c45
          have cS := gaSwap (c := c) w5 hr5 HLN.out (by omega) (show k < N by omega) (show j1 < N by omega)
          have CS := Lib.hid cS
          have HU5 := Lib.hid hu5
          have HF5 := Lib.hid hf5
          clear hf5 hr5 hlt b5 CL2 cS hu5 c45
          go_wp2_with fail
          refine CS.out.mono ?_
          rintro e w6 ⟨rfl, r6, g6⟩
          have HR6 := Lib.hid r6
          have HF6 := Lib.hid (HF5.out.trans (FrK.of_grown g6 fun b _ e => (Option.some.inj e).symm) fun _ _ e => e)
          clear r6 g6 CS
          go_wp2_with fail
          exact ⟨⟨j1, f0, swp l' k j1, by go_num, by omega, by omega, HU5, Lib.hid ⟨HR6.out, by rw [swp_len]; exact HLN.out⟩, HF6⟩, by simp only [intOf]; omega⟩
end Go.Proofs.YtoojpagpkbcfjaaGreat

