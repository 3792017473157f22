/- Texts of the proof of DepsNamesSaid, joined: Iter DfB. -/
import Derived.Shelf.SlGeneric
import Derived.Shelf.SlIter.Nil
import Derived.Shelf.SortM.Plain
import Derived.Shelf.SortM.SortNone
import Derived.Ground.GgzProg
import Derived.Ground.SlgmProg
import Derived.Test.YthaiplhjekkooaaProg
import Derived.Test.YthaiplhjekkooaaJDepsNames1
import Derived.Test.YthaiplhjekkooaaJDepsNames2
import Derived.Test.YthaiplhjekkooaaJDepsNames3
/-
  DERIVED: THE SHELF's CONTRACTS AT THIS DUMP, IN PLAIN WORDS (tools/lay-plain.mjs out of 'TryIter.lean', which tools/lay-shelf.mjs wrote): THE SAME DECLARATIONS UNDER THE SAME NAMES: 'import', 'namespace', 'open', 'def', 'theorem' AND NOTHING ELSE: no command of the shelf's: FOR A HAND-IN. Each laying: the table of numbers ('.._ren') and one theorem, a field a fact of the dump's own or the kernel's comparison; each contract: ONE APPLICATION.
-/
namespace Go.Proofs
open Go.Shelf
def Try.keysM_ren : Go.Shelf.Ren := ⟨fun | 7 => 45 | 10 => 62 | n => n, fun | 23 => 82 | 26 => 9 | 3 => 4 | 28 => 85 | 0 => 0 | 27 => 84 | 33 => 78 | 4 => 4 | n => n, fun | n => n⟩
theorem Try.keysM : Go.Proofs.SlLaysZ.n7 Try.prog Try.keysM_ren := {
  mixed := by kernel_rfl
  f7 := ⟨Try.f45.name, by decide, Try.func45.trans (congrArg some (by kernel_rfl))⟩
  f10 := ⟨Try.f62.name, by decide, Try.func62.trans (congrArg some (by kernel_rfl))⟩
  t0 := Try.underlying0
  a0 := Try.isAgg0
  z0 := Try.sizeOf0
  v0 := Try.zeroValue0
  t4 := Try.underlying4
  a4 := Try.isAgg4
  z4 := Try.sizeOf4
  v4 := Try.zeroValue4
  t23 := Try.underlying82
  a23 := Try.isAgg82
  z23 := Try.sizeOf82
  v23 := Try.zeroValue82
  t26 := Try.underlying9
  a26 := Try.isAgg9
  z26 := Try.sizeOf9
  v26 := Try.zeroValue9
  t27 := Try.underlying84
  a27 := Try.isAgg84
  z27 := Try.sizeOf84
  v27 := Try.zeroValue84
  t28 := Try.underlying85
  a28 := Try.isAgg85
  z28 := Try.sizeOf85
  v28 := Try.zeroValue85
  t33 := Try.underlying78
  a33 := Try.isAgg78
  z33 := Try.sizeOf78
  v33 := Try.zeroValue78 }
def Try.sortedM_ren : Go.Shelf.Ren := ⟨fun | 6 => 44 | 8 => 60 | 9 => 61 | 11 => 71 | 13 => 66 | 12 => 72 | 23 => 82 | 24 => 83 | 14 => 89 | 15 => 90 | 16 => 91 | 17 => 92 | 18 => 93 | 19 => 94 | 20 => 95 | 21 => 96 | 22 => 97 | 25 => 103 | 26 => 99 | 27 => 100 | 28 => 104 | 29 => 105 | 30 => 70 | 31 => 107 | n => n, fun | 26 => 9 | 28 => 85 | 24 => 57 | 0 => 0 | 3 => 3 | 37 => 105 | 48 => 121 | 50 => 29 | 4 => 4 | 40 => 114 | 39 => 113 | 45 => 118 | 5 => 5 | 9 => 9 | 51 => 132 | 55 => 136 | 57 => 140 | 58 => 141 | 33 => 78 | n => n, fun | n => n⟩
theorem Try.sortedM : Go.Proofs.SlLaysZ.n6 Try.prog Try.sortedM_ren := {
  mixed := by kernel_rfl
  f6 := ⟨Try.f44.name, by decide, Try.func44.trans (congrArg some (by kernel_rfl))⟩
  f8 := ⟨Try.f60.name, by decide, Try.func60.trans (congrArg some (by kernel_rfl))⟩
  f11 := ⟨Try.f71.name, by decide, Try.func71.trans (congrArg some (by kernel_rfl))⟩
  t0 := Try.underlying0
  a0 := Try.isAgg0
  z0 := Try.sizeOf0
  v0 := Try.zeroValue0
  t24 := Try.underlying57
  a24 := Try.isAgg57
  z24 := Try.sizeOf57
  v24 := Try.zeroValue57
  t26 := Try.underlying9
  a26 := Try.isAgg9
  z26 := Try.sizeOf9
  v26 := Try.zeroValue9
  t28 := Try.underlying85
  a28 := Try.isAgg85
  z28 := Try.sizeOf85
  v28 := Try.zeroValue85
  i26 := by kernel_rfl }
def Try.sortM_ren : Go.Shelf.Ren := ⟨fun | 6 => 61 | 8 => 66 | 9 => 72 | 19 => 82 | 20 => 83 | 21 => 89 | 22 => 90 | 23 => 91 | 24 => 92 | 25 => 93 | 26 => 94 | 27 => 95 | 28 => 96 | 29 => 97 | 36 => 103 | 31 => 99 | 32 => 100 | 37 => 104 | 38 => 105 | 39 => 70 | 41 => 107 | n => n, fun | 27 => 57 | 29 => 9 | 3 => 3 | 32 => 105 | 26 => 57 | 0 => 0 | 44 => 121 | 46 => 29 | 4 => 4 | 36 => 114 | 35 => 113 | 41 => 118 | 5 => 5 | 9 => 9 | 53 => 132 | 57 => 136 | 63 => 140 | 64 => 141 | n => n, fun | n => n⟩
theorem Try.sortM : Go.Proofs.SlLaysM.n6 Try.prog Try.sortM_ren := {
  mixed := by kernel_rfl
  f6 := ⟨Try.f61.name, by decide, Try.func61.trans (congrArg some (by kernel_rfl))⟩
  f8 := Try.func66.trans (congrArg some (by kernel_rfl))
  f9 := ⟨Try.f72.name, by decide, Try.func72.trans (congrArg some (by kernel_rfl))⟩
  f19 := Try.func82.trans (congrArg some (by kernel_rfl))
  f20 := Try.func83.trans (congrArg some (by kernel_rfl))
  f21 := ⟨Try.f89.name, by decide, Try.func89.trans (congrArg some (by kernel_rfl))⟩
  f22 := ⟨Try.f90.name, by decide, Try.func90.trans (congrArg some (by kernel_rfl))⟩
  f23 := ⟨Try.f91.name, by decide, Try.func91.trans (congrArg some (by kernel_rfl))⟩
  f24 := ⟨Try.f92.name, by decide, Try.func92.trans (congrArg some (by kernel_rfl))⟩
  f25 := ⟨Try.f93.name, by decide, Try.func93.trans (congrArg some (by kernel_rfl))⟩
  f26 := ⟨Try.f94.name, by decide, Try.func94.trans (congrArg some (by kernel_rfl))⟩
  f27 := ⟨Try.f95.name, by decide, Try.func95.trans (congrArg some (by kernel_rfl))⟩
  f28 := ⟨Try.f96.name, by decide, Try.func96.trans (congrArg some (by kernel_rfl))⟩
  f29 := ⟨Try.f97.name, by decide, Try.func97.trans (congrArg some (by kernel_rfl))⟩
  f31 := Try.func99.trans (congrArg some (by kernel_rfl))
  f32 := Try.func100.trans (congrArg some (by kernel_rfl))
  f36 := ⟨Try.f103.name, by decide, Try.func103.trans (congrArg some (by kernel_rfl))⟩
  f37 := ⟨Try.f104.name, by decide, Try.func104.trans (congrArg some (by kernel_rfl))⟩
  f38 := ⟨Try.f105.name, by decide, Try.func105.trans (congrArg some (by kernel_rfl))⟩
  f39 := ⟨Try.f70.name, by decide, Try.func70.trans (congrArg some (by kernel_rfl))⟩
  f41 := ⟨Try.f107.name, by decide, Try.func107.trans (congrArg some (by kernel_rfl))⟩
  t0 := Try.underlying0
  a0 := Try.isAgg0
  z0 := Try.sizeOf0
  v0 := Try.zeroValue0
  t3 := Try.underlying3
  a3 := Try.isAgg3
  z3 := Try.sizeOf3
  v3 := Try.zeroValue3
  t4 := Try.underlying4
  a4 := Try.isAgg4
  z4 := Try.sizeOf4
  v4 := Try.zeroValue4
  t5 := Try.underlying5
  a5 := Try.isAgg5
  z5 := Try.sizeOf5
  v5 := Try.zeroValue5
  t9 := Try.underlying9
  a9 := Try.isAgg9
  z9 := Try.sizeOf9
  v9 := Try.zeroValue9
  t26 := Try.underlying57
  a26 := Try.isAgg57
  z26 := Try.sizeOf57
  v26 := Try.zeroValue57
  t27 := Try.underlying57
  a27 := Try.isAgg57
  z27 := Try.sizeOf57
  v27 := Try.zeroValue57
  t29 := Try.underlying9
  a29 := Try.isAgg9
  z29 := Try.sizeOf9
  v29 := Try.zeroValue9
  t32 := Try.underlying105
  a32 := Try.isAgg105
  z32 := Try.sizeOf105
  v32 := Try.zeroValue105
  t35 := Try.underlying113
  a35 := Try.isAgg113
  z35 := Try.sizeOf113
  v35 := Try.zeroValue113
  t36 := Try.underlying114
  a36 := Try.isAgg114
  z36 := Try.sizeOf114
  v36 := Try.zeroValue114
  t41 := Try.underlying118
  a41 := Try.isAgg118
  z41 := Try.sizeOf118
  v41 := Try.zeroValue118
  t44 := Try.underlying121
  a44 := Try.isAgg121
  z44 := Try.sizeOf121
  v44 := Try.zeroValue121
  t46 := Try.underlying29
  a46 := Try.isAgg29
  z46 := Try.sizeOf29
  v46 := Try.zeroValue29
  t53 := Try.underlying132
  a53 := Try.isAgg132
  z53 := Try.sizeOf132
  v53 := Try.zeroValue132
  t57 := Try.underlying136
  a57 := Try.isAgg136
  z57 := Try.sizeOf136
  v57 := Try.zeroValue136
  t63 := Try.underlying140
  a63 := Try.isAgg140
  z63 := Try.sizeOf140
  v63 := Try.zeroValue140
  t64 := Try.underlying141
  a64 := Try.isAgg141
  z64 := Try.sizeOf141
  v64 := Try.zeroValue141 }
end Go.Proofs

/- deps: a set of texts as a map; slices.Sorted of its keys. -/
namespace Go.Proofs.Ythaiplhjekkooaa
open Go.RowKit Go.MapKept Go.ChangeMaps Go.Maps Go.Sort Go.Shelf
open Go.WideElems (Fit rd rg)
open Go.WideMaps (keyOf_string_mk)
open Go.WideShapes (sorted_perm)

abbrev boV (b : Bool) : Value := .bool b
/-- A set of texts. -/
abbrev setL (L : List ByteArray) : List (ByteArray × Bool) := L.map fun s => (s, true)
theorem setL_keys (L : List ByteArray) : (setL L).map (·.1) = L := by
  rw [setL, List.map_map]
  exact List.map_id L
def keyStr (x : MapEntry) : List UInt8 := match x.key with | .string s => s.data.toList | _ => []
theorem keyStr_map (L : List ByteArray) : (mgE strV boV (setL L)).toArray.toList.map keyStr = L.map fun s => s.data.toList := by
  apply List.ext_getElem?
  intro j
  rw [List.getElem?_map, List.getElem?_map]
  cases hj : L[j]? with
  | none =>
    have : (mgE strV boV (setL L)).toArray.toList[j]? = none := by
      simp [mgE, List.getElem?_mapIdx, hj]
    rw [this]
    rfl
  | some s =>
    have hx : (mgE strV boV (setL L)).toArray.toList[j]? = some ⟨strV s, boV true, j⟩ := by
      simp [mgE, List.getElem?_mapIdx, hj]
    rw [hx]
    rfl
theorem set_own {w : World} {b : Nat} {L : List ByteArray} (h : Mg strV boV w b (setL L)) (hs : ∀ s ∈ L, s.size ≤ maxLen) (hl : L.length ≤ maxLen) :
    ∃ D0 : DataW Unit, w.ownsMap Try.prog 9 (plainElem Try.prog 4) b L.length D0 ∧ (strKeys D0).Perm (L.map fun s => s.data.toList) ∧ Maps.size D0 ≤ L.length := by
  have hu := Try.underlying9
  have hub := Try.underlying4
  have hrd : ∀ x ∈ mgE strV boV (setL L), ∃ s, s ∈ L ∧ x.key = .string s ∧ rd (H := Unit) Try.prog 9 (plainElem Try.prog 4) x = some (.string s.data.toList, .lit (.bool true)) := fun x hx => by
    obtain ⟨i, p, hp, rfl⟩ := mgE_mem hx
    obtain ⟨s, hsL, rfl⟩ := List.mem_map.1 (List.mem_of_getElem? hp)
    refine ⟨s, hsL, rfl, ?_⟩
    exact Go.WideElems.rd_mk (keyOf_string_mk hu (hs s hsL)) (plainElem_bool hub true)
  have hfit : Fit (H := Unit) Try.prog 9 (plainElem Try.prog 4) (mgE strV boV (setL L)).toArray (setL L).length := by
    refine ⟨by simp [mgE_length]; exact hl, ⟨fun x hx => ?_, ?_, ?_⟩, fun x hx => ?_⟩
    · have : x.born ∈ (mgE strV boV (setL L)).map (·.born) := List.mem_map.2 ⟨x, by simpa using hx, rfl⟩
      rw [mgE_born] at this
      exact List.mem_range.1 this
    · have := mgE_born (kv := strV) (vv := boV) (setL L)
      simp only [this]
      exact List.nodup_range
    · have e1 : (mgE strV boV (setL L)).map (·.key) = L.map strV := by
        apply List.ext_getElem?
        intro j
        simp [mgE, List.getElem?_mapIdx]
        cases L[j]? <;> rfl
      simp only [e1]
      have hn := h.2
      rw [setL_keys] at hn
      exact List.Pairwise.map _ (fun a b hne e => hne (by injection e)) hn
    · obtain ⟨s, -, -, h1⟩ := hrd x (by simpa using hx)
      exact ⟨_, h1⟩
  refine ⟨_, ⟨_, _, h.1, hfit, by simp [mgE_length], rfl⟩, ?_, ?_⟩
  · have h1 := (sorted_perm ((mgE strV boV (setL L)).toArray.toList.map (rg (H := Unit) Try.prog 9 (plainElem Try.prog 4)))).map fun p => strOf p.1
    refine h1.trans ?_
    have e2 : ((mgE strV boV (setL L)).toArray.toList.map (rg (H := Unit) Try.prog 9 (plainElem Try.prog 4))).map (fun p => strOf p.1) = L.map fun s => s.data.toList := by
      rw [List.map_map]
      have e3 : ∀ x ∈ (mgE strV boV (setL L)).toArray.toList, ((fun p : Lit × DataW Unit => strOf p.1) ∘ rg (H := Unit) Try.prog 9 (plainElem Try.prog 4)) x = keyStr x := fun x hx => by
        obtain ⟨s, -, hk, h1⟩ := hrd x (by simpa using hx)
        rw [Function.comp_apply, Go.WideElems.rg_of h1, keyStr, hk]
        rfl
      rw [List.map_congr_left e3]
      exact keyStr_map L
    rw [e2]
  · show List.length _ ≤ _
    rw [length_sorted]
    simp [mgE_length]
/-- Texts of the call's own. -/
def StrsPost (w : World) (L : List ByteArray) (e : Ending) (w' : World) : Prop :=
  ∃ A c l, e = .returned (.slice A l.length c) ∧ SortT l ∧ l.Perm L ∧ w'.ownsRow w.heap.size 9 1 (.slice A l.length c) l.length (l.map strV) ∧ Below w.heap.size w w'
theorem sorts_deps (m : Nat) : AnyZ.SortsIn Try.prog Try.sortedM_ren Fence.wide m :=
  ⟨fun blk off cap ss W hH hblk hsz => callsIn_wide.2 (AnyM.slices_Sort_string Try.sortM blk off cap ss W hH hblk hsz),
   fun p cap W => callsIn_wide.2 (AnyM.slices_Sort_string_none Try.sortM p cap W)⟩
theorem deKeys (mb : Option Nat) (W : World) : Calls Try.prog 45 #[.map mb] W fun e w' => e = .returned (.func (.func 62) #[] #[.pointer (some ⟨W.heap.size, 0, none⟩)]) ∧ w' = W.alloc (.cells #[.map mb] 82) :=
  (callsIn_wide (n := 5)).1 (AnyZ.keys_in Try.keysM Fence.wide 5 trivial rfl mb W)
set_option maxHeartbeats 1000000 in
theorem deSorted {b : Nat} {L : List ByteArray} (w : World) (h : Mg strV boV w b (setL L)) (hs : ∀ s ∈ L, s.size ≤ maxLen) (hl : L.length ≤ 100000) :
    Calls Try.prog 44 #[.func (.func 62) #[] #[.pointer (some ⟨w.heap.size, 0, none⟩)]] (w.alloc (.cells #[.map (some b)] 82)) (StrsPost (w.alloc (.cells #[.map (some b)] 82)) L) := by
  obtain ⟨D0, hown, hperm, hsz⟩ := set_own h hs (by simp only [maxLen]; omega)
  have hbl := hown.lt
  have hmax : Maps.size D0 ≤ maxLen := by simp only [maxLen]; omega
  have hseq : SeqGives Fence.wide 2 Try.prog 62 #[.pointer (some ⟨w.heap.size, 0, none⟩)] encStr (fun ss => ss.Perm (strKeys D0)) (Maps.size D0) (w.alloc (.cells #[.map (some b)] 82)) :=
    AnyZ.keys_gives (ρ := Try.keysM_ren) { Try.keysM with } Fence.wide _ trivial rfl (by omega) w.heap.size b L.length D0 _ (by simp) (by simp) (by
      obtain ⟨es, clock, hb, Ft, hs, hD⟩ := hown
      exact ⟨es, clock, (Below.heap_alloc _ _ b hbl).trans hb, Ft, hs, hD⟩)
  have hc := AnyZ.sorted_in Try.sortedM Fence.wide 5 trivial trivial trivial trivial rfl (by omega) (sorts_deps _) (enters_of Try.func61 (by kernel_rfl) rfl) 62 #[.pointer (some ⟨w.heap.size, 0, none⟩)] trivial (enters_of Try.func62 (by kernel_rfl) rfl) _ _ hmax (by omega) _ hseq
  refine ((callsIn_wide (n := 5)).1 hc).mono ?_
  rintro e w' ⟨v, ss, rfl, hS, hrow, hnil, hb⟩
  have hl0 : ∀ (zs : List (List UInt8)), zs.map encStr = (zs.map fun x => (⟨x.toArray⟩ : ByteArray)).map strV := fun zs => by
    rw [List.map_map]
    rfl
  obtain ⟨zs, hzs⟩ : ∃ zs, (ss.mergeSort fun x y => decide (x ≤ y)) = zs := ⟨_, rfl⟩
  have hsorted : zs.Pairwise fun x y => x ≤ y := by
    have tr : ∀ a b c : List UInt8, leB a b = true → leB b c = true → leB a c = true := fun a b c h1 h2 => by
      simp only [leB, decide_eq_true_eq] at *
      exact List.le_trans h1 h2
    have to : ∀ a b : List UInt8, (leB a b || leB b a) = true := fun a b => by simp only [leB, Bool.or_eq_true, decide_eq_true_eq]; exact List.le_total a b
    have h1 := List.pairwise_mergeSort tr to ss
    rw [← hzs]
    exact h1.imp fun h => of_decide_eq_true h
  have hzp : zs.Perm ss := by rw [← hzs]; exact List.mergeSort_perm ss _
  rw [hzs, hl0] at hrow
  have hlen : (zs.map fun x => (⟨x.toArray⟩ : ByteArray)).length = ss.length := by rw [List.length_map, hzp.length_eq]
  have hsT : SortT (zs.map fun x => (⟨x.toArray⟩ : ByteArray)) := by
    refine List.Pairwise.map _ (fun a b h => ?_) hsorted
    rw [strLt, bytesLess_eq]
    refine decide_eq_false (fun hlt => ?_)
    have e1 : ∀ x : List UInt8, (⟨x.toArray⟩ : ByteArray).toList = x := fun x => by rw [ByteArray.toList_eq]
    rw [e1, e1] at hlt
    exact List.not_lt.2 h hlt
  have hpL : (zs.map fun x => (⟨x.toArray⟩ : ByteArray)).Perm L := by
    have h1 := ((hzp.trans hS).trans hperm).map fun x => (⟨x.toArray⟩ : ByteArray)
    rw [List.map_map] at h1
    refine h1.trans ?_
    have e2 : ((fun x : List UInt8 => (⟨x.toArray⟩ : ByteArray)) ∘ fun s : ByteArray => s.data.toList) = id := by
      funext s
      simp
    rw [e2, List.map_id]
  obtain ⟨l, hl'⟩ : ∃ l, (zs.map fun x => (⟨x.toArray⟩ : ByteArray)) = l := ⟨_, rfl⟩
  rw [hl'] at hrow hlen hsT hpL
  rw [← hlen] at hrow
  rcases hrow.2 with ⟨rfl, h0⟩ | ⟨g, cap, cur, rfl, -⟩
  · exact ⟨none, 0, l, by rw [h0], hsT, hpL, by rw [h0]; rw [h0] at hrow; exact hrow, hb⟩
  · exact ⟨_, cap, l, rfl, hsT, hpL, hrow, hb⟩
end Go.Proofs.Ythaiplhjekkooaa
