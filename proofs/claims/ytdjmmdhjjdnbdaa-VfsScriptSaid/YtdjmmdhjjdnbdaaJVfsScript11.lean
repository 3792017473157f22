/- Texts of the proof of VfsScriptSaid, joined: VgK. -/
import Derived.Test.YtdjmmdhjjdnbdaaJVfsScript10
import Derived.Test.YtdjmmdhjjdnbdaaJVfsScript9
import Derived.Test.YtdjmmdhjjdnbdaaJVfsScript8
/- Layer 4: the names of a directory, sorted: slices.Sorted of maps.Keys. -/
namespace Go.Proofs.Ytdjmmdhjjdnbdaa
open Go.RowKit Go.MapKept Go.ChangeMaps Go.Maps Go.Sort Go.Shelf
open Go.WideElems (Fit rd rg)
open Go.WideMaps (keyOf_string_mk)
open Go.WideShapes (sorted_perm)

def keyStrV (x : MapEntry) : List UInt8 := match x.key with | .string s => s.data.toList | _ => []
/-- Nothing is asked of a value. -/
abbrev anyR : Value → Option (DataW Unit × List MemPlace) := fun _ => some (.lit (.bool true), [])
theorem mh_own {ν : Type} {vv : ν → Value} {w : World} {b : Nat} {L : List (ByteArray × ν)} (h : Mh strV vv w b L) (hs : ∀ p ∈ L, p.1.size ≤ maxLen) (hl : L.length ≤ maxLen) :
    ∃ D0 : DataW Unit, w.ownsMap Try.prog 9 anyR b L.length D0 ∧ (strKeys D0).Perm (L.map fun p => p.1.data.toList) ∧ Maps.size D0 ≤ L.length := by
  have hu := Try.underlying9
  obtain ⟨T, c, hT, rfl⟩ := h
  have hrd : ∀ x ∈ mhE strV vv T, ∃ t ∈ T, x.key = .string t.1.1 ∧ rd (H := Unit) Try.prog 9 anyR x = some (.string t.1.1.data.toList, .lit (.bool true)) := fun x hx => by
    obtain ⟨t, ht, rfl⟩ := List.mem_map.1 hx
    refine ⟨t, ht, rfl, ?_⟩
    exact Go.WideElems.rd_mk (R := anyR) (yv := (.lit (.bool true), [])) (keyOf_string_mk hu (hs t.1 (List.mem_map.2 ⟨t, ht, rfl⟩))) rfl
  have hfit : Fit (H := Unit) Try.prog 9 anyR (mhE strV vv T).toArray c := by
    refine ⟨by simpa [mhE] using hl, ⟨fun x hx => ?_, ?_, ?_⟩, fun x hx => ?_⟩
    · obtain ⟨t, ht, rfl⟩ := List.mem_map.1 (show x ∈ mhE strV vv T by simpa using hx)
      exact hT.lt t ht
    · have : (mhE strV vv T).map (·.born) = T.map (·.2) := by simp [mhE]
      simp only [this]
      exact hT.born
    · have e1 : (mhE strV vv T).map (·.key) = (T.map fun t => t.1.1).map strV := by simp [mhE]
      simp only [e1]
      exact List.Pairwise.map _ (fun a b hne e => hne (by injection e)) hT.keys
    · obtain ⟨t, -, -, h1⟩ := hrd x (by simpa using hx)
      exact ⟨_, h1⟩
  refine ⟨_, ⟨_, _, hT.at_, hfit, by simp [mhE], rfl⟩, ?_, ?_⟩
  · have h1 := (sorted_perm ((mhE strV vv T).toArray.toList.map (rg (H := Unit) Try.prog 9 anyR))).map fun p => strOf p.1
    refine h1.trans ?_
    have e2 : ((mhE strV vv T).toArray.toList.map (rg (H := Unit) Try.prog 9 anyR)).map (fun p => strOf p.1) = (T.map (·.1)).map fun p => p.1.data.toList := by
      rw [List.map_map]
      have e3 : ∀ x ∈ (mhE strV vv T).toArray.toList, ((fun p : Lit × DataW Unit => strOf p.1) ∘ rg (H := Unit) Try.prog 9 anyR) x = keyStrV x := fun x hx => by
        obtain ⟨t, -, hk, h1⟩ := hrd x (by simpa using hx)
        rw [Function.comp_apply, Go.WideElems.rg_of h1, keyStrV, hk]
        rfl
      rw [List.map_congr_left e3]
      simp [mhE, keyStrV, Function.comp_def]
    rw [e2]
  · show List.length _ ≤ _
    rw [length_sorted]
    simp [mhE]
/-- Texts of the call's own. -/
def StrsV (w : World) (L : List ByteArray) (e : Ending) (w' : World) : Prop :=
  ∃ A c l, e = .returned (.slice A l.length c) ∧ SortV l ∧ l.Perm L ∧ w'.ownsRow w.heap.size 9 1 (.slice A l.length c) l.length (l.map strV) ∧ Below w.heap.size w w'
theorem sorts_vfs (m : Nat) : AnyZ.SortsIn Try.prog Try.sortedM_ren Fence.wide m :=
  ⟨fun blk off cap ss W hH hblk hsz => callsIn_wide.2 (AnyM.slices_Sort_string Try.sortM blk off cap ss W hH hblk hsz),
   fun p cap W => callsIn_wide.2 (AnyM.slices_Sort_string_none Try.sortM p cap W)⟩
theorem vfKeys (mb : Option Nat) (W : World) : Calls Try.prog 74 #[.map mb] W fun e w' => e = .returned (.func (.func 83) #[] #[.pointer (some ⟨W.heap.size, 0, none⟩)]) ∧ w' = W.alloc (.cells #[.map mb] 56) :=
  (callsIn_wide (n := 5)).1 (AnyZ.keys_in Try.keysM Fence.wide 5 trivial rfl mb W)
set_option maxHeartbeats 1000000 in
theorem vfSorted {ν : Type} {vv : ν → Value} {b : Nat} {L : List (ByteArray × ν)} (w : World) (h : Mh strV vv w b L) (hs : ∀ p ∈ L, p.1.size ≤ maxLen) (hl : L.length ≤ 100000) :
    Calls Try.prog 73 #[.func (.func 83) #[] #[.pointer (some ⟨w.heap.size, 0, none⟩)]] (w.alloc (.cells #[.map (some b)] 56)) (StrsV (w.alloc (.cells #[.map (some b)] 56)) (L.map (·.1))) := by
  obtain ⟨D0, hown, hperm, hsz⟩ := mh_own h hs (by simp only [maxLen]; omega)
  have hbl := hown.lt
  have hmax : Maps.size D0 ≤ maxLen := by simp only [maxLen]; omega
  have hseq : SeqGives Fence.wide 2 Try.prog 83 #[.pointer (some ⟨w.heap.size, 0, none⟩)] encStr (fun ss => ss.Perm (strKeys D0)) (Maps.size D0) (w.alloc (.cells #[.map (some b)] 56)) :=
    AnyZ.keys_gives (ρ := Try.keysM_ren) { Try.keysM with } Fence.wide _ trivial rfl (by omega) w.heap.size b L.length D0 _ (by simp) (by simp) (by
      obtain ⟨es, clock, hb, Ft, hs, hD⟩ := hown
      exact ⟨es, clock, (Below.heap_alloc _ _ b hbl).trans hb, Ft, hs, hD⟩)
  have hc := AnyZ.sorted_in Try.sortedM Fence.wide 5 trivial trivial trivial trivial rfl (by omega) (sorts_vfs _) (enters_of Try.func82 (by kernel_rfl) rfl) 83 #[.pointer (some ⟨w.heap.size, 0, none⟩)] trivial (enters_of Try.func83 (by kernel_rfl) rfl) _ _ hmax (by omega) _ hseq
  refine ((callsIn_wide (n := 5)).1 hc).mono ?_
  rintro e w' ⟨v, ss, rfl, hS, hrow, hnil, hb⟩
  have hl0 : ∀ (zs : List (List UInt8)), zs.map encStr = (zs.map fun x => (⟨x.toArray⟩ : ByteArray)).map strV := fun zs => by
    rw [List.map_map]
    rfl
  obtain ⟨zs, hzs⟩ : ∃ zs, (ss.mergeSort fun x y => decide (x ≤ y)) = zs := ⟨_, rfl⟩
  have hsorted : zs.Pairwise fun x y => x ≤ y := by
    have tr : ∀ a b c : List UInt8, leB a b = true → leB b c = true → leB a c = true := fun a b c h1 h2 => by
      simp only [leB, decide_eq_true_eq] at *
      exact List.le_trans h1 h2
    have to : ∀ a b : List UInt8, (leB a b || leB b a) = true := fun a b => by simp only [leB, Bool.or_eq_true, decide_eq_true_eq]; exact List.le_total a b
    have h1 := List.pairwise_mergeSort tr to ss
    rw [← hzs]
    exact h1.imp fun h => of_decide_eq_true h
  have hzp : zs.Perm ss := by rw [← hzs]; exact List.mergeSort_perm ss _
  rw [hzs, hl0] at hrow
  have hlen : (zs.map fun x => (⟨x.toArray⟩ : ByteArray)).length = ss.length := by rw [List.length_map, hzp.length_eq]
  have hsT : SortV (zs.map fun x => (⟨x.toArray⟩ : ByteArray)) := by
    refine List.Pairwise.map _ (fun a b h => ?_) hsorted
    rw [txLt, bytesLess_eq]
    refine decide_eq_false (fun hlt => ?_)
    have e1 : ∀ x : List UInt8, (⟨x.toArray⟩ : ByteArray).toList = x := fun x => by rw [ByteArray.toList_eq]
    rw [e1, e1] at hlt
    exact List.not_lt.2 h hlt
  have hpL : (zs.map fun x => (⟨x.toArray⟩ : ByteArray)).Perm (L.map (·.1)) := by
    have h1 := ((hzp.trans hS).trans hperm).map fun x => (⟨x.toArray⟩ : ByteArray)
    rw [List.map_map] at h1
    refine h1.trans ?_
    have e2 : ((fun x : List UInt8 => (⟨x.toArray⟩ : ByteArray)) ∘ fun p : ByteArray × ν => p.1.data.toList) = (·.1) := by
      funext s
      simp
    rw [e2]
  obtain ⟨l, hl'⟩ : ∃ l, (zs.map fun x => (⟨x.toArray⟩ : ByteArray)) = l := ⟨_, rfl⟩
  rw [hl'] at hrow hlen hsT hpL
  rw [← hlen] at hrow
  rcases hrow.2 with ⟨rfl, h0⟩ | ⟨g, cap, cur, rfl, -⟩
  · exact ⟨none, 0, l, by rw [h0], hsT, hpL, by rw [h0]; rw [h0] at hrow; exact hrow, hb⟩
  · exact ⟨_, cap, l, rfl, hsT, hpL, hrow, hb⟩
end Go.Proofs.Ytdjmmdhjjdnbdaa
