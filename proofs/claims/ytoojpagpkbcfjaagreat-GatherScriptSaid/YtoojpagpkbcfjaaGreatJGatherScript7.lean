/- Texts of the proof of GatherScriptSaid, joined: MgA StK MhA VfA VfB VfC FrL CpP. -/
import Derived.MapKept
import Derived.ChangeMaps4
import Derived.Maps.RangeRun
import Derived.Test.YtoojpagpkbcfjaaGreatJGatherScript1
import Derived.Maps.OwnSet
import Derived.LaidEqlPtr
import Derived.StillTailTactics
/- A map of whatever keys and values, as it lies: pairs in the order of their coming; update, lookup, len, range. -/
namespace Go.Proofs.YtoojpagpkbcfjaaGreat
open Go.RowKit Go.MapKept Go.ChangeMaps

/-- What runs over keys want of the keys' type. -/
structure KeyRun (P : Program) (kt : TypeId) {κ : Type} (kv : κ → Value) : Prop where
  inj : ∀ {x y : κ}, kv x = kv y → x = y
  check : ∀ (w : World) (em : Bool) (x : κ), (Instr.checkKey em 10000 kt (kv x)).run P w = .ok () w
  find : ∀ (w : World) (x : κ) (es : List MapEntry), (∀ e ∈ es, ∃ y, e.key = kv y) →
    ((Instr.findKey kt (kv x) es).run P w = .ok none w ∧ ∀ e ∈ es, e.key ≠ kv x) ∨ ∃ j e, (Instr.findKey kt (kv x) es).run P w = .ok (some (j, e.val)) w ∧ es[j]? = some e ∧ e.key = kv x
  stays : ∀ (w : World) (x : κ), (Instr.keyThatStays (kv x) (kv x)).run P w = .ok (kv x) w

section
variable {κ ν : Type} {kv : κ → Value} {vv : ν → Value}
def mgE (kv : κ → Value) (vv : ν → Value) (L : List (κ × ν)) : List MapEntry := L.mapIdx fun i p => ⟨kv p.1, vv p.2, i⟩
theorem mgE_length (L : List (κ × ν)) : (mgE kv vv L).length = L.length := by simp [mgE]
theorem mgE_get {L : List (κ × ν)} {i : Nat} {p : κ × ν} (h : L[i]? = some p) : (mgE kv vv L)[i]? = some ⟨kv p.1, vv p.2, i⟩ := by simp [mgE, h]
theorem mgE_getI {L : List (κ × ν)} {i : Nat} {e : MapEntry} (h : (mgE kv vv L)[i]? = some e) : ∃ p, L[i]? = some p ∧ e = ⟨kv p.1, vv p.2, i⟩ := by
  rw [mgE, List.getElem?_mapIdx] at h
  cases hp : L[i]? with
  | none => rw [hp] at h; cases h
  | some p => rw [hp] at h; exact ⟨p, rfl, (Option.some.inj h).symm⟩
theorem mgE_mem {L : List (κ × ν)} {e : MapEntry} (h : e ∈ mgE kv vv L) : ∃ i p, L[i]? = some p ∧ e = ⟨kv p.1, vv p.2, i⟩ := by
  obtain ⟨i, hi, rfl⟩ := List.getElem_of_mem h
  obtain ⟨p, hp, he⟩ := mgE_getI (List.getElem?_eq_getElem hi)
  exact ⟨i, p, hp, he⟩
theorem mgE_keys (L : List (κ × ν)) : ∀ e ∈ mgE kv vv L, ∃ y, e.key = kv y := fun e he => by
  obtain ⟨i, p, -, rfl⟩ := mgE_mem he
  exact ⟨p.1, rfl⟩
theorem mgE_snoc (L : List (κ × ν)) (p : κ × ν) : mgE kv vv (L ++ [p]) = mgE kv vv L ++ [⟨kv p.1, vv p.2, L.length⟩] := by simp [mgE, List.mapIdx_append]
theorem mgE_set (L : List (κ × ν)) (i : Nat) (p : κ × ν) : mgE kv vv (L.set i p) = (mgE kv vv L).set i ⟨kv p.1, vv p.2, i⟩ := by
  apply List.ext_getElem?
  intro j
  simp only [mgE, List.getElem?_mapIdx, List.getElem?_set]
  by_cases hij : i = j
  · subst hij
    simp
  · simp [hij]
theorem mgE_born (L : List (κ × ν)) : (mgE kv vv L).map (·.born) = List.range L.length := by
  apply List.ext_getElem?
  intro j
  simp only [mgE, List.getElem?_map, List.getElem?_mapIdx, List.getElem?_range, Option.map_map]
  by_cases hj : j < L.length
  · simp [hj]
  · simp [hj]
/-- Block b is just this map. -/
def Mg (kv : κ → Value) (vv : ν → Value) (w : World) (b : Nat) (L : List (κ × ν)) : Prop := w.heap[b]? = some (.map (mgE kv vv L).toArray L.length) ∧ (L.map (·.1)).Nodup
variable {w w' : World} {b : Nat} {L : List (κ × ν)}
theorem Mg.lt (h : Mg kv vv w b L) : b < w.heap.size := (Array.getElem?_eq_some_iff.1 h.1).1
theorem Mg.new (w : World) : Mg kv vv (w.alloc (.map #[] 0)) w.heap.size [] := ⟨heap_alloc_new w _, List.nodup_nil⟩
theorem Mg.alloc (h : Mg kv vv w b L) (o : Obj) : Mg kv vv (w.alloc o) b L := ⟨(Below.heap_alloc w o b h.lt).trans h.1, h.2⟩
theorem Mg.drew (h : Mg kv vv w b L) : Mg kv vv w.drew b L := h
theorem Mg.drewN (h : Mg kv vv w b L) (n : Nat) : Mg kv vv (w.drewN n) b L := h
theorem Mg.below {B : Nat} (h : Mg kv vv w b L) (hb : Below B w w') (hg : b < B) : Mg kv vv w' b L := ⟨(hb.block b hg).trans h.1, h.2⟩
theorem Mg.bS (h : Mg kv vv w b L) (hb : Below w.heap.size w w') : Mg kv vv w' b L := h.below hb h.lt
theorem Mg.grown {k : Option Nat} (h : Mg kv vv w b L) (hg : w.grownBy w' k) (hne : some b ≠ k) : Mg kv vv w' b L := ⟨(hg.block b h.lt hne).trans h.1, h.2⟩

theorem mg_find {P : Program} {kt : TypeId} (K : KeyRun P kt kv) (hL : (L.map (·.1)).Nodup) (w : World) (k : κ) :
    (k ∉ L.map (·.1) ∧ (Instr.findKey kt (kv k) (mgE kv vv L)).run P w = .ok none w) ∨ ∃ i v, L[i]? = some (k, v) ∧ (Instr.findKey kt (kv k) (mgE kv vv L)).run P w = .ok (some (i, vv v)) w := by
  rcases K.find w k (mgE kv vv L) (mgE_keys L) with ⟨h1, h2⟩ | ⟨j, e, h1, h2, h3⟩
  · refine .inl ⟨fun hk => ?_, h1⟩
    obtain ⟨p, hp, rfl⟩ := List.mem_map.1 hk
    obtain ⟨i, hi, rfl⟩ := List.getElem_of_mem hp
    exact h2 _ (List.mem_of_getElem? (mgE_get (List.getElem?_eq_getElem hi))) rfl
  · obtain ⟨p, hp, rfl⟩ := mgE_getI h2
    have hk := K.inj (show kv p.1 = kv k from h3)
    subst hk
    exact .inr ⟨j, p.2, hp, h1⟩
theorem run_mgLen {P : Program} {w : World} {t kt e : TypeId} (ht : P.underlying t = some (.map kt e)) (hb : Mg kv vv w b L) (ty : TypeId) :
    (Builtin.len_ #[t] ty #[.map (some b)]).run P w = .ok (.int .i64 L.length) w := by
  simp [Builtin.len_, run_underlying ht, MapKept.run_getObj_map hb.1, goInt, Result.andThen, mgE_length]
/-! ### range over a map that stands -/
/-- An iterator in block r over the map in block b: which places it has handed out. -/
structure Rg (kv : κ → Value) (vv : ν → Value) (w : World) (b r : Nat) (L : List (κ × ν)) (seen : Array Nat) : Prop where
  map : Mg kv vv w b L
  it : w.heap[r]? = some (.mapIter (some b) L.length seen L.length)
  nd : seen.toList.Nodup
  lt : ∀ i ∈ seen.toList, i < L.length
/-- What has been handed out. -/
def rgOut (L : List (κ × ν)) (seen : Array Nat) : List (κ × ν) := seen.toList.filterMap fun i => L[i]?
theorem Rg.ne {r : Nat} {seen : Array Nat} (h : Rg kv vv w b r L seen) : r ≠ b := fun e => by
  have h1 := h.it
  rw [e, h.map.1] at h1
  cases h1
theorem Rg.ltr {r : Nat} {seen : Array Nat} (h : Rg kv vv w b r L seen) : r < w.heap.size := (Array.getElem?_eq_some_iff.1 h.it).1
theorem Rg.below {B r : Nat} {seen : Array Nat} (h : Rg kv vv w b r L seen) (hb : Below B w w') (hg : b < B) (hr : r < B) : Rg kv vv w' b r L seen := ⟨h.map.below hb hg, (hb.block r hr).trans h.it, h.nd, h.lt⟩
theorem Rg.bS {r : Nat} {seen : Array Nat} (h : Rg kv vv w b r L seen) (hb : Below w.heap.size w w') : Rg kv vv w' b r L seen := h.below hb h.map.lt h.ltr
theorem Rg.grown {k : Option Nat} {r : Nat} {seen : Array Nat} (h : Rg kv vv w b r L seen) (hg : w.grownBy w' k) (hne : some b ≠ k) (hnr : some r ≠ k) : Rg kv vv w' b r L seen := ⟨h.map.grown hg hne, (hg.block r h.ltr hnr).trans h.it, h.nd, h.lt⟩
theorem Rg.start (h : Mg kv vv w b L) : Rg kv vv (w.alloc (.mapIter (some b) L.length #[] L.length)) b w.heap.size L #[] := ⟨h.alloc _, heap_alloc_new w _, List.nodup_nil, fun i hi => by cases hi⟩
theorem run_mgRange {P : Program} {w : World} {t kt e : TypeId} (ht : P.underlying t = some (.map kt e)) (hb : Mg kv vv w b L) :
    (Instr.range t (.map (some b))).run P w = .ok (.pointer (some ⟨w.heap.size, 0, none⟩)) (w.alloc (.mapIter (some b) L.length #[] L.length)) :=
  run_range_map w t kt e b _ _ ht hb.1
theorem nodup_len_le : ∀ (n : Nat) {s : List Nat}, s.Nodup → (∀ i ∈ s, i < n) → s.length ≤ n
  | 0, [], _, _ => Nat.le_refl _
  | 0, x :: l, _, h => absurd (h x (List.mem_cons_self ..)) (Nat.not_lt_zero _)
  | n + 1, s, hn, h => by
    have h1 := nodup_len_le n (s := s.erase n) (hn.erase n) (fun i hi => by
      have h2 := (hn.mem_erase_iff).1 hi
      have h3 := h i h2.2
      have h4 := h2.1
      omega)
    have h5 : s.length ≤ (s.erase n).length + 1 := by
      rw [List.length_erase]
      split <;> omega
    omega
theorem Rg.size_le {r : Nat} {seen : Array Nat} (h : Rg kv vv w b r L seen) : seen.size ≤ L.length := by
  have := nodup_len_le _ h.nd h.lt
  simpa using this
/-- All is handed out. -/
theorem Rg.all {r : Nat} {seen : Array Nat} (h : Rg kv vv w b r L seen) (hall : (leftOf (mgE kv vv L).toArray seen).size = 0) : (rgOut L seen).Perm L := by
  have hs := all_seen _ seen hall
  have hp : seen.toList.Perm (List.range L.length) := by
    rw [List.perm_ext_iff_of_nodup h.nd List.nodup_range]
    intro i
    refine ⟨fun hi => List.mem_range.2 (h.lt i hi), fun hi => ?_⟩
    have hi' := List.mem_range.1 hi
    have := hs _ (List.mem_of_getElem? (mgE_get (kv := kv) (vv := vv) (List.getElem?_eq_getElem hi')))
    simpa using this
  have h2 := hp.filterMap fun i => L[i]?
  refine h2.trans ?_
  have : (List.range L.length).filterMap (fun i => L[i]?) = L := by
    clear h2 hp hs hall h
    induction L with
    | nil => rfl
    | cons x l ih =>
      rw [List.length_cons, List.range_succ_eq_map, List.filterMap_cons]
      simp only [List.getElem?_cons_zero, List.filterMap_map]
      rw [← ih]
      congr 1
      conv => rhs; rw [← ih]
      rfl
  rw [this]
/-- The step. -/
theorem Rg.next {P : Program} {r : Nat} {seen : Array Nat} (h : Rg kv vv w b r L seen) (ty : TypeId) :
    ((rgOut L seen).Perm L ∧ (Instr.next (.pointer (some ⟨r, 0, none⟩)) false ty).run P w = .ok (.tuple #[.bool false]) w) ∨
    ∃ k v seen' w', (k, v) ∈ L ∧ (Instr.next (.pointer (some ⟨r, 0, none⟩)) false ty).run P w = .ok (.tuple #[.bool true, kv k, vv v]) w' ∧ Rg kv vv w' b r L seen' ∧ rgOut L seen' = rgOut L seen ++ [(k, v)] ∧ seen'.size = seen.size + 1 ∧ seen'.size ≤ L.length ∧ w.grownBy w' (some r) ∧ w'.heap.size = w.heap.size ∧
      ∀ W, Rg kv vv W b r L seen' → (Instr.entry (.pointer (some ⟨r, 0, none⟩))).run P W = .ok (.tuple #[kv k, vv v]) W := by
  have hborn : ((mgE kv vv L).toArray.toList.map (·.born)) = List.range L.length := by simpa using mgE_born (kv := kv) (vv := vv) L
  have hold : ∀ x ∈ (mgE kv vv L).toArray.toList, x.born < L.length := fun x hx => by
    have : x.born ∈ List.range L.length := by rw [← hborn]; exact List.mem_map.2 ⟨x, hx, rfl⟩
    exact List.mem_range.1 this
  rcases run_next_at (P := P) w ty r b L.length L.length seen _ _ h.it h.map.1 hold (Nat.le_refl _) with ⟨h0, hrun⟩ | ⟨e, he, w1, hal, hrun⟩
  · exact .inl ⟨h.all h0, hrun⟩
  · obtain ⟨hem, hes⟩ := mem_left he
    obtain ⟨i, p, hp, rfl⟩ := mgE_mem (show e ∈ mgE kv vv L from hem)
    have hr1 : w1.heap[r]? = some (.mapIter (some b) L.length seen L.length) := by rcases hal with rfl | rfl <;> exact h.it
    have hb1 : w1.heap[b]? = some (.map (mgE kv vv L).toArray L.length) := by rcases hal with rfl | rfl <;> exact h.map.1
    have hset := heap_set (o' := .mapIter (some b) L.length (seen.push i) L.length) hr1
    have hnot : i ∉ seen.toList := by
      have : seen.contains i = false := hes
      simpa using this
    have hR : Rg kv vv (setBlock w1 r (.mapIter (some b) L.length (seen.push i) L.length)) b r L (seen.push i) := by
      refine ⟨⟨(hset.2 b (fun e1 => h.ne e1.symm)).trans hb1, h.map.2⟩, hset.1, ?_, ?_⟩
      · rw [Array.toList_push, List.nodup_append]
        exact ⟨h.nd, by simp, fun a ha c hc e => by simp at hc; subst hc; exact hnot (e ▸ ha)⟩
      · intro j hj
        rw [Array.toList_push, List.mem_append] at hj
        rcases hj with hj | hj
        · exact h.lt j hj
        · simp at hj
          subst hj
          exact (List.getElem?_eq_some_iff.1 hp).1
    refine .inr ⟨p.1, p.2, seen.push i, _, List.mem_of_getElem? hp, hrun, hR, ?_, by simp, by have := hR.size_le; exact this, ?_, ?_, fun W hW => ?_⟩
    · simp [rgOut, hp]
    · rcases hal with rfl | rfl <;> exact ⟨rfl, rfl, rfl, by simp [setBlock], fun i _ hi => hset.2 i (fun e1 => hi (by rw [e1]))⟩
    · rcases hal with rfl | rfl <;> simp [setBlock]
    · exact run_entry_at W r b L.length seen (mgE kv vv L).toArray L.length ⟨kv p.1, vv p.2, i⟩ hW.it hW.map.1 hem (by rw [hborn]; exact List.nodup_range)
section
variable [DecidableEq κ]
/-- An update. -/
def mgPut (k : κ) (v : ν) : List (κ × ν) → List (κ × ν)
  | [] => [(k, v)]
  | p :: l => if p.1 = k then (k, v) :: l else p :: mgPut k v l
def mgGet (k : κ) (L : List (κ × ν)) : Option ν := (L.find? fun p => decide (p.1 = k)).map (·.2)
theorem mgPut_new {k : κ} {v : ν} : ∀ {L : List (κ × ν)}, k ∉ L.map (·.1) → mgPut k v L = L ++ [(k, v)]
  | [], _ => rfl
  | p :: l, h => by
    rw [mgPut, if_neg (fun e => h (by simp [e])), mgPut_new (fun hm => h (List.mem_cons_of_mem _ hm))]
    rfl
theorem mgPut_old {k : κ} {v : ν} : ∀ {L : List (κ × ν)} {i : Nat} {u : ν}, (L.map (·.1)).Nodup → L[i]? = some (k, u) → mgPut k v L = L.set i (k, v)
  | [], i, _, _, h => by simp at h
  | p :: l, 0, u, _, h => by
    simp at h
    subst h
    simp [mgPut]
  | p :: l, i + 1, u, hn, h => by
    obtain ⟨h1, h2⟩ := List.nodup_cons.1 hn
    simp at h
    rw [mgPut, if_neg (fun e => h1 (List.mem_map.2 ⟨_, List.mem_of_getElem? h, e.symm⟩)), mgPut_old h2 h]
    rfl
theorem mgPut_keys {k : κ} {v : ν} : ∀ (L : List (κ × ν)), (mgPut k v L).map (·.1) = if k ∈ L.map (·.1) then L.map (·.1) else L.map (·.1) ++ [k]
  | [] => by simp [mgPut]
  | p :: l => by
    rw [mgPut]
    by_cases h : p.1 = k
    · rw [if_pos h, if_pos (by simp [h])]
      simp [h]
    · rw [if_neg h]
      simp only [List.map_cons]
      rw [mgPut_keys l]
      by_cases h2 : k ∈ l.map (·.1)
      · rw [if_pos h2, if_pos (List.mem_cons_of_mem _ h2)]
      · rw [if_neg h2, if_neg (fun hm => by rcases List.mem_cons.1 hm with e | e; exact h e.symm; exact h2 e)]
        rfl
theorem mgPut_nodup {k : κ} {v : ν} {L : List (κ × ν)} (h : (L.map (·.1)).Nodup) : ((mgPut k v L).map (·.1)).Nodup := by
  rw [mgPut_keys]
  split
  · exact h
  · rename_i hk
    rw [List.nodup_append]
    exact ⟨h, by simp, fun a ha b hb e => by simp at hb; subst hb; exact hk (e ▸ ha)⟩
theorem mgPut_len_le {k : κ} {v : ν} (L : List (κ × ν)) : (mgPut k v L).length ≤ L.length + 1 := by
  have h := congrArg List.length (mgPut_keys (k := k) (v := v) L)
  split at h <;> simp at h <;> omega
theorem mgGet_none {k : κ} {L : List (κ × ν)} (h : k ∉ L.map (·.1)) : mgGet k L = none := by
  have : L.find? (fun p => decide (p.1 = k)) = none := by
    rw [List.find?_eq_none]
    intro p hp e
    exact h (List.mem_map.2 ⟨p, hp, of_decide_eq_true e⟩)
  rw [mgGet, this]
  rfl
theorem mgGet_some {k : κ} {v : ν} : ∀ {L : List (κ × ν)}, (L.map (·.1)).Nodup → (k, v) ∈ L → mgGet k L = some v
  | [], _, h => by cases h
  | p :: l, hn, h => by
    obtain ⟨h1, h2⟩ := List.nodup_cons.1 hn
    rcases List.mem_cons.1 h with e | h
    · subst e
      simp [mgGet]
    · have hne : p.1 ≠ k := fun e => h1 (List.mem_map.2 ⟨_, h, e.symm⟩)
      have := mgGet_some h2 h
      rw [mgGet] at this ⊢
      rw [List.find?_cons, decide_eq_false hne]
      exact this
theorem mgGet_mem {k : κ} {v : ν} {L : List (κ × ν)} (h : mgGet k L = some v) : (k, v) ∈ L := by
  rw [mgGet, Option.map_eq_some_iff] at h
  obtain ⟨p, hp, rfl⟩ := h
  have h1 := List.find?_some hp
  have h2 := List.mem_of_find?_eq_some hp
  have : p.1 = k := of_decide_eq_true h1
  rw [← this]
  exact h2

theorem run_mgLook {P : Program} {w : World} {t kt e : TypeId} (K : KeyRun P kt kv) (ht : P.underlying t = some (.map kt e)) {z : Value} (hz : (zeroValue e).run P w = .ok z w) (hb : Mg kv vv w b L) (k : κ) (c : Bool) :
    (Instr.lookup t (.map (some b)) (kv k) c).run P w = .ok (if c then .tuple #[((mgGet k L).map vv).getD z, .bool (mgGet k L).isSome] else ((mgGet k L).map vv).getD z) w := by
  rcases mg_find (vv := vv) K hb.2 w k with ⟨hk, hf⟩ | ⟨i, v, hi, hf⟩
  · rw [mgGet_none hk]
    simp [Instr.lookup, run_underlying ht, MapKept.run_getObj_map hb.1, K.check, hf, hz, Result.andThen]
  · rw [mgGet_some hb.2 (List.mem_of_getElem? hi)]
    simp [Instr.lookup, run_underlying ht, MapKept.run_getObj_map hb.1, K.check, hf, Result.andThen]
theorem run_mgPut {P : Program} {w : World} {t kt e : TypeId} (K : KeyRun P kt kv) (ht : P.underlying t = some (.map kt e)) (hb : Mg kv vv w b L) (k : κ) (v : ν) :
    (Instr.mapUpdate t (.map (some b)) (kv k) (vv v)).run P w = .ok () { w with heap := w.heap.setIfInBounds b (.map (mgE kv vv (mgPut k v L)).toArray (mgPut k v L).length) } := by
  rcases mg_find (vv := vv) K hb.2 w k with ⟨hk, hf⟩ | ⟨i, u, hi, hf⟩
  · rw [mgPut_new hk]
    simp [Instr.mapUpdate, run_underlying ht, MapKept.run_getObj_map hb.1, K.check, hf, MapKept.run_setObj_map _ hb.1, Result.andThen, mgE_snoc]
  · rw [mgPut_old hb.2 hi]
    have hi' := mgE_get (kv := kv) (vv := vv) hi
    have hm : ((mgE kv vv L).modify i fun e => { key := kv k, val := vv v, born := e.born }) = mgE kv vv (L.set i (k, v)) := by
      rw [mgE_set]
      apply List.ext_getElem?
      intro j
      rw [List.getElem?_modify, List.getElem?_set]
      by_cases hij : i = j
      · subst hij
        have hl := (List.getElem?_eq_some_iff.1 hi').1
        rw [hi']
        simp [hl]
      · simp [hij]
    simp [Instr.mapUpdate, run_underlying ht, MapKept.run_getObj_map hb.1, K.check, hf, hi', K.stays, MapKept.run_setObj_map _ hb.1, Result.andThen, hm]
theorem wpList_mgPut {P : Program} (w : World) {ops : Array Oper} {rest : List Oper} {o : Oper} {a : Act} {Q : Exit → Act → World → Prop}
    (hg : o.guard = none) (m x y : Operand) (t : TypeId) (hop : o.op = Op.mapUpdate t m x y) {kt e : TypeId} (K : KeyRun P kt kv) (ht : P.underlying t = some (.map kt e))
    (b : Nat) (L : List (κ × ν)) (hm : a.eval m = .map (some b)) (hb : Mg kv vv w b L) (k : κ) (v : ν) (hx : a.eval x = kv k) (hv : a.eval y = vv v)
    (hK : ∀ w', Mg kv vv w' b (mgPut k v L) → w.grownBy w' (some b) → w'.heap.size = w.heap.size → wpList P ops Q rest (a.put o.dst undef) w') :
    wpList P ops Q (o :: rest) a w := by
  refine wpList_plain hg fun K' hK' => ?_
  have hrun := run_mgPut K ht hb k v
  unfold Oper.wp
  simp [execOp, hop, hm, hx, hv, hrun, Result.andThen]
  refine hK' _ _ (hK _ ⟨?_, mgPut_nodup hb.2⟩ ⟨rfl, rfl, rfl, by simp, fun i _ hne => ?_⟩ (by simp))
  · have := hb.lt
    show (w.heap.setIfInBounds b _)[b]? = _
    simp [this]
  · show (w.heap.setIfInBounds b _)[i]? = _
    rw [Array.getElem?_setIfInBounds, if_neg (fun e => hne (by rw [e]))]

end
end
/-- Keys that are numbers of a kind. -/
theorem intRun {P : Program} {kt : TypeId} {q : IntKind} (hk : P.underlying kt = some (.int q)) : KeyRun P kt (fun n : Nat => Value.int q n) where
  inj h := by injection h with _ h; omega
  check w em x := MapKept.run_checkKey hk (by simp [IsKey]) em 9999
  find w x es hes := by
    rcases findNow_spec (d := .int q) (k := .int q x) (by simp [IsKey]) es 0 (fun e he => by obtain ⟨y, hy⟩ := hes e he; rw [hy]; simp [IsKey]) with ⟨h1, h2⟩ | ⟨j, e, h1, h2, h3⟩
    · exact .inl ⟨MapKept.run_findKey hk h1, h2⟩
    · exact .inr ⟨j, e, by rw [MapKept.run_findKey hk h1, Nat.zero_add], h2, h3⟩
  stays w x := MapKept.run_keyThatStays (d := .int q) (by simp [IsKey])
end Go.Proofs.YtoojpagpkbcfjaaGreat


/- Texts as keys. -/
namespace Go.Proofs.YtoojpagpkbcfjaaGreat
open Go.RowKit Go.MapKept Go.ChangeMaps

abbrev strV (s : ByteArray) : Value := .string s
theorem strRun {P : Program} {kt : TypeId} (hk : P.underlying kt = some .string) : KeyRun P kt strV where
  inj h := by injection h
  check w em x := MapKept.run_checkKey hk (by simp [IsKey]) em 9999
  find w x es hes := by
    rcases findNow_spec (d := .string) (k := .string x) (by simp [IsKey]) es 0 (fun e he => by obtain ⟨y, hy⟩ := hes e he; rw [hy]; simp [IsKey]) with ⟨h1, h2⟩ | ⟨j, e, h1, h2, h3⟩
    · exact .inl ⟨MapKept.run_findKey hk h1, h2⟩
    · exact .inr ⟨j, e, by rw [MapKept.run_findKey hk h1, Nat.zero_add], h2, h3⟩
  stays w x := MapKept.run_keyThatStays (d := .string) (by simp [IsKey])
theorem Rs.get {w : World} {B : Nat} {A : Option Addr} {xs : List ByteArray} (h : Rd w B A (xs.map strV)) {i : Nat} {x : ByteArray} (hi : xs[i]? = some x) : ∃ b o, A = some ⟨b, o, none⟩ ∧ w.cell? ⟨b, o + i, none⟩ = some (.string x) := by
  obtain ⟨b, o, e, -, hc⟩ := Rd.get h (show (xs.map strV)[i]? = some (.string x) by rw [List.getElem?_map, hi]; rfl)
  exact ⟨b, o, e, hc⟩
end Go.Proofs.YtoojpagpkbcfjaaGreat


/- A map whose keys may go again, as it lies: pairs with births; update, delete, lookup, len, range. -/
namespace Go.Proofs.YtoojpagpkbcfjaaGreat
open Go.RowKit Go.MapKept Go.ChangeMaps

/-- What runs over keys want of the keys' type, where keys can be compared in some worlds alone (pointers). -/
structure KeyAt (P : Program) (kt : TypeId) {κ : Type} (kv : κ → Value) (good : World → κ → Prop) : Prop where
  inj : ∀ {x y : κ}, kv x = kv y → x = y
  check : ∀ (w : World) (em : Bool) (x : κ), (Instr.checkKey em 10000 kt (kv x)).run P w = .ok () w
  find : ∀ (w : World) (x : κ) (es : List MapEntry), good w x → (∀ e ∈ es, ∃ y, good w y ∧ e.key = kv y) →
    ((Instr.findKey kt (kv x) es).run P w = .ok none w ∧ ∀ e ∈ es, e.key ≠ kv x) ∨ ∃ j e, (Instr.findKey kt (kv x) es).run P w = .ok (some (j, e.val)) w ∧ es[j]? = some e ∧ e.key = kv x
  stays : ∀ (w : World) (x : κ), (Instr.keyThatStays (kv x) (kv x)).run P w = .ok (kv x) w
theorem KeyRun.at {P : Program} {kt : TypeId} {κ : Type} {kv : κ → Value} (K : KeyRun P kt kv) : KeyAt P kt kv fun _ _ => True :=
  ⟨K.inj, K.check, fun w x es _ h => K.find w x es fun e he => by
    obtain ⟨y, -, h2⟩ := h e he
    exact ⟨y, h2⟩, K.stays⟩
/-- A pointer to the block b's begin. -/
abbrev ptV (b : Nat) : Value := .pointer (some ⟨b, 0, none⟩)
/-- A block that is some struct's. -/
def IsRow (w : World) (b : Nat) : Prop := ∃ cs t, w.heap[b]? = some (.cells cs t (0, 0))
theorem ptAt {P : Program} {kt e : TypeId} {j : TypeInfo} (hk : P.underlying kt = some (.pointer e)) (hte : P.info? e = some j) (hsz : j.size ≠ 0) : KeyAt P kt ptV IsRow where
  inj h := by injection h with e2; injection e2 with e3; injection e3
  check w em x := by
    unfold Instr.checkKey
    simp only [Sem.run_bind, run_underlying hk, Result.andThen]
    rfl
  find w x es hx hes := by
    have hq : ∀ y, IsRow w y → (Op.equal kt (ptV x) (ptV y)).run P w = .ok (decide (x = y)) w := fun y hy => by
      by_cases hxy : x = y
      · subst hxy
        have h : ∀ d : Nat, (Op.equalIn (d + 1) kt (ptV x) (ptV x)).run P w = .ok true w := fun d => by
          simp [Op.equalIn, run_underlying hk, sizeOf, typeInfo, hte, run_sameAddr_same]
        rw [decide_eq_true rfl]
        exact h 9999
      · obtain ⟨ca, ta, ha⟩ := hx
        obtain ⟨cb, tb, hb⟩ := hy
        have hne : (⟨x, 0, none⟩ : Addr) ≠ ⟨y, 0, none⟩ := fun e1 => hxy (by injection e1)
        have h : ∀ d : Nat, (Op.equalIn (d + 1) kt (ptV x) (ptV y)).run P w = .ok false w := fun d => by
          simp [Op.equalIn, run_underlying hk, sizeOf, typeInfo, hte, hsz, run_sameAddr_other w hne ha hb]
        rw [decide_eq_false hxy]
        exact h 9999
    have hask : ∀ (es : List MapEntry) (i : Nat), (∀ e ∈ es, ∃ y, IsRow w y ∧ e.key = ptV y) →
        ((Instr.findAsking kt (ptV x) es i).run P w = .ok none w ∧ ∀ e ∈ es, e.key ≠ ptV x) ∨ ∃ j e, (Instr.findAsking kt (ptV x) es i).run P w = .ok (some (i + j, e.val)) w ∧ es[j]? = some e ∧ e.key = ptV x := by
      intro es
      induction es with
      | nil => exact fun i _ => .inl ⟨rfl, fun e he => by cases he⟩
      | cons e0 l ih =>
        intro i hl
        obtain ⟨y, hy, hey⟩ := hl e0 (List.mem_cons_self ..)
        have h1 := hq y hy
        by_cases hxy : x = y
        · refine .inr ⟨0, e0, ?_, rfl, by rw [hey, hxy]⟩
          rw [decide_eq_true hxy] at h1
          simp [Instr.findAsking, hey, h1, Result.andThen]
        · rw [decide_eq_false hxy] at h1
          have h2 : (Instr.findAsking kt (ptV x) (e0 :: l) i).run P w = (Instr.findAsking kt (ptV x) l (i + 1)).run P w := by
            simp [Instr.findAsking, hey, h1, Result.andThen]
          rw [h2]
          rcases ih (i + 1) (fun e he => hl e (List.mem_cons_of_mem _ he)) with ⟨h3, h4⟩ | ⟨j, e, h3, h4, h5⟩
          · refine .inl ⟨h3, fun e he => ?_⟩
            rcases List.mem_cons.1 he with rfl | he
            · rw [hey]
              exact fun e1 => hxy (by injection e1 with e2; injection e2 with e3; injection e3 with e4; exact e4.symm)
            · exact h4 e he
          · exact .inr ⟨j + 1, e, by rw [h3, show i + (j + 1) = i + 1 + j from by omega], by simpa using h4, h5⟩
    have hnow : (Instr.findKey kt (ptV x) es).run P w = (Instr.findAsking kt (ptV x) es).run P w := by
      cases es with
      | nil => simp [Instr.findKey, run_underlying hk, Instr.findNow, Instr.findAsking, Result.andThen]
      | cons e0 l => simp [Instr.findKey, run_underlying hk, Instr.findNow, Instr.sameNow, Result.andThen]
    rw [hnow]
    rcases hask es 0 hes with h | ⟨j, e, h1, h2⟩
    · exact .inl h
    · exact .inr ⟨j, e, by rw [h1, Nat.zero_add], h2⟩
  stays w x := by simp [Instr.keyThatStays, Instr.sameBits]

section
variable {κ ν : Type} {kv : κ → Value} {vv : ν → Value}
def mhE (kv : κ → Value) (vv : ν → Value) (T : List ((κ × ν) × Nat)) : List MapEntry := T.map fun t => ⟨kv t.1.1, vv t.1.2, t.2⟩
/-- Block b is just this map, with these births and clock. -/
structure MhT (kv : κ → Value) (vv : ν → Value) (w : World) (b : Nat) (T : List ((κ × ν) × Nat)) (c : Nat) : Prop where
  at_ : w.heap[b]? = some (.map (mhE kv vv T).toArray c)
  keys : (T.map fun t => t.1.1).Nodup
  born : (T.map (·.2)).Nodup
  lt : ∀ t ∈ T, t.2 < c
/-- Block b is just this map. -/
def Mh (kv : κ → Value) (vv : ν → Value) (w : World) (b : Nat) (L : List (κ × ν)) : Prop := ∃ T c, MhT kv vv w b T c ∧ T.map (·.1) = L
variable {w w' : World} {b : Nat} {L : List (κ × ν)} {T : List ((κ × ν) × Nat)} {c : Nat}
theorem MhT.of (h : MhT kv vv w b T c) (h' : w'.heap[b]? = w.heap[b]?) : MhT kv vv w' b T c := ⟨h'.trans h.at_, h.keys, h.born, h.lt⟩
theorem MhT.ltb (h : MhT kv vv w b T c) : b < w.heap.size := (Array.getElem?_eq_some_iff.1 h.at_).1
theorem Mh.of (h : Mh kv vv w b L) (h' : w'.heap[b]? = w.heap[b]?) : Mh kv vv w' b L := by
  obtain ⟨T, c, h1, h2⟩ := h
  exact ⟨T, c, h1.of h', h2⟩
theorem Mh.obj (h : Mh kv vv w b L) : ∃ es c, w.heap[b]? = some (.map es c) := by
  obtain ⟨T, c, h1, -⟩ := h
  exact ⟨_, _, h1.at_⟩
theorem Mh.lt (h : Mh kv vv w b L) : b < w.heap.size := by
  obtain ⟨T, c, h1, -⟩ := h
  exact h1.ltb
theorem Mh.nodup (h : Mh kv vv w b L) : (L.map (·.1)).Nodup := by
  obtain ⟨T, c, h1, rfl⟩ := h
  rw [List.map_map]
  exact h1.keys
theorem Mh.new (w : World) : Mh kv vv (w.alloc (.map #[] 0)) w.heap.size [] := ⟨[], 0, ⟨heap_alloc_new w _, List.nodup_nil, List.nodup_nil, fun t h => by cases h⟩, rfl⟩
theorem Mh.alloc (h : Mh kv vv w b L) (o : Obj) : Mh kv vv (w.alloc o) b L := h.of (Below.heap_alloc w o b h.lt)
theorem Mh.drew (h : Mh kv vv w b L) : Mh kv vv w.drew b L := h.of rfl
theorem Mh.drewN (h : Mh kv vv w b L) (n : Nat) : Mh kv vv (w.drewN n) b L := h.of rfl
theorem Mh.below {B : Nat} (h : Mh kv vv w b L) (hb : Below B w w') (hg : b < B) : Mh kv vv w' b L := h.of (hb.block b hg)
theorem Mh.bS (h : Mh kv vv w b L) (hb : Below w.heap.size w w') : Mh kv vv w' b L := h.below hb h.lt
theorem Mh.grown {k : Option Nat} (h : Mh kv vv w b L) (hg : w.grownBy w' k) (hne : some b ≠ k) : Mh kv vv w' b L := h.of (hg.block b h.lt hne)
/-- A copy of the block. -/
theorem Mh.copy (h : Mh kv vv w b L) {es : Array MapEntry} {c : Nat} (hb : w.heap[b]? = some (.map es c)) {b' : Nat} (hb' : w'.heap[b']? = some (.map es c)) : Mh kv vv w' b' L := by
  obtain ⟨T, c', h1, h2⟩ := h
  exact ⟨T, c', ⟨hb'.trans (hb.symm.trans h1.at_), h1.keys, h1.born, h1.lt⟩, h2⟩

theorem mh_find {P : Program} {kt : TypeId} {good : World → κ → Prop} (K : KeyAt P kt kv good) (w : World) (k : κ) (T : List ((κ × ν) × Nat)) (hk : good w k) (hT : ∀ p ∈ T.map (·.1), good w p.1) :
    (k ∉ (T.map (·.1)).map (·.1) ∧ (Instr.findKey kt (kv k) (mhE kv vv T)).run P w = .ok none w) ∨ ∃ i v n, T[i]? = some ((k, v), n) ∧ (Instr.findKey kt (kv k) (mhE kv vv T)).run P w = .ok (some (i, vv v)) w := by
  rcases K.find w k (mhE kv vv T) hk (fun e he => by
    obtain ⟨t, ht, rfl⟩ := List.mem_map.1 he
    exact ⟨t.1.1, hT _ (List.mem_map.2 ⟨t, ht, rfl⟩), rfl⟩) with ⟨h1, h2⟩ | ⟨j, e, h1, h2, h3⟩
  · refine .inl ⟨fun hk => ?_, h1⟩
    rw [List.map_map] at hk
    obtain ⟨t, ht, rfl⟩ := List.mem_map.1 hk
    exact h2 _ (List.mem_map.2 ⟨t, ht, rfl⟩) rfl
  · rw [mhE, List.getElem?_map, Option.map_eq_some_iff] at h2
    obtain ⟨t, ht, rfl⟩ := h2
    have hk := K.inj (show kv t.1.1 = kv k from h3)
    subst hk
    exact .inr ⟨j, t.1.2, t.2, ht, h1⟩
theorem run_mhLen {P : Program} {w : World} {t kt e : TypeId} (ht : P.underlying t = some (.map kt e)) (hb : Mh kv vv w b L) (ty : TypeId) :
    (Builtin.len_ #[t] ty #[.map (some b)]).run P w = .ok (.int .i64 L.length) w := by
  obtain ⟨T, c, h1, rfl⟩ := hb
  simp [Builtin.len_, run_underlying ht, MapKept.run_getObj_map h1.at_, goInt, Result.andThen, mhE]
/-! ### range over a map that stands -/
/-- An iterator in block r over the map in block b: what it has handed out. -/
def Rh (kv : κ → Value) (vv : ν → Value) (w : World) (b r : Nat) (L D : List (κ × ν)) : Prop :=
  ∃ (T : List ((κ × ν) × Nat)) (c : Nat) (Q : List ((κ × ν) × Nat)), MhT kv vv w b T c ∧ T.map (·.1) = L ∧ w.heap[r]? = some (.mapIter (some b) c (Q.map (·.2)).toArray c) ∧ (Q.map (·.2)).Nodup ∧ (∀ t ∈ Q, t ∈ T) ∧ Q.map (·.1) = D
variable {r : Nat} {D : List (κ × ν)}
theorem Rh.map (h : Rh kv vv w b r L D) : Mh kv vv w b L := by
  obtain ⟨T, c, Q, h1, h2, -⟩ := h
  exact ⟨T, c, h1, h2⟩
theorem Rh.sub (h : Rh kv vv w b r L D) {p : κ × ν} (hp : p ∈ D) : p ∈ L := by
  obtain ⟨T, c, Q, h1, rfl, h3, h4, h5, rfl⟩ := h
  obtain ⟨t, ht, rfl⟩ := List.mem_map.1 hp
  exact List.mem_map.2 ⟨t, h5 t ht, rfl⟩
theorem Rh.ltr (h : Rh kv vv w b r L D) : r < w.heap.size := by
  obtain ⟨T, c, Q, h1, h2, h3, -⟩ := h
  exact (Array.getElem?_eq_some_iff.1 h3).1
theorem Rh.of (h : Rh kv vv w b r L D) (hb : w'.heap[b]? = w.heap[b]?) (hr : w'.heap[r]? = w.heap[r]?) : Rh kv vv w' b r L D := by
  obtain ⟨T, c, Q, h1, h2, h3, h4⟩ := h
  exact ⟨T, c, Q, h1.of hb, h2, hr.trans h3, h4⟩
theorem Rh.below {B : Nat} (h : Rh kv vv w b r L D) (hb : Below B w w') (hg : b < B) (hr : r < B) : Rh kv vv w' b r L D := h.of (hb.block b hg) (hb.block r hr)
theorem Rh.bS (h : Rh kv vv w b r L D) (hb : Below w.heap.size w w') : Rh kv vv w' b r L D := h.below hb h.map.lt h.ltr
theorem Rh.grown {k : Option Nat} (h : Rh kv vv w b r L D) (hg : w.grownBy w' k) (hne : some b ≠ k) (hnr : some r ≠ k) : Rh kv vv w' b r L D := h.of (hg.block b h.map.lt hne) (hg.block r h.ltr hnr)
theorem Rh.ne (h : Rh kv vv w b r L D) : r ≠ b := fun e => by
  obtain ⟨T, c, Q, h1, h2, h3, -⟩ := h
  rw [e, h1.at_] at h3
  cases h3
theorem Rh.isIter (h : Rh kv vv w b r L D) : ∃ m s l c, w.heap[r]? = some (.mapIter m s l c) := by
  obtain ⟨T, c, Q, h1, h2, h3, -⟩ := h
  exact ⟨_, _, _, _, h3⟩
/-- The start of a range: the block, and the run. -/
theorem Rh.start (h : Mh kv vv w b L) : ∃ c, (∀ {P : Program} {t kt e : TypeId}, P.underlying t = some (.map kt e) → (Instr.range t (.map (some b))).run P w = .ok (.pointer (some ⟨w.heap.size, 0, none⟩)) (w.alloc (.mapIter (some b) c #[] c))) ∧
    Rh kv vv (w.alloc (.mapIter (some b) c #[] c)) b w.heap.size L [] := by
  obtain ⟨T, c, h1, h2⟩ := h
  exact ⟨c, fun ht => run_range_map w _ _ _ b _ _ ht h1.at_, T, c, [], h1.of (Below.heap_alloc w _ b h1.ltb), h2, heap_alloc_new w _, List.nodup_nil, (fun t h => by cases h), rfl⟩
theorem nodup_of_map {α β : Type} {f : α → β} : ∀ {l : List α}, (l.map f).Nodup → l.Nodup
  | [], _ => List.nodup_nil
  | x :: l, h => by
    obtain ⟨h1, h2⟩ := List.nodup_cons.1 h
    exact List.nodup_cons.2 ⟨fun hx => h1 (List.mem_map.2 ⟨x, hx, rfl⟩), nodup_of_map h2⟩
theorem inj_of_nodup {α β : Type} {f : α → β} : ∀ {l : List α} {x y : α}, (l.map f).Nodup → x ∈ l → y ∈ l → f x = f y → x = y
  | [], _, _, _, h, _, _ => by cases h
  | z :: l, x, y, h, hx, hy, e => by
    obtain ⟨h1, h2⟩ := List.nodup_cons.1 h
    rcases List.mem_cons.1 hx with e1 | hx1 <;> rcases List.mem_cons.1 hy with e2 | hy1
    · rw [e1, e2]
    · exact absurd (List.mem_map.2 ⟨y, hy1, by rw [← e, e1]⟩) h1
    · exact absurd (List.mem_map.2 ⟨x, hx1, by rw [e, e2]⟩) h1
    · exact inj_of_nodup h2 hx1 hy1 e
theorem len_le_sub {α : Type} [DecidableEq α] : ∀ {l m : List α}, l.Nodup → l ⊆ m → l.length ≤ m.length
  | [], _, _, _ => Nat.zero_le _
  | x :: l, m, h, hs => by
    obtain ⟨h1, h2⟩ := List.nodup_cons.1 h
    have hx : x ∈ m := hs (List.mem_cons_self ..)
    have h3 : l ⊆ m.erase x := fun y hy => (List.mem_erase_of_ne (show y ≠ x from fun e => h1 (by rw [← e]; exact hy))).2 (hs (List.mem_cons_of_mem _ hy))
    have h4 := len_le_sub h2 h3
    rw [List.length_erase_of_mem hx] at h4
    have := List.length_pos_of_mem hx
    rw [List.length_cons]
    omega
/-- The last handed out, read. -/
theorem Rh.entry {P : Program} {k : κ} {v : ν} (h : Rh kv vv w b r L (D ++ [(k, v)])) : (Instr.entry (.pointer (some ⟨r, 0, none⟩))).run P w = .ok (.tuple #[kv k, vv v]) w := by
  obtain ⟨T, c, Q, h1, h2, h3, h4, h5, h6⟩ := h
  obtain ⟨Q1, Q2, rfl, h7, h8⟩ := List.map_eq_append_iff.1 h6
  obtain ⟨t, Q3, rfl, h9, h10⟩ := List.map_eq_cons_iff.1 h8
  cases List.map_eq_nil_iff.1 h10
  have hm : t ∈ T := h5 t (by simp)
  have h3' : w.heap[r]? = some (.mapIter (some b) c ((Q1.map (·.2)).toArray.push t.2) c) := by rw [h3]; simp
  have := run_entry_at (P := P) w r b c (Q1.map (·.2)).toArray (mhE kv vv T).toArray c ⟨kv t.1.1, vv t.1.2, t.2⟩ h3' h1.at_ (by
    show _ ∈ mhE kv vv T
    exact List.mem_map.2 ⟨t, hm, rfl⟩) (by
    show ((mhE kv vv T).map (·.born)).Nodup
    rw [mhE, List.map_map]
    exact h1.born)
  rw [h9] at this
  exact this
/-- The step. -/
theorem Rh.next {P : Program} (h : Rh kv vv w b r L D) (ty : TypeId) :
    (D.Perm L ∧ (Instr.next (.pointer (some ⟨r, 0, none⟩)) false ty).run P w = .ok (.tuple #[.bool false]) w) ∨
    ∃ k v w', (k, v) ∈ L ∧ (k, v) ∉ D ∧ (Instr.next (.pointer (some ⟨r, 0, none⟩)) false ty).run P w = .ok (.tuple #[.bool true, kv k, vv v]) w' ∧ Rh kv vv w' b r L (D ++ [(k, v)]) ∧ D.length + 1 ≤ L.length ∧ w.grownBy w' (some r) ∧ w'.heap.size = w.heap.size := by
  obtain ⟨T, c, Q, h1, h2, h3, h4, h5, h6⟩ := h
  have hold : ∀ x ∈ (mhE kv vv T).toArray.toList, x.born < c := fun x hx => by
    obtain ⟨t, ht, rfl⟩ := List.mem_map.1 (show x ∈ mhE kv vv T from hx)
    exact h1.lt t ht
  rcases run_next_at (P := P) w ty r b c c _ _ _ h3 h1.at_ hold (Nat.le_refl _) with ⟨h0, hrun⟩ | ⟨e, he, w1, hal, hrun⟩
  · refine .inl ⟨?_, hrun⟩
    have hs := all_seen _ _ h0
    have hp : (Q.map (·.2)).Perm (T.map (·.2)) := by
      rw [List.perm_ext_iff_of_nodup h4 h1.born]
      intro i
      constructor
      · intro hi
        obtain ⟨t, ht, rfl⟩ := List.mem_map.1 hi
        exact List.mem_map.2 ⟨t, h5 t ht, rfl⟩
      · intro hi
        obtain ⟨t, ht, rfl⟩ := List.mem_map.1 hi
        have := hs ⟨kv t.1.1, vv t.1.2, t.2⟩ (by
          show _ ∈ mhE kv vv T
          exact List.mem_map.2 ⟨t, ht, rfl⟩)
        simpa using this
    have hpQ : Q.Perm T := by
      have e1 : ∀ t, t ∈ Q ↔ t ∈ T := fun t => ⟨h5 t, fun ht => by
        have h7 := hp.mem_iff.2 (List.mem_map.2 ⟨t, ht, rfl⟩ : t.2 ∈ T.map (·.2))
        obtain ⟨q, hq, e⟩ := List.mem_map.1 h7
        have := inj_of_nodup h1.born (h5 q hq) ht e
        exact this ▸ hq⟩
      exact (List.perm_ext_iff_of_nodup (nodup_of_map h4) (nodup_of_map h1.born)).2 e1
    rw [← h6, ← h2]
    exact hpQ.map _
  · obtain ⟨hem, hes⟩ := mem_left he
    obtain ⟨t, ht, rfl⟩ := List.mem_map.1 (show e ∈ mhE kv vv T from hem)
    have hr1 : w1.heap[r]? = some (.mapIter (some b) c (Q.map (·.2)).toArray c) := by rcases hal with rfl | rfl <;> exact h3
    have hb1 : w1.heap[b]? = some (.map (mhE kv vv T).toArray c) := by rcases hal with rfl | rfl <;> exact h1.at_
    have hset := heap_set (o' := .mapIter (some b) c ((Q.map (·.2)).toArray.push t.2) c) hr1
    have hne : b ≠ r := fun e1 => by
      rw [← e1, h1.at_] at h3
      cases h3
    have hnot : t.2 ∉ Q.map (·.2) := by
      have : (Q.map (·.2)).toArray.contains t.2 = false := hes
      simpa using this
    have hnd : ((Q ++ [t]).map (·.2)).Nodup := by
      rw [List.map_append, List.nodup_append]
      exact ⟨h4, by simp, fun a ha a' ha' e1 => by simp at ha'; subst ha'; exact hnot (e1 ▸ ha)⟩
    have hsub : ∀ x ∈ Q ++ [t], x ∈ T := fun x hx => by
      rcases List.mem_append.1 hx with hx | hx
      · exact h5 x hx
      · simp at hx
        subst hx
        exact ht
    have hQT : (Q ++ [t]).length ≤ T.length := by
      have h7 : ((Q ++ [t]).map (·.2)) ⊆ T.map (·.2) := fun x hx => by
        obtain ⟨y, hy, rfl⟩ := List.mem_map.1 hx
        exact List.mem_map.2 ⟨y, hsub y hy, rfl⟩
      have := len_le_sub hnd h7
      simpa using this
    have hmemL : t.1 ∈ L := by rw [← h2]; exact List.mem_map.2 ⟨t, ht, rfl⟩
    have hnotD : t.1 ∉ D := fun hd => by
      rw [← h6] at hd
      obtain ⟨q, hq, e1⟩ := List.mem_map.1 hd
      have := inj_of_nodup (f := fun t : (κ × ν) × Nat => t.1.1) h1.keys (h5 q hq) ht (by show q.1.1 = t.1.1; rw [e1])
      exact hnot (List.mem_map.2 ⟨q, hq, by rw [this]⟩)
    refine .inr ⟨t.1.1, t.1.2, _, hmemL, hnotD, hrun, ⟨T, c, Q ++ [t], ⟨(hset.2 b hne).trans hb1, h1.keys, h1.born, h1.lt⟩, h2, ?_, hnd, hsub, ?_⟩, ?_, ?_, ?_⟩
    · rw [show (setBlock w1 r _).heap[r]? = _ from hset.1]
      simp
    · rw [List.map_append, h6]
      rfl
    · rw [← h6, ← h2]
      simpa using hQT
    · rcases hal with rfl | rfl <;> exact ⟨rfl, rfl, rfl, by simp [setBlock], fun i _ hi => hset.2 i (fun e1 => hi (by rw [e1]))⟩
    · rcases hal with rfl | rfl <;> simp [setBlock]

section
variable [DecidableEq κ]
def mgDel (k : κ) (L : List (κ × ν)) : List (κ × ν) := L.filter fun p => !decide (p.1 = k)
theorem mgDel_new {k : κ} {L : List (κ × ν)} (h : k ∉ L.map (·.1)) : mgDel k L = L := by
  rw [mgDel, List.filter_eq_self]
  intro p hp
  rw [decide_eq_false (fun e => h (List.mem_map.2 ⟨p, hp, e⟩))]
  rfl
theorem mgDel_old {k : κ} : ∀ {L : List (κ × ν)} {i : Nat} {u : ν}, (L.map (·.1)).Nodup → L[i]? = some (k, u) → mgDel k L = L.eraseIdx i
  | [], i, _, _, h => by simp at h
  | p :: l, 0, u, hn, h => by
    simp at h
    subst h
    obtain ⟨h1, h2⟩ := List.nodup_cons.1 hn
    rw [mgDel, List.filter_cons]
    simp only [decide_true, Bool.not_true, List.eraseIdx_cons_zero]
    exact mgDel_new h1
  | p :: l, i + 1, u, hn, h => by
    obtain ⟨h1, h2⟩ := List.nodup_cons.1 hn
    simp at h
    rw [mgDel, List.filter_cons, if_pos (by
      rw [decide_eq_false (fun e => h1 (List.mem_map.2 ⟨_, List.mem_of_getElem? h, e.symm⟩))]
      rfl)]
    rw [List.eraseIdx_cons_succ, ← mgDel_old h2 h]
    rfl
theorem mgDel_nodup {k : κ} {L : List (κ × ν)} (h : (L.map (·.1)).Nodup) : ((mgDel k L).map (·.1)).Nodup := (List.filter_sublist.map _).nodup h
theorem mgGet_put {k k' : κ} {v : ν} {L : List (κ × ν)} : mgGet k' (mgPut k v L) = if k' = k then some v else mgGet k' L := by
  induction L with
  | nil =>
    by_cases h : k = k'
    · simp [mgPut, mgGet, h]
    · simp [mgPut, mgGet, h, Ne.symm h]
  | cons p l ih =>
    rw [mgPut]
    by_cases h : p.1 = k
    · rw [if_pos h]
      by_cases h' : k' = k
      · subst h'
        simp [mgGet]
      · have h2 : ¬k = k' := fun e => h' e.symm
        simp [mgGet, h, h', h2]
    · rw [if_neg h]
      by_cases h2 : p.1 = k'
      · have : ¬k' = k := fun e => h (h2.trans e)
        simp [mgGet, h2, this]
      · have e1 : ∀ (X : List (κ × ν)), mgGet k' (p :: X) = mgGet k' X := fun X => by simp [mgGet, h2]
        rw [e1, e1, ih]
theorem mgGet_del {k k' : κ} {L : List (κ × ν)} : mgGet k' (mgDel k L) = if k' = k then none else mgGet k' L := by
  induction L with
  | nil => simp [mgDel, mgGet]
  | cons p l ih =>
    rw [mgDel] at ih ⊢
    rw [List.filter_cons]
    by_cases h : p.1 = k
    · rw [if_neg (by simp [h]), ih]
      by_cases h' : k' = k
      · rw [if_pos h', if_pos h']
      · have h2 : ¬k = k' := fun e => h' e.symm
        rw [if_neg h', if_neg h']
        simp [mgGet, h, h2]
    · rw [if_pos (by simp [h])]
      by_cases h2 : p.1 = k'
      · have : ¬k' = k := fun e => h (h2.trans e)
        simp [mgGet, h2, this]
      · have e1 : ∀ (X : List (κ × ν)), mgGet k' (p :: X) = mgGet k' X := fun X => by simp [mgGet, h2]
        rw [e1, e1, ih]
theorem run_mhLook {P : Program} {w : World} {t kt e : TypeId} (K : KeyRun P kt kv) (ht : P.underlying t = some (.map kt e)) {z : Value} (hz : (zeroValue e).run P w = .ok z w) (hb : Mh kv vv w b L) (k : κ) (c : Bool) :
    (Instr.lookup t (.map (some b)) (kv k) c).run P w = .ok (if c then .tuple #[((mgGet k L).map vv).getD z, .bool (mgGet k L).isSome] else ((mgGet k L).map vv).getD z) w := by
  have hnd := hb.nodup
  obtain ⟨T, cl, h1, rfl⟩ := hb
  rcases mh_find (vv := vv) K.at w k T trivial (fun _ _ => trivial) with ⟨hk, hf⟩ | ⟨i, v, n, hi, hf⟩
  · rw [mgGet_none hk]
    simp [Instr.lookup, run_underlying ht, MapKept.run_getObj_map h1.at_, K.check, hf, hz, Result.andThen]
  · rw [mgGet_some (v := v) hnd (List.mem_map.2 ⟨_, List.mem_of_getElem? hi, rfl⟩)]
    simp [Instr.lookup, run_underlying ht, MapKept.run_getObj_map h1.at_, K.check, hf, Result.andThen]
/-- The world with another object in block b. -/
abbrev putObj (w : World) (b : Nat) (o : Obj) : World := { w with heap := w.heap.setIfInBounds b o }
theorem putObj_grown (w : World) (b : Nat) (o : Obj) : w.grownBy (putObj w b o) (some b) := ⟨rfl, rfl, rfl, by simp, fun i _ hne => by
  show (w.heap.setIfInBounds b _)[i]? = _
  rw [Array.getElem?_setIfInBounds, if_neg (fun e => hne (by rw [e]))]⟩
theorem run_mhPutAt {P : Program} {w : World} {t kt e : TypeId} {good : World → κ → Prop} (K : KeyAt P kt kv good) (ht : P.underlying t = some (.map kt e)) (hb : Mh kv vv w b L) (k : κ) (v : ν) (hok : good w k) (hoL : ∀ p ∈ L, good w p.1) :
    ∃ es c, (Instr.mapUpdate t (.map (some b)) (kv k) (vv v)).run P w = .ok () (putObj w b (.map es c)) ∧ Mh kv vv (putObj w b (.map es c)) b (mgPut k v L) := by
  have hnd := hb.nodup
  have hlt := hb.lt
  obtain ⟨T, cl, h1, rfl⟩ := hb
  rcases mh_find (vv := vv) K w k T hok hoL with ⟨hk, hf⟩ | ⟨i, u, n, hi, hf⟩
  · refine ⟨(mhE kv vv (T ++ [((k, v), cl)])).toArray, cl + 1, ?_, T ++ [((k, v), cl)], cl + 1, ⟨by simp [hlt], ?_, ?_, ?_⟩, ?_⟩
    · have h0 := h1.at_
      have hE : mhE kv vv (T ++ [((k, v), cl)]) = mhE kv vv T ++ [⟨kv k, vv v, cl⟩] := by simp [mhE]
      rw [hE]
      generalize mhE kv vv T = X at h0 hf hE
      simp [Instr.mapUpdate, run_underlying ht, MapKept.run_getObj_map h0, K.check, hf, MapKept.run_setObj_map _ h0, Result.andThen]
    · rw [List.map_append, List.nodup_append]
      refine ⟨h1.keys, by simp, fun a ha a' ha' e1 => ?_⟩
      simp at ha'
      subst ha'
      subst e1
      exact hk (by rw [List.map_map]; exact ha)
    · rw [List.map_append, List.nodup_append]
      refine ⟨h1.born, by simp, fun a ha a' ha' e1 => ?_⟩
      simp at ha'
      subst ha'
      obtain ⟨t, ht, rfl⟩ := List.mem_map.1 ha
      have := h1.lt t ht
      omega
    · intro t ht
      rcases List.mem_append.1 ht with ht | ht
      · have := h1.lt t ht
        omega
      · simp at ht
        subst ht
        simp
    · rw [mgPut_new hk, List.map_append]
      rfl
  · have hiL : (T.map (·.1))[i]? = some (k, u) := by rw [List.getElem?_map, hi]; rfl
    have hil : i < T.length := (List.getElem?_eq_some_iff.1 hi).1
    have hg : T[i] = ((k, u), n) := (List.getElem?_eq_some_iff.1 hi).2
    have hk1 : (T.set i ((k, v), n)).map (fun t => t.1.1) = T.map fun t => t.1.1 := by
      apply List.ext_getElem?
      intro j
      simp only [List.getElem?_map, List.getElem?_set]
      by_cases hj : i = j
      · subst hj
        simp [hil, hg]
      · simp [hj]
    have hk2 : (T.set i ((k, v), n)).map (·.2) = T.map (·.2) := by
      apply List.ext_getElem?
      intro j
      simp only [List.getElem?_map, List.getElem?_set]
      by_cases hj : i = j
      · subst hj
        simp [hil, hg]
      · simp [hj]
    have hi' : (mhE kv vv T)[i]? = some ⟨kv k, vv u, n⟩ := by rw [mhE, List.getElem?_map, hi]; rfl
    have hm : ((mhE kv vv T).modify i fun e => { key := kv k, val := vv v, born := e.born }) = mhE kv vv (T.set i ((k, v), n)) := by
      apply List.ext_getElem?
      intro j
      rw [List.getElem?_modify]
      by_cases hij : i = j
      · subst hij
        rw [hi', mhE, List.getElem?_map, List.getElem?_set]
        simp [hil]
      · simp [hij, mhE, List.getElem?_set]
    refine ⟨(mhE kv vv (T.set i ((k, v), n))).toArray, cl, ?_, T.set i ((k, v), n), cl, ⟨by simp [hlt], by rw [hk1]; exact h1.keys, by rw [hk2]; exact h1.born, fun t ht => ?_⟩, ?_⟩
    · have hE : (mhE kv vv T).toArray.toList = mhE kv vv T := rfl
      have hi2 : (mhE kv vv T).toArray[i]? = some ⟨kv k, vv u, n⟩ := by simpa using hi'
      have h0 := h1.at_
      generalize (mhE kv vv (T.set i ((k, v), n))) = Y at hm ⊢
      generalize mhE kv vv T = X at h0 hf hE hi2 hm hi'
      simp [Instr.mapUpdate, run_underlying ht, MapKept.run_getObj_map h0, K.check, hf, hi', K.stays, MapKept.run_setObj_map _ h0, Result.andThen, hm]
    · have h9 : t.2 ∈ (T.set i ((k, v), n)).map (·.2) := List.mem_map.2 ⟨t, ht, rfl⟩
      rw [hk2] at h9
      obtain ⟨q, hq, e1⟩ := List.mem_map.1 h9
      rw [← e1]
      exact h1.lt q hq
    · rw [mgPut_old hnd hiL]
      apply List.ext_getElem?
      intro j
      simp only [List.getElem?_map, List.getElem?_set]
      by_cases hj : i = j
      · subst hj
        simp [hil]
      · simp [hj]
theorem run_mhPut {P : Program} {w : World} {t kt e : TypeId} (K : KeyRun P kt kv) (ht : P.underlying t = some (.map kt e)) (hb : Mh kv vv w b L) (k : κ) (v : ν) :
    ∃ es c, (Instr.mapUpdate t (.map (some b)) (kv k) (vv v)).run P w = .ok () (putObj w b (.map es c)) ∧ Mh kv vv (putObj w b (.map es c)) b (mgPut k v L) := run_mhPutAt K.at ht hb k v trivial fun _ _ => trivial
theorem run_mhDel {P : Program} {w : World} {t kt e : TypeId} (K : KeyRun P kt kv) (ht : P.underlying t = some (.map kt e)) (hb : Mh kv vv w b L) (k : κ) (ty : TypeId) :
    ∃ es c, (Builtin.delete_ #[t, kt] ty #[.map (some b), kv k]).run P w = .ok (.tuple #[]) (putObj w b (.map es c)) ∧ Mh kv vv (putObj w b (.map es c)) b (mgDel k L) := by
  have hnd := hb.nodup
  have hlt := hb.lt
  obtain ⟨T, cl, h1, rfl⟩ := hb
  rcases mh_find (vv := vv) K.at w k T trivial (fun _ _ => trivial) with ⟨hk, hf⟩ | ⟨i, u, n, hi, hf⟩
  · refine ⟨(mhE kv vv T).toArray, cl, ?_, T, cl, ⟨by simp [hlt], h1.keys, h1.born, h1.lt⟩, (mgDel_new hk).symm⟩
    simp [Builtin.delete_, run_underlying ht, MapKept.run_getObj_map h1.at_, K.check, hf, MapKept.run_setObj_map _ h1.at_, Result.andThen]
  · have hiL : (T.map (·.1))[i]? = some (k, u) := by rw [List.getElem?_map, hi]; rfl
    have hil : i < T.length := (List.getElem?_eq_some_iff.1 hi).1
    have hsub : (mhE kv vv T).eraseIdx i = mhE kv vv (T.eraseIdx i) := by simp [mhE, map_eraseIdx]
    refine ⟨(mhE kv vv (T.eraseIdx i)).toArray, cl, ?_, T.eraseIdx i, cl, ⟨by simp [hlt], ?_, ?_, fun t ht => h1.lt t ((List.eraseIdx_sublist _ _).subset ht)⟩, ?_⟩
    · have hE : (mhE kv vv T).toArray.toList = mhE kv vv T := rfl
      have h0 := h1.at_
      generalize mhE kv vv (T.eraseIdx i) = Y at hsub ⊢
      generalize mhE kv vv T = X at h0 hf hE hsub
      simp [Builtin.delete_, run_underlying ht, MapKept.run_getObj_map h0, K.check, hf, MapKept.run_setObj_map _ h0, Result.andThen, hsub]
    · exact ((List.eraseIdx_sublist _ _).map _).nodup h1.keys
    · exact ((List.eraseIdx_sublist _ _).map _).nodup h1.born
    · rw [mgDel_old hnd hiL, map_eraseIdx]
theorem wpList_mhPutAt {P : Program} (w : World) {ops : Array Oper} {rest : List Oper} {o : Oper} {a : Act} {Q : Exit → Act → World → Prop}
    (hg : o.guard = none) (m x y : Operand) (t : TypeId) (hop : o.op = Op.mapUpdate t m x y) {kt e : TypeId} {good : World → κ → Prop} (K : KeyAt P kt kv good) (ht : P.underlying t = some (.map kt e))
    (b : Nat) (L : List (κ × ν)) (hm : a.eval m = .map (some b)) (hb : Mh kv vv w b L) (k : κ) (v : ν) (hx : a.eval x = kv k) (hv : a.eval y = vv v) (hok : good w k) (hoL : ∀ p ∈ L, good w p.1)
    (hK : ∀ w', Mh kv vv w' b (mgPut k v L) → w.grownBy w' (some b) → w'.heap.size = w.heap.size → wpList P ops Q rest (a.put o.dst undef) w') :
    wpList P ops Q (o :: rest) a w := by
  refine wpList_plain hg fun K' hK' => ?_
  obtain ⟨es, c, hrun, h2⟩ := run_mhPutAt K ht hb k v hok hoL
  unfold Oper.wp
  simp [execOp, hop, hm, hx, hv, hrun, Result.andThen]
  exact hK' _ _ (hK _ h2 (putObj_grown w b _) (by simp))
theorem wpList_mhPut {P : Program} (w : World) {ops : Array Oper} {rest : List Oper} {o : Oper} {a : Act} {Q : Exit → Act → World → Prop}
    (hg : o.guard = none) (m x y : Operand) (t : TypeId) (hop : o.op = Op.mapUpdate t m x y) {kt e : TypeId} (K : KeyRun P kt kv) (ht : P.underlying t = some (.map kt e))
    (b : Nat) (L : List (κ × ν)) (hm : a.eval m = .map (some b)) (hb : Mh kv vv w b L) (k : κ) (v : ν) (hx : a.eval x = kv k) (hv : a.eval y = vv v)
    (hK : ∀ w', Mh kv vv w' b (mgPut k v L) → w.grownBy w' (some b) → w'.heap.size = w.heap.size → wpList P ops Q rest (a.put o.dst undef) w') :
    wpList P ops Q (o :: rest) a w := wpList_mhPutAt w hg m x y t hop K.at ht b L hm hb k v hx hv trivial (fun _ _ => trivial) hK
theorem wpList_mhIns {P : Program} (w : World) {ops : Array Oper} {rest : List Oper} {o : Oper} {a : Act} {Q : Exit → Act → World → Prop}
    (hg : o.guard = none) (m x y : Operand) (t : TypeId) (hop : o.op = Op.insert t m x y) {kt e : TypeId} (K : KeyRun P kt kv) (ht : P.underlying t = some (.map kt e))
    (b : Nat) (L : List (κ × ν)) (hm : a.eval m = .map (some b)) (hb : Mh kv vv w b L) (k : κ) (v : ν) (hx : a.eval x = kv k) (hv : a.eval y = vv v)
    (hK : ∀ w', Mh kv vv w' b (mgPut k v L) → w.grownBy w' (some b) → w'.heap.size = w.heap.size → wpList P ops Q rest (a.put o.dst undef) w') :
    wpList P ops Q (o :: rest) a w := by
  refine wpList_plain hg fun K' hK' => ?_
  obtain ⟨es, c, hrun, h2⟩ := run_mhPut K ht hb k v
  unfold Oper.wp
  simp [execOp, hop, hm, hx, hv, hrun, Result.andThen]
  exact hK' _ _ (hK _ h2 (putObj_grown w b _) (by simp))
theorem wpList_mhDel {P : Program} (w : World) {ops : Array Oper} {rest : List Oper} {o : Oper} {a : Act} {Q : Exit → Act → World → Prop}
    (hg : o.guard = none) (m x : Operand) (t kt : TypeId) (hop : o.op = Op.call { callee := Callee.builtin Builtin.delete, args := #[m, x], argTypes := #[t, kt] }) {e : TypeId} (K : KeyRun P kt kv) (ht : P.underlying t = some (.map kt e))
    (b : Nat) (L : List (κ × ν)) (hm : a.eval m = .map (some b)) (hb : Mh kv vv w b L) (k : κ) (hx : a.eval x = kv k)
    (hK : ∀ w', Mh kv vv w' b (mgDel k L) → w.grownBy w' (some b) → w'.heap.size = w.heap.size → wpList P ops Q rest (a.put o.dst (.tuple #[])) w') :
    wpList P ops Q (o :: rest) a w := by
  refine wpList_plain hg fun K' hK' => ?_
  obtain ⟨es, c, hrun, h2⟩ := run_mhDel K ht hb k o.type
  unfold Oper.wp
  simp [execOp, hop, resolve, invoke, builtin, hm, hx, hrun, Result.andThen]
  exact hK' _ _ (hK _ h2 (putObj_grown w b _) (by simp))
end
end
end Go.Proofs.YtoojpagpkbcfjaaGreat


/- Layer 4, plain: a file system that forgets what was not synced: what each call does and answers. -/
namespace Go.Proofs.YtoojpagpkbcfjaaGreat

/-- A file: its bytes, how many are synced. -/
structure VFile where
  b : List Int
  s : Nat
/-- A change of the directory: a name that became a file, one that went. -/
structure VChg where
  name : ByteArray
  f : Option Nat
  gone : ByteArray
/-- A file system. -/
structure VSt where
  limit : Int
  syn : List (ByteArray × Nat)
  chg : List VChg
  off : Bool
  fuse : Int
  fault : Int
  err : Nat
  ops : Nat
  fs : List VFile
def noT : ByteArray := ⟨#[]⟩
def vch (x : Int) : Bool := (decide (97 ≤ x) && decide (x ≤ 122)) || (decide (48 ≤ x) && decide (x ≤ 57)) || decide (x = 45) || decide (x = 46)
/-- May it be a name? -/
def vName (s : ByteArray) : Bool := (nums s).all vch && decide (1 ≤ s.size) && decide (s.size ≤ 64)
/-- A name taken away. -/
def dDel (s : ByteArray) (L : List (ByteArray × Nat)) : List (ByteArray × Nat) := L.filter fun p => !decide (p.1 = s)
def chgOn (L : List (ByteArray × Nat)) (c : VChg) : List (ByteArray × Nat) :=
  match c.f with
  | some x => mgPut c.name x (if c.gone = noT then L else dDel c.gone L)
  | none => if c.gone = noT then L else dDel c.gone L
namespace VSt
def dirN (S : VSt) (n : Nat) : List (ByteArray × Nat) := (S.chg.take n).foldl chgOn S.syn
def now (S : VSt) : List (ByteArray × Nat) := S.dirN S.chg.length
def get (S : VSt) (s : ByteArray) : Option Nat := mgGet s S.now
def file (S : VSt) (i : Nat) : VFile := S.fs.getD i ⟨[], 0⟩
/-- The files that count for the room. -/
def counts (S : VSt) (i : Nat) : Bool := (S.syn.any fun p => decide (p.2 = i)) || S.chg.any fun c => decide (c.f = some i)
def used (S : VSt) : Nat := (((List.range S.fs.length).filter S.counts).map fun i => (S.file i).b.length).sum
/-- What strikes an operation. -/
def strike (S : VSt) : VSt × Nat :=
  if S.off = true then (S, 9)
  else if S.fuse = 0 then ({ S with ops := S.ops + 1, fuse := max (-1) (S.fuse - 1), fault := max (-1) (S.fault - 1), off := true }, 9)
  else if S.fault = 0 then ({ S with ops := S.ops + 1, fuse := max (-1) (S.fuse - 1), fault := max (-1) (S.fault - 1) }, S.err)
  else ({ S with ops := S.ops + 1, fuse := max (-1) (S.fuse - 1), fault := max (-1) (S.fault - 1) }, 0)
/-- An operation with names. -/
def op (S : VSt) (right : Bool) (do_ : VSt → VSt × Nat) : VSt × Nat :=
  if right = false then (S, 2) else if S.strike.2 ≠ 0 then (S.strike.1, S.strike.2) else do_ S.strike.1
def setFile (S : VSt) (i : Nat) (x : VFile) : VSt := { S with fs := S.fs.set i x }
def create (S : VSt) (s : ByteArray) : VSt × Nat := S.op (vName s) fun T =>
  match T.get s with
  | some _ => (T, 5)
  | none => ({ T with chg := T.chg ++ [⟨s, some T.fs.length, noT⟩], fs := T.fs ++ [⟨[], 0⟩] }, 0)
def append (S : VSt) (s : ByteArray) (zs : List Int) : VSt × Nat := S.op (vName s) fun T =>
  match T.get s with
  | none => (T, 6)
  | some i => if T.limit < (T.used : Int) + (zs.length : Int) then (T, 7) else (T.setFile i ⟨(T.file i).b ++ zs, (T.file i).s⟩, 0)
def sync (S : VSt) (s : ByteArray) : VSt × Nat := S.op (vName s) fun T =>
  match T.get s with
  | none => (T, 6)
  | some i => (T.setFile i ⟨(T.file i).b, (T.file i).b.length⟩, 0)
def syncDir (S : VSt) : VSt × Nat := S.op true fun T => ({ T with syn := T.now, chg := [] }, 0)
def rename (S : VSt) (s t : ByteArray) : VSt × Nat := S.op (vName s && vName t) fun T =>
  match T.get s with
  | none => (T, 6)
  | some i => if s = t then (T, 0) else ({ T with chg := T.chg ++ [⟨t, some i, s⟩] }, 0)
def remove (S : VSt) (s : ByteArray) : VSt × Nat := S.op (vName s) fun T =>
  match T.get s with
  | none => (T, 6)
  | some _ => ({ T with chg := T.chg ++ [⟨noT, none, s⟩] }, 0)
def readAt (b : List Int) (at_ n : Nat) : List Int := (b.drop at_).take n
def read (S : VSt) (s : ByteArray) (at_ n : Int) : VSt × List Int × Nat :=
  if (vName s && decide (0 ≤ at_) && decide (0 ≤ n)) = false then (S, [], 2)
  else if S.strike.2 ≠ 0 then (S.strike.1, [], S.strike.2)
  else match S.strike.1.get s with
    | none => (S.strike.1, [], 6)
    | some i => (S.strike.1, readAt (S.strike.1.file i).b at_.toNat n.toNat, 0)
def size (S : VSt) (s : ByteArray) : Int := match S.get s with | none => -1 | some i => (S.file i).b.length
def setFuse (S : VSt) (n : Int) : VSt := { S with fuse := max (-1) n }
def setFault (S : VSt) (n : Int) (e : Int) : VSt × Nat := if e ≠ 7 ∧ e ≠ 8 then (S, 2) else ({ S with fault := max (-1) n, err := e.toNat }, 0)
def modulo (n : Int) (there : Nat) : Nat := if n < 0 then 0 else (n % ((there : Int) + 1)).toNat
/-- How much of a file a crash keeps. -/
def kept (x : VFile) (keep : List Int) (i : Nat) : Nat := x.s + match keep[i]? with | some k => modulo k (x.b.length - x.s) | none => 0
/-- The files of l, from the i-th name on, as a crash leaves them. -/
def crashGo (keep : List Int) : List Nat → Nat → List VFile → List VFile
  | [], _, fs => fs
  | x :: l, i, fs => crashGo keep l (i + 1) (fs.set x ⟨((fs.getD x ⟨[], 0⟩).b.take (kept (fs.getD x ⟨[], 0⟩) keep i)), kept (fs.getD x ⟨[], 0⟩) keep i⟩)
/-- A crash, the directory's names being L, rising. -/
def crash (S : VSt) (n : Int) (keep : List Int) (L : List (ByteArray × Nat)) : VSt :=
  { S with syn := S.dirN (modulo n S.chg.length), chg := [], off := false, fuse := -1, fault := -1, fs := crashGo keep (L.map (·.2)) 0 S.fs }
def turn (S : VSt) (s : ByteArray) (at_ : Int) (bits : Int) : VSt × Nat :=
  match S.get s with
  | none => (S, 6)
  | some i => if at_ < 0 ∨ ((S.file i).b.length : Int) ≤ at_ then (S, 2) else (S.setFile i ⟨(S.file i).b.modify at_.toNat fun x => ((x.toNat ^^^ bits.toNat : Nat) : Int), (S.file i).s⟩, 0)
end VSt
def VSt.new (limit : Int) : VSt := ⟨limit, [], [], false, -1, -1, 0, 0, []⟩
end Go.Proofs.YtoojpagpkbcfjaaGreat


/- Layer 4: Name, the code's and the document's. -/
namespace Go.Proofs.YtoojpagpkbcfjaaGreat
open Go.RowKit

theorem vch_cases (z : Int) : (97 ≤ z ∧ z ≤ 122) ∨ (48 ≤ z ∧ z ≤ 57) ∨ z = 45 ∨ z = 46 ∨ (vch z = false ∧ z < 48 ∧ z ≠ 45 ∧ z ≠ 46) ∨ (vch z = false ∧ 57 < z ∧ z < 97) ∨ (vch z = false ∧ 122 < z) := by
  by_cases h1 : 97 ≤ z ∧ z ≤ 122
  · exact .inl h1
  by_cases h2 : 48 ≤ z ∧ z ≤ 57
  · exact .inr (.inl h2)
  by_cases h3 : z = 45
  · exact .inr (.inr (.inl h3))
  by_cases h4 : z = 46
  · exact .inr (.inr (.inr (.inl h4)))
  have hf : vch z = false := by
    unfold vch
    simp
    omega
  by_cases h5 : z < 48
  · exact .inr (.inr (.inr (.inr (.inl ⟨hf, h5, h3, h4⟩))))
  by_cases h6 : z < 97
  · exact .inr (.inr (.inr (.inr (.inr (.inl ⟨hf, by omega, h6⟩)))))
  · exact .inr (.inr (.inr (.inr (.inr (.inr ⟨hf, by omega⟩)))))
theorem vch_yes {z : Int} (h : (97 ≤ z ∧ z ≤ 122) ∨ (48 ≤ z ∧ z ≤ 57) ∨ z = 45 ∨ z = 46) : vch z = true := by
  unfold vch
  simp
  omega
theorem vName_bad {s : ByteArray} {z : Int} {k : Nat} (h : (nums s)[k]? = some z) (hz : vch z = false) : vName s = false := by
  have : (nums s).all vch = false := by
    rw [List.all_eq_false]
    exact ⟨z, List.mem_of_getElem? h, by rw [hz]; simp⟩
  unfold vName
  rw [this]
  rfl
theorem vName_end {s : ByteArray} (h : (nums s).all vch = true) : vName s = (decide (1 ≤ s.size) && decide (s.size ≤ 64)) := by
  unfold vName
  rw [h]
  rfl
end Go.Proofs.YtoojpagpkbcfjaaGreat


/- Layer 4: the code's file system as it lies; what a step may change. -/
namespace Go.Proofs.YtoojpagpkbcfjaaGreat
open Go.RowKit

/-- Of the blocks that lay, these alone may have changed. -/
structure FrK (w w' : World) (K : Nat → Prop) : Prop where
  os : w'.os = w.os
  tape : w'.tape = w.tape
  output : w'.output = w.output
  size : w.heap.size ≤ w'.heap.size
  block : ∀ b, b < w.heap.size → ¬K b → w'.heap[b]? = w.heap[b]?
/-- These blocks, and what has been made since. -/
def Kn (K : Nat → Prop) (a b : Nat) : Nat → Prop := fun x => K x ∨ (a ≤ x ∧ x < b)
abbrev Kno : Nat → Prop := fun _ => False
abbrev Kis (g : Nat) : Nat → Prop := fun b => b = g
section
variable {w w' w'' : World} {K K' : Nat → Prop}
theorem FrK.refl (w : World) (K : Nat → Prop) : FrK w w K := ⟨rfl, rfl, rfl, Nat.le_refl _, fun _ _ _ => rfl⟩
theorem FrK.mono (h : FrK w w' K) (hk : ∀ b, b < w.heap.size → K b → K' b) : FrK w w' K' := ⟨h.os, h.tape, h.output, h.size, fun b hb hn => h.block b hb fun hK => hn (hk b hb hK)⟩
theorem FrK.trans (h : FrK w w' K) (h' : FrK w' w'' K') (hk : ∀ b, b < w.heap.size → K' b → K b) : FrK w w'' K :=
  ⟨h'.os.trans h.os, h'.tape.trans h.tape, h'.output.trans h.output, Nat.le_trans h.size h'.size, fun b hb hn => (h'.block b (Nat.lt_of_lt_of_le hb h.size) fun hK => hn (hk b hb hK)).trans (h.block b hb hn)⟩
theorem FrK.drewN (h : FrK w w' K) (n : Nat) : FrK w (w'.drewN n) K := ⟨h.os, h.tape, h.output, h.size, h.block⟩
theorem FrK.drew (h : FrK w w' K) : FrK w w'.drew K := ⟨h.os, h.tape, h.output, h.size, h.block⟩
theorem FrK.alloc (h : FrK w w' K) (o : Obj) : FrK w (w'.alloc o) K := h.trans (K' := Kno) ⟨rfl, rfl, rfl, by simp, fun b hb _ => Below.heap_alloc w' o b hb⟩ fun _ _ hf => hf.elim
theorem FrK.of_grown {r : Option Nat} (h : w.grownBy w' r) (hr : ∀ b, b < w.heap.size → r = some b → K b) : FrK w w' K :=
  ⟨h.os, h.tape, h.output, h.size, fun b hb hn => h.block b hb fun e => hn (hr b hb e.symm)⟩
theorem FrK.of_below {B : Nat} (h : Below B w w') (hB : w.heap.size ≤ B) (K : Nat → Prop) : FrK w w' K := ⟨h.os, h.tape, h.output, h.size, fun b hb _ => h.block b (Nat.lt_of_lt_of_le hb hB)⟩
theorem FrK.below {B : Nat} (h : FrK w w' K) (hB : B ≤ w.heap.size) (hk : ∀ b, K b → B ≤ b) : Below B w w' := ⟨h.os, h.tape, h.output, h.size, fun b hb => h.block b (Nat.lt_of_lt_of_le hb hB) fun hK => by have := hk b hK; omega⟩
theorem FrK.set (w : World) (g i : Nat) (u : Value) : FrK w (w.setCell ⟨g, i, none⟩ u) (Kis g) :=
  ⟨rfl, rfl, rfl, by simp [World.setCell], fun b _ hn => Below.heap_setCell w ⟨g, i, none⟩ u b hn⟩
theorem Kn.le {a b c : Nat} (h : b ≤ c) {x : Nat} (hx : Kn K a b x) : Kn K a c x := hx.elim .inl fun ⟨h1, h2⟩ => .inr ⟨h1, Nat.lt_of_lt_of_le h2 h⟩
theorem Kn.flat {a b c : Nat} (hab : a ≤ b) (hbc : b ≤ c) {x : Nat} (hx : Kn (Kn K a b) b c x) : Kn K a c x := by
  rcases hx with (h | ⟨h1, h2⟩) | ⟨h1, h2⟩
  · exact .inl h
  · exact .inr ⟨h1, by omega⟩
  · exact .inr ⟨by omega, h2⟩
theorem own_of {base : Nat} {t : TypeId} {k n : Nat} {v : Value} {xs : List Value} (h : w.ownsRow base t k v n xs) (hk : ∀ g, v.ownBlock = some g → w'.heap[g]? = w.heap[g]?) : w'.ownsRow base t k v n xs := by
  refine ⟨h.1, ?_⟩
  rcases h.2 with h1 | ⟨g, cap, cur, rfl, h2, h3, h4⟩
  · exact .inl h1
  · exact .inr ⟨g, cap, cur, rfl, h2, (hk g rfl).trans h3, h4⟩
end

/-! ### what is always so -/
/-- The names that a change is noted with, and their files. -/
def chgL (c : VChg) : List (ByteArray × Option Nat) :=
  match c.f with
  | some i => if c.gone = noT then [(c.name, some i)] else [(c.gone, none), (c.name, some i)]
  | none => [(c.gone, none)]
def VChg.Ok (c : VChg) (n : Nat) : Prop := (∀ i, c.f = some i → i < n ∧ c.gone ≠ c.name) ∧ (c.f = none → c.gone ≠ noT)
structure VSt.Ok (S : VSt) : Prop where
  syn : ∀ p ∈ S.syn, p.2 < S.fs.length
  synN : (S.syn.map (·.1)).Nodup
  chg : ∀ c ∈ S.chg, c.Ok S.fs.length
  inj : ∀ n, ((S.dirN n).map (·.2)).Nodup
  byt : ∀ x ∈ S.fs, Byt x.b ∧ x.s ≤ x.b.length
  fuse : -1 ≤ S.fuse ∧ S.fuse ≤ 9223372036854775807
  fault : -1 ≤ S.fault ∧ S.fault ≤ 9223372036854775807
/-- Pointers to files, or none. -/
abbrev fiV (fb : Nat → Nat) (i : Nat) : Value := ptV (fb i)
def fiO (fb : Nat → Nat) : Option Nat → Value
  | some i => ptV (fb i)
  | none => .pointer none
abbrev maV (b : Nat) : Value := .map (some b)
/-- Where all lies. -/
structure VMem where
  db : Nat
  sb : Nat
  cv : Value
  cms : List Nat
  fb : Nat → Nat
  bv : Nat → Value
  D : List (ByteArray × Nat)
  Y : List (ByteArray × Nat)
/-- The cells of a file system. -/
def fsC (S : VSt) (m : VMem) : Array Value := #[.bool true, .int .i64 S.limit, maV m.db, maV m.sb, m.cv, .bool S.off, .int .i64 S.fuse, .int .i64 S.fault, .int .i64 (S.err : Nat), .int .i64 (S.ops : Nat)]
section
variable {base F : Nat} {w w' : World} {K K' : Nat → Prop} {S : VSt} {m : VMem}
theorem ne_of_type {w : World} {a b : Nat} {t u : TypeId} {cs ds : Array Value} (h : Bk w a t cs) (h' : Bk w b u ds) (htu : t ≠ u) : a ≠ b := fun e => by
  rw [e] at h
  have := h.symm.trans h'
  injection this with h1
  injection h1 with h2 h3
  exact htu h3
theorem own_bk {base : Nat} {t : TypeId} {k n g : Nat} {v : Value} {xs : List Value} (h : w.ownsRow base t k v n xs) (hg : v.ownBlock = some g) : ∃ cur, Bk w g t cur := by
  rcases h.2 with ⟨rfl, -⟩ | ⟨g', cap, cur, rfl, h2, h3, h4⟩
  · cases hg
  · injection hg with e
    subst e
    exact ⟨cur, h3⟩
end
end Go.Proofs.YtoojpagpkbcfjaaGreat


/- Frames: more words. -/
namespace Go.Proofs.YtoojpagpkbcfjaaGreat
open Go.RowKit
theorem FrK.bk {w w' : World} {K : Nat → Prop} {g : Nat} {t : TypeId} {cs : Array Value} (h : FrK w w' K) (hb : Bk w g t cs) (hk : ¬K g) : Bk w' g t cs := (h.block g hb.lt hk).trans hb
theorem own_form {w : World} {base : Nat} {t : TypeId} {k n : Nat} {v : Value} {xs : List Value} (h : w.ownsRow base t k v n xs) : ∃ A c, v = .slice A n c ∧ n ≤ c ∧ (A = none → n = 0 ∧ c = 0) := by
  rcases h.2 with ⟨rfl, rfl⟩ | ⟨g, cap, cur, rfl, h2, h3, h4, h5⟩
  · exact ⟨none, 0, rfl, Nat.le_refl _, fun _ => ⟨rfl, rfl⟩⟩
  · exact ⟨_, cap, rfl, h4, fun e => by cases e⟩
theorem Rd.frK {w w' : World} {B : Nat} {A : Option Addr} {xs : List Value} {K : Nat → Prop} (h : Rd w B A xs) (hf : FrK w w' K) (hk : ∀ a, A = some a → ¬K a.block) (hB : B ≤ w.heap.size) : Rd w' B A xs := fun hn => by
  obtain ⟨b, o, rfl, hb, hc⟩ := h hn
  exact ⟨b, o, rfl, hb, fun j u hj => (World.cell?_of_block (a := ⟨b, o + j, none⟩) (hf.block b (by omega) (hk _ rfl))).trans (hc j u hj)⟩
end Go.Proofs.YtoojpagpkbcfjaaGreat


/- What a copy of a span is. -/
namespace Go.Proofs.YtoojpagpkbcfjaaGreat
open Go.RowKit

/-- Copy hands back the same span, its tags in memory of its own. -/
def CopyPost (w : World) (s : Sp) (n : Nat) (A : Option Addr) (e : Ending) (w' : World) : Prop :=
  ∃ A' c', e = .returned (.agg (spC s A' n c')) ∧ RbT w' w'.heap.size A' s.tags ∧ Below w.heap.size w w' ∧ n ≤ c' ∧ (∀ a, A' = some a → w.heap.size ≤ a.block) ∧ (A' = none → A = none ∧ n = 0 ∧ c' = 0)

@[go_sem] theorem nil_eq_tags (W : World) (a : Option Addr) (n c n' c' : Nat) : (binOp .eql 38 (.slice a n c) (.slice none n' c')).run Tryz.prog W = .ok (.bool a.isNone) W :=
  Lib.run_eql_slice_nil W _ _ a n c n' c' Tryz.underlying38
theorem wpList_appTg (w : World) {ops : Array Oper} {rest : List Oper} {o : Oper} {a : Act} {Q : Exit → Act → World → Prop} (hgd : o.guard = none) (s x : Operand)
    (ho : o.op = .call { callee := .builtin .append, args := #[s, x], argTypes := #[38, 38] })
    (base : Nat) (v : Value) (n : Nat) (l : List Tg) (hs : a.eval s = v) (hown : w.ownsRow base 93 2 v n (tgs l))
    (B : Nat) (A : Option Addr) (m c : Nat) (news : List Tg) (hx : a.eval x = .slice A m c) (hl : news.length = m) (hr : RbT w B A news)
    (hbytes : n + m ≤ 4398046511104) (hbase : base ≤ w.heap.size)
    (h : ∀ A' c' w', App base 93 2 w v w' (.slice A' (n + m) c') (n + m) (tgs (l ++ news)) → (A' = none → v = .slice none 0 0 ∧ m = 0) → wpList Tryz.prog ops Q rest (a.put o.dst (.slice A' (n + m) c')) w') :
    wpList Tryz.prog ops Q (o :: rest) a w :=
  wpList_plain hgd fun _ hK => wp_appT w s x ho base v n l hs hown B A m c news hx hl hr hbytes hbase fun A' c' w' h1 h2 => hK _ _ (h A' c' w' h1 h2)

theorem tags_nil {w : World} {B : Nat} {l : List Tg} (h : RbT w B none l) : l = [] := by
  cases l with
  | nil => rfl
  | cons x l =>
    obtain ⟨b, o, e, _⟩ := h (by intro e; have := tgs_length (x :: l); rw [e] at this; simp at this)
    cases e
theorem grown_setCell (W : World) (b o : Nat) (v : Value) : W.grownBy (W.setCell ⟨b, o, none⟩ v) (some b) :=
  ⟨rfl, rfl, rfl, by simp, fun i _ hne => Below.heap_setCell W ⟨b, o, none⟩ v i (fun e => hne (by rw [e]))⟩

end Go.Proofs.YtoojpagpkbcfjaaGreat

