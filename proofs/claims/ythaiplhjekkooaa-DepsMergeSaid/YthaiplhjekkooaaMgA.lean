/- A map of whatever keys and values, as it lies: pairs in the order of their coming; update, lookup, len, range. -/
import Derived.MapKept
import Derived.ChangeMaps4
import Derived.Maps.RangeRun
import Derived.Test.YthaiplhjekkooaaByt0
namespace Go.Proofs.Ythaiplhjekkooaa
open Go.RowKit Go.MapKept Go.ChangeMaps

/-- What runs over keys want of the keys' type. -/
structure KeyRun (P : Program) (kt : TypeId) {κ : Type} (kv : κ → Value) : Prop where
  inj : ∀ {x y : κ}, kv x = kv y → x = y
  check : ∀ (w : World) (em : Bool) (x : κ), (Instr.checkKey em 10000 kt (kv x)).run P w = .ok () w
  find : ∀ (w : World) (x : κ) (es : List MapEntry), (∀ e ∈ es, ∃ y, e.key = kv y) →
    ((Instr.findKey kt (kv x) es).run P w = .ok none w ∧ ∀ e ∈ es, e.key ≠ kv x) ∨ ∃ j e, (Instr.findKey kt (kv x) es).run P w = .ok (some (j, e.val)) w ∧ es[j]? = some e ∧ e.key = kv x
  stays : ∀ (w : World) (x : κ), (Instr.keyThatStays (kv x) (kv x)).run P w = .ok (kv x) w

section
variable {κ ν : Type} {kv : κ → Value} {vv : ν → Value}
def mgE (kv : κ → Value) (vv : ν → Value) (L : List (κ × ν)) : List MapEntry := L.mapIdx fun i p => ⟨kv p.1, vv p.2, i⟩
theorem mgE_length (L : List (κ × ν)) : (mgE kv vv L).length = L.length := by simp [mgE]
theorem mgE_get {L : List (κ × ν)} {i : Nat} {p : κ × ν} (h : L[i]? = some p) : (mgE kv vv L)[i]? = some ⟨kv p.1, vv p.2, i⟩ := by simp [mgE, h]
theorem mgE_getI {L : List (κ × ν)} {i : Nat} {e : MapEntry} (h : (mgE kv vv L)[i]? = some e) : ∃ p, L[i]? = some p ∧ e = ⟨kv p.1, vv p.2, i⟩ := by
  rw [mgE, List.getElem?_mapIdx] at h
  cases hp : L[i]? with
  | none => rw [hp] at h; cases h
  | some p => rw [hp] at h; exact ⟨p, rfl, (Option.some.inj h).symm⟩
theorem mgE_mem {L : List (κ × ν)} {e : MapEntry} (h : e ∈ mgE kv vv L) : ∃ i p, L[i]? = some p ∧ e = ⟨kv p.1, vv p.2, i⟩ := by
  obtain ⟨i, hi, rfl⟩ := List.getElem_of_mem h
  obtain ⟨p, hp, he⟩ := mgE_getI (List.getElem?_eq_getElem hi)
  exact ⟨i, p, hp, he⟩
theorem mgE_keys (L : List (κ × ν)) : ∀ e ∈ mgE kv vv L, ∃ y, e.key = kv y := fun e he => by
  obtain ⟨i, p, -, rfl⟩ := mgE_mem he
  exact ⟨p.1, rfl⟩
theorem mgE_snoc (L : List (κ × ν)) (p : κ × ν) : mgE kv vv (L ++ [p]) = mgE kv vv L ++ [⟨kv p.1, vv p.2, L.length⟩] := by simp [mgE, List.mapIdx_append]
theorem mgE_set (L : List (κ × ν)) (i : Nat) (p : κ × ν) : mgE kv vv (L.set i p) = (mgE kv vv L).set i ⟨kv p.1, vv p.2, i⟩ := by
  apply List.ext_getElem?
  intro j
  simp only [mgE, List.getElem?_mapIdx, List.getElem?_set]
  by_cases hij : i = j
  · subst hij
    simp
  · simp [hij]
theorem mgE_born (L : List (κ × ν)) : (mgE kv vv L).map (·.born) = List.range L.length := by
  apply List.ext_getElem?
  intro j
  simp only [mgE, List.getElem?_map, List.getElem?_mapIdx, List.getElem?_range, Option.map_map]
  by_cases hj : j < L.length
  · simp [hj]
  · simp [hj]
/-- Block b is just this map. -/
def Mg (kv : κ → Value) (vv : ν → Value) (w : World) (b : Nat) (L : List (κ × ν)) : Prop := w.heap[b]? = some (.map (mgE kv vv L).toArray L.length) ∧ (L.map (·.1)).Nodup
variable {w w' : World} {b : Nat} {L : List (κ × ν)}
theorem Mg.lt (h : Mg kv vv w b L) : b < w.heap.size := (Array.getElem?_eq_some_iff.1 h.1).1
theorem Mg.new (w : World) : Mg kv vv (w.alloc (.map #[] 0)) w.heap.size [] := ⟨heap_alloc_new w _, List.nodup_nil⟩
theorem Mg.alloc (h : Mg kv vv w b L) (o : Obj) : Mg kv vv (w.alloc o) b L := ⟨(Below.heap_alloc w o b h.lt).trans h.1, h.2⟩
theorem Mg.drew (h : Mg kv vv w b L) : Mg kv vv w.drew b L := h
theorem Mg.drewN (h : Mg kv vv w b L) (n : Nat) : Mg kv vv (w.drewN n) b L := h
theorem Mg.below {B : Nat} (h : Mg kv vv w b L) (hb : Below B w w') (hg : b < B) : Mg kv vv w' b L := ⟨(hb.block b hg).trans h.1, h.2⟩
theorem Mg.bS (h : Mg kv vv w b L) (hb : Below w.heap.size w w') : Mg kv vv w' b L := h.below hb h.lt
theorem Mg.grown {k : Option Nat} (h : Mg kv vv w b L) (hg : w.grownBy w' k) (hne : some b ≠ k) : Mg kv vv w' b L := ⟨(hg.block b h.lt hne).trans h.1, h.2⟩

theorem mg_find {P : Program} {kt : TypeId} (K : KeyRun P kt kv) (hL : (L.map (·.1)).Nodup) (w : World) (k : κ) :
    (k ∉ L.map (·.1) ∧ (Instr.findKey kt (kv k) (mgE kv vv L)).run P w = .ok none w) ∨ ∃ i v, L[i]? = some (k, v) ∧ (Instr.findKey kt (kv k) (mgE kv vv L)).run P w = .ok (some (i, vv v)) w := by
  rcases K.find w k (mgE kv vv L) (mgE_keys L) with ⟨h1, h2⟩ | ⟨j, e, h1, h2, h3⟩
  · refine .inl ⟨fun hk => ?_, h1⟩
    obtain ⟨p, hp, rfl⟩ := List.mem_map.1 hk
    obtain ⟨i, hi, rfl⟩ := List.getElem_of_mem hp
    exact h2 _ (List.mem_of_getElem? (mgE_get (List.getElem?_eq_getElem hi))) rfl
  · obtain ⟨p, hp, rfl⟩ := mgE_getI h2
    have hk := K.inj (show kv p.1 = kv k from h3)
    subst hk
    exact .inr ⟨j, p.2, hp, h1⟩
theorem run_mgLen {P : Program} {w : World} {t kt e : TypeId} (ht : P.underlying t = some (.map kt e)) (hb : Mg kv vv w b L) (ty : TypeId) :
    (Builtin.len_ #[t] ty #[.map (some b)]).run P w = .ok (.int .i64 L.length) w := by
  simp [Builtin.len_, run_underlying ht, MapKept.run_getObj_map hb.1, goInt, Result.andThen, mgE_length]
/-! ### range over a map that stands -/
/-- An iterator in block r over the map in block b: which places it has handed out. -/
structure Rg (kv : κ → Value) (vv : ν → Value) (w : World) (b r : Nat) (L : List (κ × ν)) (seen : Array Nat) : Prop where
  map : Mg kv vv w b L
  it : w.heap[r]? = some (.mapIter (some b) L.length seen L.length)
  nd : seen.toList.Nodup
  lt : ∀ i ∈ seen.toList, i < L.length
/-- What has been handed out. -/
def rgOut (L : List (κ × ν)) (seen : Array Nat) : List (κ × ν) := seen.toList.filterMap fun i => L[i]?
theorem Rg.ne {r : Nat} {seen : Array Nat} (h : Rg kv vv w b r L seen) : r ≠ b := fun e => by
  have h1 := h.it
  rw [e, h.map.1] at h1
  cases h1
theorem Rg.ltr {r : Nat} {seen : Array Nat} (h : Rg kv vv w b r L seen) : r < w.heap.size := (Array.getElem?_eq_some_iff.1 h.it).1
theorem Rg.below {B r : Nat} {seen : Array Nat} (h : Rg kv vv w b r L seen) (hb : Below B w w') (hg : b < B) (hr : r < B) : Rg kv vv w' b r L seen := ⟨h.map.below hb hg, (hb.block r hr).trans h.it, h.nd, h.lt⟩
theorem Rg.bS {r : Nat} {seen : Array Nat} (h : Rg kv vv w b r L seen) (hb : Below w.heap.size w w') : Rg kv vv w' b r L seen := h.below hb h.map.lt h.ltr
theorem Rg.grown {k : Option Nat} {r : Nat} {seen : Array Nat} (h : Rg kv vv w b r L seen) (hg : w.grownBy w' k) (hne : some b ≠ k) (hnr : some r ≠ k) : Rg kv vv w' b r L seen := ⟨h.map.grown hg hne, (hg.block r h.ltr hnr).trans h.it, h.nd, h.lt⟩
theorem Rg.start (h : Mg kv vv w b L) : Rg kv vv (w.alloc (.mapIter (some b) L.length #[] L.length)) b w.heap.size L #[] := ⟨h.alloc _, heap_alloc_new w _, List.nodup_nil, fun i hi => by cases hi⟩
theorem run_mgRange {P : Program} {w : World} {t kt e : TypeId} (ht : P.underlying t = some (.map kt e)) (hb : Mg kv vv w b L) :
    (Instr.range t (.map (some b))).run P w = .ok (.pointer (some ⟨w.heap.size, 0, none⟩)) (w.alloc (.mapIter (some b) L.length #[] L.length)) :=
  run_range_map w t kt e b _ _ ht hb.1
theorem nodup_len_le : ∀ (n : Nat) {s : List Nat}, s.Nodup → (∀ i ∈ s, i < n) → s.length ≤ n
  | 0, [], _, _ => Nat.le_refl _
  | 0, x :: l, _, h => absurd (h x (List.mem_cons_self ..)) (Nat.not_lt_zero _)
  | n + 1, s, hn, h => by
    have h1 := nodup_len_le n (s := s.erase n) (hn.erase n) (fun i hi => by
      have h2 := (hn.mem_erase_iff).1 hi
      have h3 := h i h2.2
      have h4 := h2.1
      omega)
    have h5 : s.length ≤ (s.erase n).length + 1 := by
      rw [List.length_erase]
      split <;> omega
    omega
theorem Rg.size_le {r : Nat} {seen : Array Nat} (h : Rg kv vv w b r L seen) : seen.size ≤ L.length := by
  have := nodup_len_le _ h.nd h.lt
  simpa using this
/-- All is handed out. -/
theorem Rg.all {r : Nat} {seen : Array Nat} (h : Rg kv vv w b r L seen) (hall : (leftOf (mgE kv vv L).toArray seen).size = 0) : (rgOut L seen).Perm L := by
  have hs := all_seen _ seen hall
  have hp : seen.toList.Perm (List.range L.length) := by
    rw [List.perm_ext_iff_of_nodup h.nd List.nodup_range]
    intro i
    refine ⟨fun hi => List.mem_range.2 (h.lt i hi), fun hi => ?_⟩
    have hi' := List.mem_range.1 hi
    have := hs _ (List.mem_of_getElem? (mgE_get (kv := kv) (vv := vv) (List.getElem?_eq_getElem hi')))
    simpa using this
  have h2 := hp.filterMap fun i => L[i]?
  refine h2.trans ?_
  have : (List.range L.length).filterMap (fun i => L[i]?) = L := by
    clear h2 hp hs hall h
    induction L with
    | nil => rfl
    | cons x l ih =>
      rw [List.length_cons, List.range_succ_eq_map, List.filterMap_cons]
      simp only [List.getElem?_cons_zero, List.filterMap_map]
      rw [← ih]
      congr 1
      conv => rhs; rw [← ih]
      rfl
  rw [this]
/-- The step. -/
theorem Rg.next {P : Program} {r : Nat} {seen : Array Nat} (h : Rg kv vv w b r L seen) (ty : TypeId) :
    ((rgOut L seen).Perm L ∧ (Instr.next (.pointer (some ⟨r, 0, none⟩)) false ty).run P w = .ok (.tuple #[.bool false]) w) ∨
    ∃ k v seen' w', (k, v) ∈ L ∧ (Instr.next (.pointer (some ⟨r, 0, none⟩)) false ty).run P w = .ok (.tuple #[.bool true, kv k, vv v]) w' ∧ Rg kv vv w' b r L seen' ∧ rgOut L seen' = rgOut L seen ++ [(k, v)] ∧ seen'.size = seen.size + 1 ∧ seen'.size ≤ L.length ∧ w.grownBy w' (some r) ∧ w'.heap.size = w.heap.size ∧
      ∀ W, Rg kv vv W b r L seen' → (Instr.entry (.pointer (some ⟨r, 0, none⟩))).run P W = .ok (.tuple #[kv k, vv v]) W := by
  have hborn : ((mgE kv vv L).toArray.toList.map (·.born)) = List.range L.length := by simpa using mgE_born (kv := kv) (vv := vv) L
  have hold : ∀ x ∈ (mgE kv vv L).toArray.toList, x.born < L.length := fun x hx => by
    have : x.born ∈ List.range L.length := by rw [← hborn]; exact List.mem_map.2 ⟨x, hx, rfl⟩
    exact List.mem_range.1 this
  rcases run_next_at (P := P) w ty r b L.length L.length seen _ _ h.it h.map.1 hold (Nat.le_refl _) with ⟨h0, hrun⟩ | ⟨e, he, w1, hal, hrun⟩
  · exact .inl ⟨h.all h0, hrun⟩
  · obtain ⟨hem, hes⟩ := mem_left he
    obtain ⟨i, p, hp, rfl⟩ := mgE_mem (show e ∈ mgE kv vv L from hem)
    have hr1 : w1.heap[r]? = some (.mapIter (some b) L.length seen L.length) := by rcases hal with rfl | rfl <;> exact h.it
    have hb1 : w1.heap[b]? = some (.map (mgE kv vv L).toArray L.length) := by rcases hal with rfl | rfl <;> exact h.map.1
    have hset := heap_set (o' := .mapIter (some b) L.length (seen.push i) L.length) hr1
    have hnot : i ∉ seen.toList := by
      have : seen.contains i = false := hes
      simpa using this
    have hR : Rg kv vv (setBlock w1 r (.mapIter (some b) L.length (seen.push i) L.length)) b r L (seen.push i) := by
      refine ⟨⟨(hset.2 b (fun e1 => h.ne e1.symm)).trans hb1, h.map.2⟩, hset.1, ?_, ?_⟩
      · rw [Array.toList_push, List.nodup_append]
        exact ⟨h.nd, by simp, fun a ha c hc e => by simp at hc; subst hc; exact hnot (e ▸ ha)⟩
      · intro j hj
        rw [Array.toList_push, List.mem_append] at hj
        rcases hj with hj | hj
        · exact h.lt j hj
        · simp at hj
          subst hj
          exact (List.getElem?_eq_some_iff.1 hp).1
    refine .inr ⟨p.1, p.2, seen.push i, _, List.mem_of_getElem? hp, hrun, hR, ?_, by simp, by have := hR.size_le; exact this, ?_, ?_, fun W hW => ?_⟩
    · simp [rgOut, hp]
    · rcases hal with rfl | rfl <;> exact ⟨rfl, rfl, rfl, by simp [setBlock], fun i _ hi => hset.2 i (fun e1 => hi (by rw [e1]))⟩
    · rcases hal with rfl | rfl <;> simp [setBlock]
    · exact run_entry_at W r b L.length seen (mgE kv vv L).toArray L.length ⟨kv p.1, vv p.2, i⟩ hW.it hW.map.1 hem (by rw [hborn]; exact List.nodup_range)
section
variable [DecidableEq κ]
/-- An update. -/
def mgPut (k : κ) (v : ν) : List (κ × ν) → List (κ × ν)
  | [] => [(k, v)]
  | p :: l => if p.1 = k then (k, v) :: l else p :: mgPut k v l
def mgGet (k : κ) (L : List (κ × ν)) : Option ν := (L.find? fun p => decide (p.1 = k)).map (·.2)
theorem mgPut_new {k : κ} {v : ν} : ∀ {L : List (κ × ν)}, k ∉ L.map (·.1) → mgPut k v L = L ++ [(k, v)]
  | [], _ => rfl
  | p :: l, h => by
    rw [mgPut, if_neg (fun e => h (by simp [e])), mgPut_new (fun hm => h (List.mem_cons_of_mem _ hm))]
    rfl
theorem mgPut_old {k : κ} {v : ν} : ∀ {L : List (κ × ν)} {i : Nat} {u : ν}, (L.map (·.1)).Nodup → L[i]? = some (k, u) → mgPut k v L = L.set i (k, v)
  | [], i, _, _, h => by simp at h
  | p :: l, 0, u, _, h => by
    simp at h
    subst h
    simp [mgPut]
  | p :: l, i + 1, u, hn, h => by
    obtain ⟨h1, h2⟩ := List.nodup_cons.1 hn
    simp at h
    rw [mgPut, if_neg (fun e => h1 (List.mem_map.2 ⟨_, List.mem_of_getElem? h, e.symm⟩)), mgPut_old h2 h]
    rfl
theorem mgPut_keys {k : κ} {v : ν} : ∀ (L : List (κ × ν)), (mgPut k v L).map (·.1) = if k ∈ L.map (·.1) then L.map (·.1) else L.map (·.1) ++ [k]
  | [] => by simp [mgPut]
  | p :: l => by
    rw [mgPut]
    by_cases h : p.1 = k
    · rw [if_pos h, if_pos (by simp [h])]
      simp [h]
    · rw [if_neg h]
      simp only [List.map_cons]
      rw [mgPut_keys l]
      by_cases h2 : k ∈ l.map (·.1)
      · rw [if_pos h2, if_pos (List.mem_cons_of_mem _ h2)]
      · rw [if_neg h2, if_neg (fun hm => by rcases List.mem_cons.1 hm with e | e; exact h e.symm; exact h2 e)]
        rfl
theorem mgPut_nodup {k : κ} {v : ν} {L : List (κ × ν)} (h : (L.map (·.1)).Nodup) : ((mgPut k v L).map (·.1)).Nodup := by
  rw [mgPut_keys]
  split
  · exact h
  · rename_i hk
    rw [List.nodup_append]
    exact ⟨h, by simp, fun a ha b hb e => by simp at hb; subst hb; exact hk (e ▸ ha)⟩
theorem mgPut_len_le {k : κ} {v : ν} (L : List (κ × ν)) : (mgPut k v L).length ≤ L.length + 1 := by
  have h := congrArg List.length (mgPut_keys (k := k) (v := v) L)
  split at h <;> simp at h <;> omega
theorem mgGet_none {k : κ} {L : List (κ × ν)} (h : k ∉ L.map (·.1)) : mgGet k L = none := by
  have : L.find? (fun p => decide (p.1 = k)) = none := by
    rw [List.find?_eq_none]
    intro p hp e
    exact h (List.mem_map.2 ⟨p, hp, of_decide_eq_true e⟩)
  rw [mgGet, this]
  rfl
theorem mgGet_some {k : κ} {v : ν} : ∀ {L : List (κ × ν)}, (L.map (·.1)).Nodup → (k, v) ∈ L → mgGet k L = some v
  | [], _, h => by cases h
  | p :: l, hn, h => by
    obtain ⟨h1, h2⟩ := List.nodup_cons.1 hn
    rcases List.mem_cons.1 h with e | h
    · subst e
      simp [mgGet]
    · have hne : p.1 ≠ k := fun e => h1 (List.mem_map.2 ⟨_, h, e.symm⟩)
      have := mgGet_some h2 h
      rw [mgGet] at this ⊢
      rw [List.find?_cons, decide_eq_false hne]
      exact this
theorem mgGet_mem {k : κ} {v : ν} {L : List (κ × ν)} (h : mgGet k L = some v) : (k, v) ∈ L := by
  rw [mgGet, Option.map_eq_some_iff] at h
  obtain ⟨p, hp, rfl⟩ := h
  have h1 := List.find?_some hp
  have h2 := List.mem_of_find?_eq_some hp
  have : p.1 = k := of_decide_eq_true h1
  rw [← this]
  exact h2

theorem run_mgLook {P : Program} {w : World} {t kt e : TypeId} (K : KeyRun P kt kv) (ht : P.underlying t = some (.map kt e)) {z : Value} (hz : (zeroValue e).run P w = .ok z w) (hb : Mg kv vv w b L) (k : κ) (c : Bool) :
    (Instr.lookup t (.map (some b)) (kv k) c).run P w = .ok (if c then .tuple #[((mgGet k L).map vv).getD z, .bool (mgGet k L).isSome] else ((mgGet k L).map vv).getD z) w := by
  rcases mg_find (vv := vv) K hb.2 w k with ⟨hk, hf⟩ | ⟨i, v, hi, hf⟩
  · rw [mgGet_none hk]
    simp [Instr.lookup, run_underlying ht, MapKept.run_getObj_map hb.1, K.check, hf, hz, Result.andThen]
  · rw [mgGet_some hb.2 (List.mem_of_getElem? hi)]
    simp [Instr.lookup, run_underlying ht, MapKept.run_getObj_map hb.1, K.check, hf, Result.andThen]
theorem run_mgPut {P : Program} {w : World} {t kt e : TypeId} (K : KeyRun P kt kv) (ht : P.underlying t = some (.map kt e)) (hb : Mg kv vv w b L) (k : κ) (v : ν) :
    (Instr.mapUpdate t (.map (some b)) (kv k) (vv v)).run P w = .ok () { w with heap := w.heap.setIfInBounds b (.map (mgE kv vv (mgPut k v L)).toArray (mgPut k v L).length) } := by
  rcases mg_find (vv := vv) K hb.2 w k with ⟨hk, hf⟩ | ⟨i, u, hi, hf⟩
  · rw [mgPut_new hk]
    simp [Instr.mapUpdate, run_underlying ht, MapKept.run_getObj_map hb.1, K.check, hf, MapKept.run_setObj_map _ hb.1, Result.andThen, mgE_snoc]
  · rw [mgPut_old hb.2 hi]
    have hi' := mgE_get (kv := kv) (vv := vv) hi
    have hm : ((mgE kv vv L).modify i fun e => { key := kv k, val := vv v, born := e.born }) = mgE kv vv (L.set i (k, v)) := by
      rw [mgE_set]
      apply List.ext_getElem?
      intro j
      rw [List.getElem?_modify, List.getElem?_set]
      by_cases hij : i = j
      · subst hij
        have hl := (List.getElem?_eq_some_iff.1 hi').1
        rw [hi']
        simp [hl]
      · simp [hij]
    simp [Instr.mapUpdate, run_underlying ht, MapKept.run_getObj_map hb.1, K.check, hf, hi', K.stays, MapKept.run_setObj_map _ hb.1, Result.andThen, hm]
theorem wpList_mgPut {P : Program} (w : World) {ops : Array Oper} {rest : List Oper} {o : Oper} {a : Act} {Q : Exit → Act → World → Prop}
    (hg : o.guard = none) (m x y : Operand) (t : TypeId) (hop : o.op = Op.mapUpdate t m x y) {kt e : TypeId} (K : KeyRun P kt kv) (ht : P.underlying t = some (.map kt e))
    (b : Nat) (L : List (κ × ν)) (hm : a.eval m = .map (some b)) (hb : Mg kv vv w b L) (k : κ) (v : ν) (hx : a.eval x = kv k) (hv : a.eval y = vv v)
    (hK : ∀ w', Mg kv vv w' b (mgPut k v L) → w.grownBy w' (some b) → w'.heap.size = w.heap.size → wpList P ops Q rest (a.put o.dst undef) w') :
    wpList P ops Q (o :: rest) a w := by
  refine wpList_plain hg fun K' hK' => ?_
  have hrun := run_mgPut K ht hb k v
  unfold Oper.wp
  simp [execOp, hop, hm, hx, hv, hrun, Result.andThen]
  refine hK' _ _ (hK _ ⟨?_, mgPut_nodup hb.2⟩ ⟨rfl, rfl, rfl, by simp, fun i _ hne => ?_⟩ (by simp))
  · have := hb.lt
    show (w.heap.setIfInBounds b _)[b]? = _
    simp [this]
  · show (w.heap.setIfInBounds b _)[i]? = _
    rw [Array.getElem?_setIfInBounds, if_neg (fun e => hne (by rw [e]))]

end
end
/-- Keys that are numbers of a kind. -/
theorem intRun {P : Program} {kt : TypeId} {q : IntKind} (hk : P.underlying kt = some (.int q)) : KeyRun P kt (fun n : Nat => Value.int q n) where
  inj h := by injection h with _ h; omega
  check w em x := MapKept.run_checkKey hk (by simp [IsKey]) em 9999
  find w x es hes := by
    rcases findNow_spec (d := .int q) (k := .int q x) (by simp [IsKey]) es 0 (fun e he => by obtain ⟨y, hy⟩ := hes e he; rw [hy]; simp [IsKey]) with ⟨h1, h2⟩ | ⟨j, e, h1, h2, h3⟩
    · exact .inl ⟨MapKept.run_findKey hk h1, h2⟩
    · exact .inr ⟨j, e, by rw [MapKept.run_findKey hk h1, Nat.zero_add], h2, h3⟩
  stays w x := MapKept.run_keyThatStays (d := .int q) (by simp [IsKey])
end Go.Proofs.Ythaiplhjekkooaa
