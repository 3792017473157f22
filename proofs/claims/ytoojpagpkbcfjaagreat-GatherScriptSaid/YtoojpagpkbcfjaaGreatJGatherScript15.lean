/- Texts of the proof of GatherScriptSaid, joined: GaM GaN GaO GaP GaQ GaR GaS GaT. -/
import Derived.Test.YtoojpagpkbcfjaaGreatJGatherScript14
import Derived.Shelf.SlMaps.Clone
import Derived.Deep.QuietTactic
import Derived.ArgAppend
import Derived.Test.YtoojpagpkbcfjaaGreatJGatherScript9
import Derived.BigQuiet
import Derived.Test.YtoojpagpkbcfjaaGreatJGatherScript5
/- Layer 20: a gatherer that is not there, or that nobody made. -/
namespace Go.Proofs.YtoojpagpkbcfjaaGreat
open Go.RowKit
/-- Nil, or made by nobody. -/
def Nog (w : World) (v : Value) : Prop := v = .pointer none ∨ ∃ F, v = ptV F ∧ w.cell? ⟨F, 3, none⟩ = some (.map none)
theorem Nog.below {w w' : World} {v : Value} (h : Nog w v) (hb : Below w.heap.size w w') : Nog w' v := by
  rcases h with h | ⟨F, h, hc⟩
  · exact .inl h
  · exact .inr ⟨F, h, (hb.cell (World.block_lt_of_cell? w _ hc)).trans hc⟩
set_option maxRecDepth 100000 in
theorem gnNone (w : World) (v : Value) (h : Nog w v) : Calls Tryz.prog 34 #[v] w fun e w' => e = .returned (.bool true) ∧ w = w' := by
  have hq := fun w => run_eql_map_nil_sl (P := Tryz.prog) w 63 _ _ none Tryz.underlying63
  rcases h with rfl | ⟨F, rfl, hc⟩
  · go_enter Tryz.func34, Tryz.ntmps34
    go_wp2_with fail
    go_ret
    exact ⟨rfl, rfl⟩
  · go_enter Tryz.func34, Tryz.ntmps34
    go_wp2_with fail
    go_ret
    exact ⟨rfl, rfl⟩
set_option maxRecDepth 100000 in
theorem gnAdd (w : World) (v : Value) (h : Nog w v) (s : Sp) (A : Option Addr) (n c : Nat) : Calls Tryz.prog 16 #[v, spV s A n c] w fun e w' => e = .returned (.tuple #[.int .i64 0, .int .i64 1]) ∧ Below w.heap.size w w' := by
  have CN : Hid (∀ W, Below w.heap.size w W → Calls Tryz.prog 34 #[v] W fun e w' => e = .returned (.bool true) ∧ W = w') := Lib.hid fun W hW => gnNone W v (h.below hW)
  clear h
  go_enter Tryz.func16, Tryz.ntmps16
  go_wp2_with fail
  refine (CN.out _ (by first | exact Below.refl _ _ | exact (Below.refl _ w).alloc (Nat.le_refl _) _)).mono ?_
  rintro e w2 ⟨rfl, rfl⟩
  go_wp2_with fail
  go_ret2
  exact ⟨rfl, by first | exact Below.refl _ _ | exact (Below.refl _ w).alloc (Nat.le_refl _) _⟩
set_option maxRecDepth 100000 in
theorem gnTick (w : World) (v : Value) (h : Nog w v) (n : Int) : Calls Tryz.prog 11 #[v, .int .i64 n] w fun e w' => e = .returned (.int .i64 1) ∧ Below w.heap.size w w' := by
  have CN : Hid (∀ W, Below w.heap.size w W → Calls Tryz.prog 34 #[v] W fun e w' => e = .returned (.bool true) ∧ W = w') := Lib.hid fun W hW => gnNone W v (h.below hW)
  clear h
  go_enter Tryz.func11, Tryz.ntmps11
  go_wp2_with fail
  refine (CN.out _ (by first | exact Below.refl _ _ | exact (Below.refl _ w).alloc (Nat.le_refl _) _)).mono ?_
  rintro e w2 ⟨rfl, rfl⟩
  go_wp2_with fail
  go_ret
  exact ⟨rfl, by first | exact Below.refl _ _ | exact (Below.refl _ w).alloc (Nat.le_refl _) _⟩
set_option maxRecDepth 100000 in
theorem gnNext (w : World) (v : Value) (h : Nog w v)  : Calls Tryz.prog 13 #[v] w fun e w' => e = .returned (.tuple #[.agg #[.int .u64 0, .int .u64 0, .slice none 0 0], .int .i64 1]) ∧ Below w.heap.size w w' := by
  have CN : Hid (∀ W, Below w.heap.size w W → Calls Tryz.prog 34 #[v] W fun e w' => e = .returned (.bool true) ∧ W = w') := Lib.hid fun W hW => gnNone W v (h.below hW)
  clear h
  go_enter Tryz.func13, Tryz.ntmps13
  go_wp2_with fail
  refine (CN.out _ (by first | exact Below.refl _ _ | exact (Below.refl _ w).alloc (Nat.le_refl _) _)).mono ?_
  rintro e w2 ⟨rfl, rfl⟩
  go_wp2_with fail
  refine bodyPost_ret (resCellTmp rfl _ _ w.heap.size 47 #[.int .u64 0, .int .u64 0, .slice none 0 0] _ rfl (Bk.new w _ _) Tryz.underlying47 rfl (by rfl)) rfl ?_
  exact ⟨rfl, (Below.refl _ w).alloc (Nat.le_refl _) _⟩
set_option maxRecDepth 100000 in
theorem gnClosed (w : World) (v : Value) (h : Nog w v)  : Calls Tryz.prog 19 #[v] w fun e w' => e = .returned (.slice none 0 0) ∧ Below w.heap.size w w' := by
  have CN : Hid (∀ W, Below w.heap.size w W → Calls Tryz.prog 34 #[v] W fun e w' => e = .returned (.bool true) ∧ W = w') := Lib.hid fun W hW => gnNone W v (h.below hW)
  clear h
  go_enter Tryz.func19, Tryz.ntmps19
  go_wp2_with fail
  refine (CN.out _ (by first | exact Below.refl _ _ | exact (Below.refl _ w).alloc (Nat.le_refl _) _)).mono ?_
  rintro e w2 ⟨rfl, rfl⟩
  go_wp2_with fail
  go_ret
  exact ⟨rfl, by first | exact Below.refl _ _ | exact (Below.refl _ w).alloc (Nat.le_refl _) _⟩
set_option maxRecDepth 100000 in
theorem gnOpen (w : World) (v : Value) (h : Nog w v)  : Calls Tryz.prog 21 #[v] w fun e w' => e = .returned (.slice none 0 0) ∧ Below w.heap.size w w' := by
  have CN : Hid (∀ W, Below w.heap.size w W → Calls Tryz.prog 34 #[v] W fun e w' => e = .returned (.bool true) ∧ W = w') := Lib.hid fun W hW => gnNone W v (h.below hW)
  clear h
  go_enter Tryz.func21, Tryz.ntmps21
  go_wp2_with fail
  refine (CN.out _ (by first | exact Below.refl _ _ | exact (Below.refl _ w).alloc (Nat.le_refl _) _)).mono ?_
  rintro e w2 ⟨rfl, rfl⟩
  go_wp2_with fail
  go_ret
  exact ⟨rfl, by first | exact Below.refl _ _ | exact (Below.refl _ w).alloc (Nat.le_refl _) _⟩
set_option maxRecDepth 100000 in
theorem gnLate (w : World) (v : Value) (h : Nog w v)  : Calls Tryz.prog 25 #[v] w fun e w' => e = .returned (.int .i64 0) ∧ Below w.heap.size w w' := by
  have CN : Hid (∀ W, Below w.heap.size w W → Calls Tryz.prog 34 #[v] W fun e w' => e = .returned (.bool true) ∧ W = w') := Lib.hid fun W hW => gnNone W v (h.below hW)
  clear h
  go_enter Tryz.func25, Tryz.ntmps25
  go_wp2_with fail
  refine (CN.out _ (by first | exact Below.refl _ _ | exact (Below.refl _ w).alloc (Nat.le_refl _) _)).mono ?_
  rintro e w2 ⟨rfl, rfl⟩
  go_wp2_with fail
  go_ret
  exact ⟨rfl, by first | exact Below.refl _ _ | exact (Below.refl _ w).alloc (Nat.le_refl _) _⟩
set_option maxRecDepth 100000 in
theorem gnNow (w : World) (v : Value) (h : Nog w v)  : Calls Tryz.prog 27 #[v] w fun e w' => e = .returned (.int .i64 0) ∧ Below w.heap.size w w' := by
  have CN : Hid (∀ W, Below w.heap.size w W → Calls Tryz.prog 34 #[v] W fun e w' => e = .returned (.bool true) ∧ W = w') := Lib.hid fun W hW => gnNone W v (h.below hW)
  clear h
  go_enter Tryz.func27, Tryz.ntmps27
  go_wp2_with fail
  refine (CN.out _ (by first | exact Below.refl _ _ | exact (Below.refl _ w).alloc (Nat.le_refl _) _)).mono ?_
  rintro e w2 ⟨rfl, rfl⟩
  go_wp2_with fail
  go_ret
  exact ⟨rfl, by first | exact Below.refl _ _ | exact (Below.refl _ w).alloc (Nat.le_refl _) _⟩
set_option maxRecDepth 100000 in
theorem gnDue (w : World) (v : Value) (h : Nog w v)  : Calls Tryz.prog 29 #[v] w fun e w' => e = .returned (.int .i64 0) ∧ Below w.heap.size w w' := by
  have CN : Hid (∀ W, Below w.heap.size w W → Calls Tryz.prog 34 #[v] W fun e w' => e = .returned (.bool true) ∧ W = w') := Lib.hid fun W hW => gnNone W v (h.below hW)
  clear h
  go_enter Tryz.func29, Tryz.ntmps29
  go_wp2_with fail
  refine (CN.out _ (by first | exact Below.refl _ _ | exact (Below.refl _ w).alloc (Nat.le_refl _) _)).mono ?_
  rintro e w2 ⟨rfl, rfl⟩
  go_wp2_with fail
  go_ret
  exact ⟨rfl, by first | exact Below.refl _ _ | exact (Below.refl _ w).alloc (Nat.le_refl _) _⟩
set_option maxRecDepth 100000 in
theorem gnEver (w : World) (v : Value) (h : Nog w v) (t : Tr) : Calls Tryz.prog 23 #[v, trV t] w fun e w' => e = .returned (.bool false) ∧ Below w.heap.size w w' := by
  have CN : Hid (∀ W, Below w.heap.size w W → Calls Tryz.prog 34 #[v] W fun e w' => e = .returned (.bool true) ∧ W = w') := Lib.hid fun W hW => gnNone W v (h.below hW)
  clear h
  go_enter Tryz.func23, Tryz.ntmps23
  go_wp2_with fail
  have CQ : Hid (∀ W, Below w.heap.size w W → Calls Tryz.prog 34 #[v] W fun e w' => e = .returned (.bool true) ∧ w' = W) := Lib.hid fun W hW => (CN.out W hW).mono fun e w' he => ⟨he.1, he.2.symm⟩
  go_quiet ((go_at_call 34; exact Calls.quiet_of_same (CQ.out _ (by first | exact below_drewN ((Below.refl _ w).alloc (Nat.le_refl _) _) _ | exact ((Below.refl _ w).alloc (Nat.le_refl _) _).drew))))
  all_goals go_wp2_with fail
  all_goals go_ret
  all_goals exact ⟨rfl, below_drewN ((Below.refl _ w).alloc (Nat.le_refl _) _) _⟩
end Go.Proofs.YtoojpagpkbcfjaaGreat


/- Layer 20: the gatherer's turns change; a lookup among the open traces. -/
namespace Go.Proofs.YtoojpagpkbcfjaaGreat
open Go.RowKit
section
variable {base F : Nat} {w w' : World} {K K' Z : Nat → Prop} {G : GSt} {m : GMem}
/-- Another row of what is due. -/
theorem Gf.turns (h : Gf base w K Z F G m) {tv' : Value} {dl' : List Due} (hf : FrK w w' fun b => b = F ∨ m.tv.ownBlock = some b) (hB : Bk w' F 69 ((gaC G m).setIfInBounds 4 tv')) (hD : DuR w' base tv' dl') (hh : Heap dLt dl' dl'.length) (hin : ∀ x ∈ G.op, x.due ∈ dl')
    (hk : ∀ b, K b → K' b) (hko : ∀ g, tv'.ownBlock = some g → K' g) (hkz : ∀ b, K' b → ¬Z b) (hlo : ∀ b, K' b → base ≤ b ∧ b < w'.heap.size) : Gf base w' K' Z F G { m with tv := tv', dl := dl', ex := none } := by
  have hbk : ∀ {b : Nat} {t : TypeId} {cs : Array Value}, Bk w b t cs → t ≠ 69 → t ≠ 74 → w'.heap[b]? = w.heap[b]? := fun {b t cs} hb h1 h2 => hf.block b hb.lt (by
    rintro (e | e)
    · exact ne_of_type hb h.blk h1 e
    · obtain ⟨cur, hc⟩ := own_bk h.tur e
      exact ne_of_type hb hc h2 rfl)
  have hmp : ∀ {κ ν : Type} {kv : κ → Value} {vv : ν → Value} {b : Nat} {L : List (κ × ν)}, Mh kv vv w b L → Mh kv vv w' b L := fun {κ ν kv vv b L} hM => by
    obtain ⟨es, c, he⟩ := hM.obj
    refine hM.of (hf.block b hM.lt ?_)
    rintro (e | e)
    · rw [e, show w.heap[F]? = _ from h.blk] at he
      cases he
    · obtain ⟨cur, hc⟩ := own_bk h.tur e
      rw [show w.heap[b]? = _ from hc] at he
      cases he
  have hz : ∀ b, Z b → w'.heap[b]? = w.heap[b]? := fun b hb => hf.block b (h.loZ b hb) (by
    rintro (e | e)
    · exact h.kz F h.kF (e ▸ hb)
    · exact h.kz b (h.kT b e) hb)
  exact { blk := by
            have e : gaC G { m with tv := tv', dl := dl', ex := none } = (gaC G m).setIfInBounds 4 tv' := by simp [gaC]
            rw [e]
            exact hB
          opn := hmp h.opn
          opnP := h.opnP
          xfl := fun x hx => (hbk (h.xfl x hx) (by decide) (by decide)).trans (h.xfl x hx)
          xro := fun x hx => own_of (h.xro x hx) fun g e => by
            obtain ⟨cur, hcur⟩ := own_bk (h.xro x hx) e
            exact hbk hcur (by decide) (by decide)
          xsp := h.xsp
          xel := fun x hx e he => (h.xel x hx e he).keep hz hf.size fun _ e => e
          xinj := h.xinj
          rinj := h.rinj
          evr := hmp h.evr
          evrM := h.evrM
          tur := hD
          hp := hh
          hin := fun x hx _ => hin x hx
          cls := h.cls.keep fun g e => by
            rcases h.cls with ⟨h4, -⟩ | ⟨g', off, cap, cur, h4, -, h5, -⟩
            · rw [h4] at e
              cases e
            · rw [h4] at e
              have e : g' = g := Option.some.inj e
              exact hbk (e ▸ h5) (by decide) (by decide)
          clsE := h.clsE
          clz := fun e he => (h.clz e he).keep hz hf.size fun _ e => e
          neE := h.neE
          kF := hk _ h.kF
          kO := hk _ h.kO
          kE := hk _ h.kE
          kT := hko
          kC := fun g e => hk _ (h.kC g e)
          kX := fun x hx => hk _ (h.kX x hx)
          kR := fun x hx g e => hk _ (h.kR x hx g e)
          kz := hkz
          lo := hlo
          loZ := fun b e => Nat.lt_of_lt_of_le (h.loZ b e) hf.size }
theorem Gf.nodup (h : Gf base w K Z F G m) : (G.op.map (·.t)).Nodup := by
  have h1 := h.opn.nodup
  rw [List.map_map] at h1
  have e : ((fun x : Tr × Nat => x.1) ∘ fun t => (t, m.xb t)) = id := rfl
  rw [e, List.map_id] at h1
  exact h.opnP.nodup_iff.1 h1
/-- A lookup among the open traces. -/
theorem Gf.look (h : Gf base w K Z F G m) (t : Tr) : (Instr.lookup 63 (.map (some m.ob)) (trV t) false).run Tryz.prog w = .ok (match G.get t with | some _ => ptV (m.xb t) | none => .pointer none) w := by
  have h1 := run_mhLook (z := .pointer none) (e := 83) trRun Tryz.underlying63 (by simp [Tryz.zeroValue83]) h.opn t false
  unfold GSt.get
  cases hg : G.op.find? fun x => decide (x.t = t) with
  | none =>
    have hn : mgGet t (m.Y.map fun t => (t, m.xb t)) = none := by
      cases hq : mgGet t (m.Y.map fun t => (t, m.xb t)) with
      | none => rfl
      | some v =>
        obtain ⟨t', ht', e⟩ := List.mem_map.1 (mgGet_mem hq)
        cases e
        obtain ⟨x, hx, e2⟩ := List.mem_map.1 (h.opnP.mem_iff.1 ht')
        have := List.find?_eq_none.1 hg x hx
        simp [e2] at this
    rw [hn] at h1
    exact h1
  | some x =>
    have hx := List.mem_of_find?_eq_some hg
    have hxt : x.t = t := by simpa using List.find?_some hg
    have hm : (t, m.xb t) ∈ m.Y.map fun t => (t, m.xb t) := List.mem_map.2 ⟨t, h.opnP.mem_iff.2 (List.mem_map.2 ⟨x, hx, hxt⟩), rfl⟩
    rw [mgGet_some h.opn.nodup hm] at h1
    exact h1
theorem get_mem {G : GSt} {t : Tr} {x : Opn} (h : G.get t = some x) : x ∈ G.op ∧ x.t = t := ⟨List.mem_of_find?_eq_some h, by simpa using List.find?_some h⟩
set_option maxRecDepth 100000 in
theorem gaNone (h : Gf base w K Z F G m) : Calls Tryz.prog 34 #[ptV F] w fun e w' => e = .returned (.bool false) ∧ w = w' := by
  have hq := fun w => run_eql_map_nil_sl (P := Tryz.prog) w 63 _ _ (some m.ob) Tryz.underlying63
  have c3 : w.cell? ⟨F, 3, none⟩ = some (.map (some m.ob)) := by rw [h.blk.cell 3]; rfl
  clear h
  go_enter Tryz.func34, Tryz.ntmps34
  go_wp2_with fail
  go_ret
  exact ⟨rfl, rfl⟩
end
/-- What is due first: the heap's first, if it counts. -/
theorem first_is {op : List Opn} {dl : List Due} {x : Opn} (hn : (op.map (·.t)).Nodup) (hh : Heap dLt dl dl.length) (hin : ∀ y ∈ op, y.due ∈ dl) (hx : x ∈ op) (h0 : dl[0]? = some x.due) : ∃ y, GSt.first op = some y ∧ y.due = x.due ∧ y = x := by
  cases hf : GSt.first op with
  | none =>
    rw [first_none hf] at hx
    cases hx
  | some y =>
    obtain ⟨h1, h2⟩ := first_some hf
    obtain ⟨k, hk, e⟩ := List.mem_iff_getElem.1 (hin y h1)
    have h3 := Heap.min dLt_ok (Nat.le_refl _) hh k hk x.due y.due h0 (by rw [List.getElem?_eq_getElem hk, e])
    have h4 : y.due = x.due := dLt_anti h3 (h2 x hx)
    have h5 : y.t = x.t := congrArg Prod.fst h4
    refine ⟨y, rfl, h4, ?_⟩
    obtain ⟨i, hi, ei⟩ := List.mem_iff_getElem.1 h1
    obtain ⟨j, hj, ej⟩ := List.mem_iff_getElem.1 hx
    have hij : i = j := by
      have h6 : (op.map (·.t))[i]'(by simpa using hi) = (op.map (·.t))[j]'(by simpa using hj) := by simp [ei, ej, h5]
      exact (List.getElem_inj hn).1 h6
    subst hij
    rw [← ei, ← ej]
/-- What does not count goes. -/
theorem pop_in {op : List Opn} {dl : List Due} {d : Due} (hh : Heap dLt dl dl.length) (hin : ∀ y ∈ op, y.due ∈ dl) (h0 : dl[0]? = some d) (hd : ∀ y ∈ op, y.due ≠ d) : Heap dLt (hPop dLt dl) (hPop dLt dl).length ∧ (∀ y ∈ op, y.due ∈ hPop dLt dl) ∧ (hPop dLt dl).length = dl.length - 1 := by
  obtain ⟨h1, h2, h3, -⟩ := hPop_ok dLt_ok h0 hh
  rw [h3]
  refine ⟨h1, fun y hy => ?_, rfl⟩
  have h4 := h2.mem_iff.2 (hin y hy)
  rcases List.mem_append.1 h4 with h5 | h5
  · exact h5
  · exact absurd (List.mem_singleton.1 h5) (hd y hy)
end Go.Proofs.YtoojpagpkbcfjaaGreat


/- Layer 20: first. -/
namespace Go.Proofs.YtoojpagpkbcfjaaGreat
open Go.RowKit
attribute [local go_sem ↓] loadDu_shut storeKD_shut loadTr_shut
abbrev zDue : Array Value := #[.int .u64 0, .int .u64 0, .int .i64 0]
set_option maxRecDepth 100000 in
/-- A due in a block of its own. -/
theorem duBox {W : World} (d : Due) {r : Nat} {cs : Array Value} (hB : Bk W r 74 cs) (hcs : cs.size = 3) : ∃ W2, (storeKD 74 ⟨r, 0, none⟩ (dueV d)).run Tryz.prog W = .ok () W2 ∧ Bk W2 r 74 (dueC d).toArray ∧ FrK W W2 (Kis r) := by
  have hst := run_storeVar_row (P := Tryz.prog) W r 0 74 74 (dueC d).toArray cs hB (by simp [dueC]; omega) (fun u hu => dueC_one d u (by simpa using hu)) (by rfl)
  have h2 := setRow_heap W r cs (cs.toList.take 0 ++ (dueC d).toArray.toList ++ cs.toList.drop (0 + (dueC d).toArray.size)).toArray _ _ hB
  have e : (cs.toList.take 0 ++ (dueC d).toArray.toList ++ cs.toList.drop (0 + (dueC d).toArray.size)).toArray = (dueC d).toArray := by
    have h3 : cs.toList.drop (0 + (dueC d).toArray.size) = [] := List.drop_eq_nil_of_le (by simp [dueC]; omega)
    rw [h3]
    simp
  rw [e] at h2 hst
  exact ⟨_, hst, h2, FrK.of_grown (only_row r _) fun b _ e => (Option.some.inj e).symm⟩
theorem loadK_tr0 {w : World} {g : Nat} {d : Due} (h : Bk w g 74 (dueC d).toArray) : (loadK 37 ⟨g, 0, none⟩).run Tryz.prog w = .ok (trV d.1) w := by
  have := loadK_trD (o := 0) (i := 0) (d := d) (w := w) (b := g) fun j hj => by
    rw [Nat.zero_mul, Nat.zero_add, Nat.zero_add, h.cell j]
    simp
  simpa using this
theorem loadK_du0 {w : World} {g : Nat} {d : Due} (h : Bk w g 74 (dueC d).toArray) : (loadK 74 ⟨g, 0, none⟩).run Tryz.prog w = .ok (dueV d) w := by
  have := loadK_du (o := 0) (i := 0) (d := d) (w := w) (b := g) fun j hj => by
    rw [Nat.zero_mul, Nat.zero_add, Nat.zero_add, h.cell j]
    simp
  simpa using this
/-- How many are due. -/
def tnN (w : World) (F : Nat) : Nat := match w.cell? ⟨F, 4, none⟩ with | some (.slice _ n _) => n | _ => 0
/-- What first comes to. -/
def FirstP (base N : Nat) (w : World) (K Z : Nat → Prop) (F : Nat) (G : GSt) (e : Ending) (w' : World) : Prop :=
  (match GSt.first G.op with | none => e = .returned (.tuple #[.agg zDue, .bool false]) | some x => e = .returned (.tuple #[dueV x.due, .bool true])) ∧ (∃ m', m'.ex = none ∧ m'.dl.length ≤ N ∧ Gf base w' K Z F G m') ∧ FrK w w' K
set_option maxRecDepth 100000 in
set_option maxHeartbeats 4000000 in
theorem gaFirst {base F N : Nat} {w : World} {K Z : Nat → Prop} {G : GSt} {m : GMem} (h : Gf base w K Z F G m) (hex : m.ex = none) (hdl : m.dl.length ≤ N) (hN : N ≤ 1000000000) :
    Calls Tryz.prog 35 #[ptV F] w (FirstP base N w K Z F G) := by
  have h1 := h.below ((Below.refl _ w).alloc (Nat.le_refl _) (.cells zDue 74))
  have b1 := Bk.new w 74 zDue
  have f1 := (FrK.refl w K).alloc (.cells zDue 74)
  obtain ⟨w1, e1⟩ : ∃ w1, w.alloc (.cells zDue 74) = w1 := ⟨_, rfl⟩
  rw [e1] at h1 b1 f1
  have hnr : ∀ b, K b → b ≠ w.heap.size := fun b hb => by
    have := (h.lo b hb).2
    omega
  have HNZ : Hid (∀ b, Z b → b ≠ w.heap.size) := Lib.hid fun b hb => by
    have := h.loZ b hb
    omega
  have H1 := Lib.hid h1
  have B1 := Lib.hid b1
  have F1 := Lib.hid f1
  have E1 := Lib.hid e1
  have HNR := Lib.hid hnr
  have hKF := h.kF
  clear h h1 b1 f1 e1 hnr
  go_enter Tryz.func35, Tryz.ntmps35
  go_wp2_with fail
  rw [E1.out]
  go_loopw [4, 5] (fun _ _ wx => ∃ m' : GMem, m'.ex = none ∧ m'.dl.length ≤ N ∧ Hid (Gf base wx K Z F G m') ∧ Hid (FrK w1 wx K)) (fun _ _ wx => tnN wx F)
  case atStart => exact ⟨m, hex, hdl, H1, Lib.hid (FrK.refl w1 K)⟩
  case round =>
    obtain ⟨m', hex', hml, HG, HF⟩ := hrel
    obtain ⟨A, c, hv, hcap, -⟩ := own_form HG.out.tur
    obtain ⟨n, hn⟩ : ∃ n, m'.dl.length = n := ⟨_, rfl⟩
    rw [hn] at hv hcap hml
    have c4 : wr.cell? ⟨F, 4, none⟩ = some (.slice A n c) := by rw [HG.out.blk.cell 4, ← hv]; rfl
    have HRB : Hid (Bk wr w.heap.size 74 zDue) := Lib.hid (HF.out.bk B1.out fun e => HNR.out _ e rfl)
    have HV := Lib.hid hv
    have HN := Lib.hid hn
    clear hv hn
    by_cases hn0 : n = 0
    · subst hn0
      have hop : G.op = [] := by
        cases hq : G.op with
        | nil => rfl
        | cons x l =>
          have h2 := HG.out.hin0 hex' x (by rw [hq]; exact List.mem_cons_self ..)
          rw [List.eq_nil_of_length_eq_zero HN.out] at h2
          cases h2
      have hfi : GSt.first G.op = none := by rw [hop]; rfl
      have HFI := Lib.hid hfi
      obtain ⟨w2, s2, k2, g2⟩ := duBox (⟨⟨0, 0⟩, 0⟩ : Due) HRB.out rfl
      have s2' : (storeKD 74 ⟨w.heap.size, 0, none⟩ (.agg #[.int .u64 0, .int .u64 0, .int .i64 0])).run Tryz.prog wr = .ok () w2 := s2
      clear s2
      have HG2 := Lib.hid (HG.out.keep g2 (fun b hb e => HNR.out b hb e) (fun b hb e => HNZ.out b hb e))
      have HF2 := Lib.hid ((F1.out.trans HF.out fun _ _ e => e).trans g2 fun b hb e => absurd (show b = w.heap.size from e) (by omega))
      have HK2 := Lib.hid k2
      clear k2 g2
      clear hop hfi
      go_wp2_with fail
      refine bodyPost_ret (resCellTmp rfl _ _ w.heap.size 74 (dueC (⟨⟨0, 0⟩, 0⟩ : Due)).toArray _ rfl HK2.out Tryz.underlying74 rfl (by rfl)) rfl ?_
      refine ⟨?_, ⟨m', hex', by rw [HN.out]; exact hml, HG2.out⟩, HF2.out⟩
      rw [HFI.out]
      rfl
    · have hn1 : (0 : Int) < (n : Int) := by omega
      obtain ⟨g, cap, hv3, -, -⟩ := HG.out.tur.form (by rw [HN.out]; omega)
      have hA : A = some ⟨g, 0, none⟩ := by
        have := HV.out.symm.trans hv3
        injection this
      subst hA
      clear hv3
      obtain ⟨d, hd⟩ : ∃ d, m'.dl[0]? = some d := ⟨_, List.getElem?_eq_getElem (by rw [HN.out]; omega)⟩
      have ld : (loadK 74 ⟨g, 0, none⟩).run Tryz.prog wr = .ok (dueV d) wr := by
        have h1 := HG.out.tur
        rw [show m'.tv = _ from HV.out] at h1
        have h2 := du_load h1 HN.out hd
        rwa [Nat.zero_mul] at h2
      obtain ⟨w3, s3, k3, g3⟩ := duBox d (Bk.new wr 74 zDue) rfl
      obtain ⟨r, hr⟩ : ∃ r, wr.heap.size = r := ⟨_, rfl⟩
      rw [hr] at s3 k3 g3
      have s3q := hr
      have s3' : (storeKD 74 ⟨wr.heap.size, 0, none⟩ (dueV d)).run Tryz.prog (wr.alloc (.cells #[.int .u64 0, .int .u64 0, .int .i64 0] 74)) = .ok () w3 := by
        rw [hr]
        exact s3
      clear s3 s3q
      have hr0 : w1.heap.size ≤ r := by rw [← hr]; exact HF.out.size
      have hrn : ∀ b, b < wr.heap.size → b ≠ r := fun b hb => by omega
      have hG3 : Gf base w3 K Z F G m' := (HG.out.below ((Below.refl _ wr).alloc (Nat.le_refl _) _)).keep g3 (fun b hb e => hrn b (HG.out.lo b hb).2 e) (fun b hb e => hrn b (HG.out.loZ b hb) e)
      have hF3 : FrK w1 w3 K := (HF.out.alloc _).trans g3 fun b hb e => absurd (show b = r from e) (by omega)
      have hG3 := hG3.below (Below.refl _ w3).drew
      have hF3 := hF3.drew
      have k3 : Bk w3.drew r 74 (dueC d).toArray := k3
      have hlk := hG3.look d.1
      have c3 : w3.drew.cell? ⟨F, 3, none⟩ = some (.map (some m'.ob)) := by rw [hG3.blk.cell 3]; rfl
      have lt3 := loadK_tr0 k3
      have HD := Lib.hid hd
      have HG3 := Lib.hid hG3
      have HF3 := Lib.hid hF3
      have HK3 := Lib.hid k3
      have HR := Lib.hid hr
      clear hd hr hr0 hrn hG3 hF3 g3
      cases hget : G.get d.1 with
      | none =>
        rw [hget] at hlk
        have HDN : Hid (∀ y ∈ G.op, y.due ≠ d) := Lib.hid fun y hy e => by
          unfold GSt.get at hget
          have := List.find?_eq_none.1 hget y hy
          simp [← e, Opn.due] at this
        obtain ⟨pm, hpm⟩ : ∃ pm, n = pm + 1 := ⟨n - 1, by omega⟩
        have hg4 := HG3.out.below (Below.refl _ w3.drew).drew
        have hk4 : (gaC G m')[4]? = some (.slice (some ⟨g, 0, none⟩) (pm + 1) c) := by
          rw [← hpm, ← show m'.tv = _ from HV.out]
          rfl
        have ht4 : DuR w3.drew.drew base (.slice (some ⟨g, 0, none⟩) (pm + 1) c) m'.dl := by
          have h1 := hg4.tur
          rwa [show m'.tv = _ from HV.out, hpm] at h1
        have CP := Lib.hid (gaHPop w3.drew.drew hg4.blk hk4 ht4 (HN.out.trans hpm) (by omega))
        obtain ⟨hp1, hp2, hp3⟩ := pop_in hg4.hp (hg4.hin0 hex') HD.out (HDN.out)
        have HG4 := Lib.hid hg4
        have HP1 := Lib.hid hp1
        have HP2 := Lib.hid hp2
        have HP3 := Lib.hid hp3
        clear hg4 hk4 ht4 hp1 hp2 hp3
        clear hget
        go_upto_region 3 with fail
        rw [HR.out]
        clear s3'
        go_wp2_with fail
        go_region
        go_wp2_with fail
        go_region
        go_wp2_with fail
        refine CP.out.mono ?_
        rintro e w5 ⟨⟨u, rfl⟩, hB5, hD5, hF5⟩
        have hf5 : FrK w3.drew.drew w5 fun b => b = F ∨ m'.tv.ownBlock = some b := hF5.mono fun b _ e => e.imp id fun e => by
          rw [show m'.tv = _ from HV.out, e]
          rfl
        have hG5 := HG4.out.turns hf5 hB5 hD5 HP1.out HP2.out (fun _ e => e) (fun q hq => HG4.out.kT q (by
          rw [show m'.tv = _ from HV.out]
          exact hq)) HG4.out.kz (fun b e => ⟨(HG4.out.lo b e).1, Nat.lt_of_lt_of_le (HG4.out.lo b e).2 hf5.size⟩)
        have hF6 : FrK w1 w5 K := HF3.out.drew.trans hf5 fun b _ e => by
          rcases e with e | e
          · exact e ▸ hKF
          · exact HG4.out.kT b e
        have htn : tnN w5 F = pm := by
          unfold tnN
          rw [hB5.cell 4]
          simp [gaC]
        have htw : tnN wr F = n := by
          unfold tnN
          rw [c4]
        have HG5 := Lib.hid hG5
        have HF6 := Lib.hid hF6
        have HT := Lib.hid (And.intro htn htw)
        clear hB5 hD5 hF5 hf5 hG5 hF6 htn htw CP
        go_wp2_with fail
        exact ⟨⟨_, rfl, by have := HP3.out; have := HN.out; show (hPop dLt m'.dl).length ≤ _; omega, HG5, HF6⟩, by rw [HT.out.1, HT.out.2]; omega⟩
      | some x =>
        rw [hget] at hlk
        obtain ⟨hx, hxt⟩ := get_mem hget
        have hxf := HG3.out.xfl x hx
        rw [hxt] at hxf
        have x1 : w3.drew.drew.cell? ⟨m'.xb d.1, 1, none⟩ = some (.int .i64 x.time) := (hxf.cell 1).trans rfl
        have d2 : w3.drew.drew.cell? ⟨r, 2, none⟩ = some (.int .i64 d.2) := (HK3.out.cell 2).trans (by simp [dueC])
        by_cases ht : x.time = d.2
        · have hxd : x.due = d := by
            unfold Opn.due
            rw [hxt, ht]
          have HXD := Lib.hid hxd
          have HXM := Lib.hid hx
          have ld0 := loadK_du0 (w := w3.drew.drew) (g := r) (d := d) HK3.out
          have hrb : Bk w3.drew.drew w.heap.size 74 zDue := HF3.out.bk B1.out fun e => HNR.out _ e rfl
          obtain ⟨w6, s6, k6, g6⟩ := duBox d hrb rfl
          have hG6 := (HG3.out.below (Below.refl _ w3.drew).drew).keep g6 (fun b hb e => HNR.out b hb e) (fun b hb e => HNZ.out b hb e)
          have hF6 := (F1.out.trans HF3.out.drew fun _ _ e => e).trans g6 fun b hb e => absurd (show b = w.heap.size from e) (by omega)
          have HG6 := Lib.hid hG6
          have HF6 := Lib.hid hF6
          have HK6 := Lib.hid k6
          clear hget hx hxt hxf hxd hrb k6 g6 hG6 hF6
          go_upto_region 3 with fail
          rw [HR.out]
          clear s3'
          go_wp2_with fail
          go_region
          go_wp2_with fail
          go_region
          go_wp2_with fail
          refine bodyPost_ret (resCellTmp rfl _ _ w.heap.size 74 (dueC d).toArray _ rfl HK6.out Tryz.underlying74 rfl (by rfl)) rfl ?_
          obtain ⟨y, hy1, hy2, hy3⟩ := first_is HG3.out.nodup HG3.out.hp (HG3.out.hin0 hex') HXM.out (by rw [HXD.out]; exact HD.out)
          refine ⟨?_, ⟨_, hex', by rw [HN.out]; exact hml, HG6.out⟩, HF6.out⟩
          rw [hy1]
          simp only
          rw [hy2, HXD.out]
          rfl
        · have HDN : Hid (∀ y ∈ G.op, y.due ≠ d) := Lib.hid fun y hy e => by
            have h1 : y.t = x.t := by rw [hxt, ← e]; rfl
            have h2 : y.time = d.2 := by rw [← e]; rfl
            obtain ⟨i, hi, ei⟩ := List.mem_iff_getElem.1 hy
            obtain ⟨j, hj, ej⟩ := List.mem_iff_getElem.1 hx
            have hij : i = j := by
              have h6 : (G.op.map (·.t))[i]'(by simpa using hi) = (G.op.map (·.t))[j]'(by simpa using hj) := by simp [ei, ej, h1]
              exact (List.getElem_inj HG3.out.nodup).1 h6
            subst hij
            rw [← ei, ej] at h2
            exact ht h2
          have htb : (x.time == d.2) = false := by simp [ht]
          obtain ⟨pm, hpm⟩ : ∃ pm, n = pm + 1 := ⟨n - 1, by omega⟩
          have hg4 := HG3.out.below (Below.refl _ w3.drew).drew
          have hk4 : (gaC G m')[4]? = some (.slice (some ⟨g, 0, none⟩) (pm + 1) c) := by
            rw [← hpm, ← show m'.tv = _ from HV.out]
            rfl
          have ht4 : DuR w3.drew.drew base (.slice (some ⟨g, 0, none⟩) (pm + 1) c) m'.dl := by
            have h1 := hg4.tur
            rwa [show m'.tv = _ from HV.out, hpm] at h1
          have CP := Lib.hid (gaHPop w3.drew.drew hg4.blk hk4 ht4 (HN.out.trans hpm) (by omega))
          obtain ⟨hp1, hp2, hp3⟩ := pop_in hg4.hp (hg4.hin0 hex') HD.out (HDN.out)
          have HG4 := Lib.hid hg4
          have HP1 := Lib.hid hp1
          have HP2 := Lib.hid hp2
          have HP3 := Lib.hid hp3
          clear hg4 hk4 ht4 hp1 hp2 hp3
          clear hget hx hxt hxf
          go_upto_region 3 with fail
          rw [HR.out]
          clear s3'
          go_wp2_with fail
          go_region
          go_wp2_with fail
          go_region
          go_wp2_with fail
          refine CP.out.mono ?_
          rintro e w5 ⟨⟨u, rfl⟩, hB5, hD5, hF5⟩
          have hf5 : FrK w3.drew.drew w5 fun b => b = F ∨ m'.tv.ownBlock = some b := hF5.mono fun b _ e => e.imp id fun e => by
            rw [show m'.tv = _ from HV.out, e]
            rfl
          have hG5 := HG4.out.turns hf5 hB5 hD5 HP1.out HP2.out (fun _ e => e) (fun q hq => HG4.out.kT q (by
            rw [show m'.tv = _ from HV.out]
            exact hq)) HG4.out.kz (fun b e => ⟨(HG4.out.lo b e).1, Nat.lt_of_lt_of_le (HG4.out.lo b e).2 hf5.size⟩)
          have hF6 : FrK w1 w5 K := HF3.out.drew.trans hf5 fun b _ e => by
            rcases e with e | e
            · exact e ▸ hKF
            · exact HG4.out.kT b e
          have htn : tnN w5 F = pm := by
            unfold tnN
            rw [hB5.cell 4]
            simp [gaC]
          have htw : tnN wr F = n := by
            unfold tnN
            rw [c4]
          have HG5 := Lib.hid hG5
          have HF6 := Lib.hid hF6
          have HT := Lib.hid (And.intro htn htw)
          clear hB5 hD5 hF5 hf5 hG5 hF6 htn htw CP
          go_wp2_with fail
          exact ⟨⟨_, rfl, by have := HP3.out; have := HN.out; show (hPop dLt m'.dl).length ≤ _; omega, HG5, HF6⟩, by rw [HT.out.1, HT.out.2]; omega⟩
end Go.Proofs.YtoojpagpkbcfjaaGreat


/- Layer 20: append to the closed traces. -/
namespace Go.Proofs.YtoojpagpkbcfjaaGreat
open Go.RowKit
abbrev ClQ (w : World) (base : Nat) (v : Value) (xs : List ClE) : Prop := Qf clC 3 47 w base v xs
theorem grown_setCellG (w : World) (g i : Nat) (u : Value) : w.grownBy (w.setCell ⟨g, i, none⟩ u) (some g) :=
  ⟨rfl, rfl, rfl, by simp, fun k _ hne => heap_setCell_other w _ k u (fun e => hne (by rw [e]))⟩
theorem clinfo : (Tryz.prog.info? 47).map (fun i => (i.zero, i.size, i.bytes)) = some (some (.agg #[.int .u64 0, .int .u64 0, .slice none 0 0]), 3, 40) := by kernel_rfl
theorem ClQ.of_own {w : World} {base n : Nat} {v : Value} {xs : List ClE} (h : w.ownsRow base 47 3 v n (flatR clC xs)) (hn : xs.length = n) : ClQ w base v xs := by
  subst hn
  rcases h.2 with ⟨e1, e2⟩ | ⟨g, cap, cur, rfl, h2, h3, h4, h5, h6, h7⟩
  · refine .inl ⟨e1, ?_⟩
    have h8 := flatR_length clC_length xs
    rw [e2] at h8
    exact List.eq_nil_of_length_eq_zero (by simp at h8; omega)
  · refine .inr ⟨g, 0, cap, cur, rfl, h2, h3, h4, by omega, fun j u hj => ?_⟩
    rw [← h7, List.getElem?_take] at hj
    split at hj
    · rw [Nat.zero_add]
      simpa using hj
    · cases hj
theorem ClQ.cells {w : World} {base g off cap : Nat} {xs : List ClE} (h : ClQ w base (.slice (some ⟨g, off, none⟩) xs.length cap) xs) : ∀ j u, (flatR clC xs)[j]? = some u → w.cell? ⟨g, off + j, none⟩ = some u := by
  rcases h with ⟨e1, e2⟩ | ⟨g', off', cap', cur, e1, h2, h3, h4, h5, h6⟩
  · cases e1
  · injection e1 with e1 _ e3
    injection e1 with e1
    injection e1 with e1 e4
    subst e1 e4 e3
    intro j u hj
    rw [h3.cell]
    exact h6 j u hj
set_option maxRecDepth 100000 in
/-- One more closed trace. -/
theorem run_appCl {w : World} {base G c : Nat} {v : Value} {xs : List ClE} {e : ClE} (h : ClQ w base v xs) (hb : base ≤ w.heap.size) (hn : xs.length ≤ 1000000000) (hG : Bk w G 47 (clC e).toArray) :
    ∃ v' w', (Builtin.append_ #[67, 67] 67 #[v, .slice (some ⟨G, 0, none⟩) 1 c]).run Tryz.prog w = .ok v' w' ∧ ClQ w' base v' (xs ++ [e]) ∧ w.grownBy w' v.ownBlock ∧ (v'.ownBlock = v.ownBlock ∨ ∃ g, v'.ownBlock = some g ∧ w.heap.size ≤ g) := by
  obtain ⟨i0, hi0, hz0, hz1, hz2⟩ := info_parts clinfo
  have hnews : ∀ j u, (clC e)[j]? = some u → w.cell? ((⟨G, 0, none⟩ : Addr).add j) = some u := fun j u hj => by
    rw [Addr.add_lit, Nat.zero_add, hG.cell j]
    simpa using hj
  have hfl : flatR clC (xs ++ [e]) = flatR clC xs ++ clC e := by rw [flatR_append, flatR_cons]; simp [flatR]
  rcases h with ⟨rfl, rfl⟩ | ⟨g, off, cap, cur, rfl, h2, h3, h4, h5, h6⟩
  · obtain ⟨v', w', hrun, r1, r2, r3⟩ := run_append_own (P := Tryz.prog) w w.heap.size 67 67 47 i0 _ 3 40 Tryz.underlying67 hi0 hz0 hz1 hz2 rfl (by omega) (.slice none 0 0) 0 [] (World.ownsRow_nil w _ _ 3) ⟨G, 0, none⟩ 1 c (clC e) rfl hnews (clC_one e) (by simp [maxLen]) (by omega) (Nat.le_refl _)
    refine ⟨v', w', hrun, ?_, r2, ?_⟩
    · have h1 : ClQ w' w.heap.size v' [e] := ClQ.of_own (n := 1) (by
        have e1 : flatR clC [e] = [] ++ clC e := by rw [flatR_cons]; simp [flatR]
        rw [e1]
        exact r1) rfl
      rcases h1 with h1 | ⟨g, off, cap, cur, h1, h2, h3⟩
      · exact .inl h1
      · exact .inr ⟨g, off, cap, cur, h1, Nat.le_trans hb h2, h3⟩
    · cases hv : v'.ownBlock with
      | none => exact .inl rfl
      | some q => exact .inr ⟨q, rfl, (r1.lt q hv).1⟩
  · have hcell : ∀ j u, (flatR clC xs)[j]? = some u → w.cell? ⟨g, off + j, none⟩ = some u := fun j u hj => by
      rw [h3.cell]
      exact h6 j u hj
    by_cases hr : xs.length + 1 ≤ cap
    · have hsp : ∀ j, j < (clC e).length → off + xs.length * i0.size + j < cur.size := fun j hj => by
        rw [hz1]
        rw [clC_length] at hj
        have := Nat.mul_le_mul_right 3 hr
        omega
      have hrun := run_append_room_cells (P := Tryz.prog) w 67 67 47 i0 Tryz.underlying67 hi0 g off xs.length cap ⟨G, 0, none⟩ 1 c (clC e) (by rw [hz1]; rfl) hnews (clC_one e) hr (fun j hj => by
        rw [h3.cell, Array.getElem?_eq_getElem (hsp j hj)]
        rfl) (fun j hj => h3.frozen _)
      rw [hz1] at hrun
      refine ⟨_, _, hrun, ?_, ?_, .inl rfl⟩
      · have hB := ((h3.set (off + xs.length * 3) (.int .u64 (e.t.hi : Nat))).set (off + xs.length * 3 + 1) (.int .u64 (e.t.lo : Nat))).set (off + xs.length * 3 + 2) (.slice e.A e.l.length e.c)
        refine .inr ⟨g, off, cap, _, by rw [List.length_append]; rfl, h2, hB, by rw [List.length_append]; exact hr, by simp only [Array.size_setIfInBounds]; exact h5, fun j u hj => ?_⟩
        rw [hfl] at hj
        have hlx := flatR_length clC_length xs
        have hc3 := Nat.mul_le_mul_right 3 hr
        by_cases hjl : j < (flatR clC xs).length
        · rw [List.getElem?_append_left hjl] at hj
          rw [Array.getElem?_setIfInBounds_ne (by omega), Array.getElem?_setIfInBounds_ne (by omega), Array.getElem?_setIfInBounds_ne (by omega)]
          exact h6 j u hj
        · rw [List.getElem?_append_right (by omega)] at hj
          obtain ⟨q, hq⟩ : ∃ q, j - (flatR clC xs).length = q := ⟨_, rfl⟩
          rw [hq] at hj
          have hq3 : q < 3 := by
            have := (List.getElem?_eq_some_iff.1 hj).1
            rwa [clC_length] at this
          have hjq : off + j = off + xs.length * 3 + q := by omega
          rw [hjq]
          match q, hq3, hj with
          | 0, _, hj =>
            rw [Array.getElem?_setIfInBounds_ne (by omega), Array.getElem?_setIfInBounds_ne (by omega), Nat.add_zero, Array.getElem?_setIfInBounds_self_of_lt (by omega)]
            exact hj
          | 1, _, hj =>
            rw [Array.getElem?_setIfInBounds_ne (by omega), Array.getElem?_setIfInBounds_self_of_lt (by simp; omega)]
            exact hj
          | 2, _, hj =>
            rw [Array.getElem?_setIfInBounds_self_of_lt (by simp; omega)]
            exact hj
      · exact ((grown_setCellG w g _ _).trans (grown_setCellG _ g _ _)).trans (grown_setCellG _ g _ _)
    · obtain ⟨v', w', hrun, r1, r2⟩ := run_append_arg_grows (P := Tryz.prog) w 67 67 47 i0 _ 3 40 Tryz.underlying67 hi0 hz0 hz1 hz2 rfl (by omega) ⟨g, off, none⟩ xs.length cap (flatR clC xs) (flatR_length clC_length xs) (fun j u hj => by rw [Addr.add_lit]; exact hcell j u hj) ⟨G, 0, none⟩ 1 c (clC e) rfl hnews (by omega) (by simp only [maxLen]; omega) (by omega)
      refine ⟨v', w', hrun, ?_, ⟨r2.os, r2.tape, r2.output, r2.size, fun k hk _ => r2.block k hk (by simp)⟩, ?_⟩
      · have h1 : ClQ w' w.heap.size v' (xs ++ [e]) := ClQ.of_own (n := xs.length + 1) (by rw [hfl]; exact r1) (by simp)
        rcases h1 with h1 | ⟨g', off', cap', cur', h1, h2', h3'⟩
        · exact .inl h1
        · exact .inr ⟨g', off', cap', cur', h1, Nat.le_trans hb h2', h3'⟩
      · cases hv : v'.ownBlock with
        | none =>
          exfalso
          rcases r1.2 with ⟨e1, e2⟩ | ⟨g', cap', cur', e1, _⟩
          · omega
          · rw [e1] at hv
            exact Option.some_ne_none _ hv
        | some q => exact .inr ⟨q, rfl, (r1.lt q hv).1⟩
end Go.Proofs.YtoojpagpkbcfjaaGreat


/- Layer 20: the gatherer's changes: a closed trace more; closed ever; no longer open. -/
namespace Go.Proofs.YtoojpagpkbcfjaaGreat
open Go.RowKit
section
variable {base F : Nat} {w w' : World} {K K' Z Z' : Nat → Prop} {G : GSt} {m : GMem}
theorem ClQ.blk {v : Value} {xs : List ClE} (h : ClQ w base v xs) {g : Nat} (hg : v.ownBlock = some g) : ∃ cur, Bk w g 47 cur := by
  rcases h with ⟨h4, -⟩ | ⟨g', off, cap, cur, h4, -, h5, -⟩
  · rw [h4] at hg
    cases hg
  · rw [h4] at hg
    have e : g' = g := Option.some.inj hg
    exact ⟨cur, e ▸ h5⟩
/-- A map's block is none of a struct's or a row's. -/
theorem Mh.neBk {κ ν : Type} {kv : κ → Value} {vv : ν → Value} {b g : Nat} {L : List (κ × ν)} {t : TypeId} {cs : Array Value} (h : Mh kv vv w b L) (hg : Bk w g t cs) : g ≠ b := fun e => by
  obtain ⟨es, c, h1⟩ := h.obj
  rw [e] at hg
  rw [show w.heap[b]? = _ from hg] at h1
  cases h1
/-- One more closed trace. -/
theorem Gf.addCl (h : Gf base w K Z F G m) {v' : Value} {e : ClE} (hf : FrK w w' fun b => b = F ∨ m.cv.ownBlock = some b) (hB : Bk w' F 69 ((gaC G m).setIfInBounds 6 v')) (hQ : ClQ w' base v' (m.ce ++ [e])) (he : ClZ w' Z' e)
    (hk : ∀ b, K b → K' b) (hz : ∀ b, Z b → Z' b) (hko : ∀ g, v'.ownBlock = some g → K' g) (hkz : ∀ b, K' b → ¬Z' b) (hlo : ∀ b, K' b → base ≤ b ∧ b < w'.heap.size) (hloZ : ∀ b, Z' b → b < w'.heap.size) :
    Gf base w' K' Z' F { G with cl := G.cl ++ [(e.t, sps e.l)] } { m with cv := v', ce := m.ce ++ [e] } := by
  have hbk : ∀ {b : Nat} {t : TypeId} {cs : Array Value}, Bk w b t cs → t ≠ 69 → t ≠ 47 → w'.heap[b]? = w.heap[b]? := fun {b t cs} hb h1 h2 => hf.block b hb.lt (by
    rintro (e | e)
    · exact ne_of_type hb h.blk h1 e
    · obtain ⟨cur, hc⟩ := ClQ.blk h.cls e
      exact ne_of_type hb hc h2 rfl)
  have hmp : ∀ {κ ν : Type} {kv : κ → Value} {vv : ν → Value} {b : Nat} {L : List (κ × ν)}, Mh kv vv w b L → Mh kv vv w' b L := fun {κ ν kv vv b L} hM => hM.of (hf.block b hM.lt (by
    rintro (e | e)
    · exact hM.neBk h.blk e.symm
    · obtain ⟨cur, hc⟩ := ClQ.blk h.cls e
      exact hM.neBk hc rfl))
  have hzz : ∀ b, Z b → w'.heap[b]? = w.heap[b]? := fun b hb => hf.block b (h.loZ b hb) (by
    rintro (e | e)
    · exact h.kz F h.kF (e ▸ hb)
    · exact h.kz b (h.kC b e) hb)
  exact { blk := by
            have e1 : gaC { G with cl := G.cl ++ [(e.t, sps e.l)] } { m with cv := v', ce := m.ce ++ [e] } = (gaC G m).setIfInBounds 6 v' := by simp [gaC]
            rw [e1]
            exact hB
          opn := hmp h.opn
          opnP := h.opnP
          xfl := fun x hx => (hbk (h.xfl x hx) (by decide) (by decide)).trans (h.xfl x hx)
          xro := fun x hx => own_of (h.xro x hx) fun g e => by
            obtain ⟨cur, hcur⟩ := own_bk (h.xro x hx) e
            exact hbk hcur (by decide) (by decide)
          xsp := h.xsp
          xel := fun x hx e he => (h.xel x hx e he).keep hzz hf.size hz
          xinj := h.xinj
          rinj := h.rinj
          evr := hmp h.evr
          evrM := h.evrM
          tur := own_of h.tur fun g e => by
            obtain ⟨cur, hcur⟩ := own_bk h.tur e
            exact hbk hcur (by decide) (by decide)
          hp := h.hp
          hin := h.hin
          cls := hQ
          clsE := by
            have h1 := h.clsE
            unfold clsOf at *
            rw [List.map_append, h1]
            rfl
          clz := fun x hx => by
            rcases List.mem_append.1 hx with hx | hx
            · exact (h.clz x hx).keep hzz hf.size hz
            · rw [List.mem_singleton.1 hx]
              exact he
          neE := h.neE
          kF := hk _ h.kF
          kO := hk _ h.kO
          kE := hk _ h.kE
          kT := fun g e => hk _ (h.kT g e)
          kC := hko
          kX := fun x hx => hk _ (h.kX x hx)
          kR := fun x hx g e => hk _ (h.kR x hx g e)
          kz := hkz
          lo := hlo
          loZ := hloZ }
/-- A trace is closed ever. -/
theorem Gf.ever (h : Gf base w K Z F G m) {t : Tr} {E' : List Tr} (hf : FrK w w' (Kis m.eb)) (hM : Mh trV (fun b : Bool => .bool b) w' m.eb (E'.map fun t => (t, true))) (hE : ∀ u, u ∈ E' ↔ u ∈ m.E ∨ u = t) :
    Gf base w' K Z F { G with all := G.all ++ [t] } { m with E := E' } := by
  have hbk : ∀ {b : Nat} {t : TypeId} {cs : Array Value}, Bk w b t cs → w'.heap[b]? = w.heap[b]? := fun {b t cs} hb => hf.block b hb.lt (h.evr.neBk hb)
  have hzz : ∀ b, Z b → w'.heap[b]? = w.heap[b]? := fun b hb => hf.block b (h.loZ b hb) fun e => h.kz m.eb h.kE ((show b = m.eb from e) ▸ hb)
  exact { h with
          blk := (hbk h.blk).trans h.blk
          opn := h.opn.of (hf.block _ h.opn.lt h.neE)
          xfl := fun x hx => (hbk (h.xfl x hx)).trans (h.xfl x hx)
          xro := fun x hx => own_of (h.xro x hx) fun g e => by
            obtain ⟨cur, hcur⟩ := own_bk (h.xro x hx) e
            exact hbk hcur
          xel := fun x hx e he => (h.xel x hx e he).keep hzz hf.size fun _ e => e
          evr := hM
          evrM := fun u => by
            rw [hE u, List.mem_append, List.mem_singleton, h.evrM u]
          tur := own_of h.tur fun g e => by
            obtain ⟨cur, hcur⟩ := own_bk h.tur e
            exact hbk hcur
          cls := h.cls.keep fun g e => by
            obtain ⟨cur, hc⟩ := ClQ.blk h.cls e
            exact hbk hc
          clz := fun x hx => (h.clz x hx).keep hzz hf.size fun _ e => e
          lo := fun b e => ⟨(h.lo b e).1, Nat.lt_of_lt_of_le (h.lo b e).2 hf.size⟩
          loZ := fun b e => Nat.lt_of_lt_of_le (h.loZ b e) hf.size }
theorem mem_delOf {t : Tr} {l : List Opn} {x : Opn} : x ∈ GSt.delOf t l ↔ x ∈ l ∧ x.t ≠ t := by simp [GSt.delOf]
/-- A trace is no longer open. -/
theorem Gf.gone (h : Gf base w K Z F G m) {t : Tr} (hex : m.ex = none ∨ m.ex = some t) (hf : FrK w w' (Kis m.ob)) (hM : Mh trV ptV w' m.ob ((m.Y.filter fun u => decide (u ≠ t)).map fun u => (u, m.xb u))) :
    Gf base w' K Z F { G with op := GSt.delOf t G.op } { m with Y := m.Y.filter fun u => decide (u ≠ t), ex := none } := by
  have hbk : ∀ {b : Nat} {t : TypeId} {cs : Array Value}, Bk w b t cs → w'.heap[b]? = w.heap[b]? := fun {b t cs} hb => hf.block b hb.lt (h.opn.neBk hb)
  have hzz : ∀ b, Z b → w'.heap[b]? = w.heap[b]? := fun b hb => hf.block b (h.loZ b hb) fun e => h.kz m.ob h.kO ((show b = m.ob from e) ▸ hb)
  have hm : ∀ x, x ∈ GSt.delOf t G.op → x ∈ G.op := fun x hx => (mem_delOf.1 hx).1
  exact { h with
          blk := (hbk h.blk).trans h.blk
          opn := hM
          opnP := by
            have h1 := h.opnP.filter (fun u => decide (u ≠ t))
            have e : (GSt.delOf t G.op).map (·.t) = (G.op.map (·.t)).filter fun u => decide (u ≠ t) := by
              unfold GSt.delOf
              rw [List.filter_map]
              rfl
            show (m.Y.filter fun u => decide (u ≠ t)).Perm ((GSt.delOf t G.op).map (·.t))
            rw [e]
            exact h1
          xfl := fun x hx => (hbk (h.xfl x (hm x hx))).trans (h.xfl x (hm x hx))
          xro := fun x hx => own_of (h.xro x (hm x hx)) fun g e => by
            obtain ⟨cur, hcur⟩ := own_bk (h.xro x (hm x hx)) e
            exact hbk hcur
          xsp := fun x hx => h.xsp x (hm x hx)
          xel := fun x hx e he => (h.xel x (hm x hx) e he).keep hzz hf.size fun _ e => e
          xinj := fun x hx y hy => h.xinj x (hm x hx) y (hm y hy)
          rinj := fun x hx y hy => h.rinj x (hm x hx) y (hm y hy)
          evr := h.evr.of (hf.block _ h.evr.lt fun e => h.neE (show m.eb = m.ob from e).symm)
          tur := own_of h.tur fun g e => by
            obtain ⟨cur, hcur⟩ := own_bk h.tur e
            exact hbk hcur
          hin := fun x hx _ => h.hin x (hm x hx) (by
            rcases hex with e | e
            · rw [e]; intro e2; cases e2
            · rw [e]
              intro e2
              injection e2 with e2
              exact (mem_delOf.1 hx).2 e2.symm)
          cls := h.cls.keep fun g e => by
            obtain ⟨cur, hc⟩ := ClQ.blk h.cls e
            exact hbk hc
          clz := fun x hx => (h.clz x hx).keep hzz hf.size fun _ e => e
          kX := fun x hx => h.kX x (hm x hx)
          kR := fun x hx => h.kR x (hm x hx)
          lo := fun b e => ⟨(h.lo b e).1, Nat.lt_of_lt_of_le (h.lo b e).2 hf.size⟩
          loZ := fun b e => Nat.lt_of_lt_of_le (h.loZ b e) hf.size }
end
end Go.Proofs.YtoojpagpkbcfjaaGreat


/- Layer 20: a trace is closed: the region that draws (printed by tools/genGaR.py out of tools/genGaR.txt). -/
namespace Go.Proofs.YtoojpagpkbcfjaaGreat
open Go.RowKit
def delK (ts : Array TypeId) (t : TypeId) (xs : Array Value) : Sem Value := Builtin.delete_ ts t xs
theorem delK_shut (ts : Array TypeId) (t : TypeId) (xs : Array Value) : Builtin.delete_ ts t xs = delK ts t xs := rfl
attribute [local go_sem ↓] loadTr_shut appKG_shut delK_shut
abbrev trC (t : Tr) : Array Value := #[.int .u64 (t.hi : Nat), .int .u64 (t.lo : Nat)]
set_option maxRecDepth 100000 in
theorem loadK_trB {w : World} {g : Nat} {t : Tr} (h : Bk w g 37 (trC t)) : (loadK 37 ⟨g, 0, none⟩).run Tryz.prog w = .ok (trV t) w :=
  run_loadVar_row w g _ _ (trC t) (0, 0) _ h Tryz.underlying37 rfl (by rfl)
/-- An open trace is found. -/
theorem look_mh {w : World} {ob : Nat} {Y : List Tr} {xb : Tr → Nat} (hM : Mh trV ptV w ob (Y.map fun t => (t, xb t))) {t : Tr} (ht : t ∈ Y) : (Instr.lookup 63 (.map (some ob)) (trV t) false).run Tryz.prog w = .ok (ptV (xb t)) w := by
  have h1 := run_mhLook (z := .pointer none) (e := 83) trRun Tryz.underlying63 (by simp [Tryz.zeroValue83]) hM t false
  rw [mgGet_some hM.nodup (List.mem_map.2 ⟨t, ht, rfl⟩)] at h1
  exact h1
section
variable {base F : Nat} {w w' : World} {K K' Z Z' : Nat → Prop} {G : GSt} {m : GMem}
/-- What close's region reads. -/
def ClS (F r : Nat) (m : GMem) (t : Tr) (v : Value) (w : World) : Prop :=
  w.cell? ⟨F, 6, none⟩ = some m.cv ∧ w.cell? ⟨F, 3, none⟩ = some (.map (some m.ob)) ∧ (loadK 37 ⟨r, 0, none⟩).run Tryz.prog w = .ok (trV t) w ∧ (Instr.lookup 63 (.map (some m.ob)) (trV t) false).run Tryz.prog w = .ok (ptV (m.xb t)) w ∧ w.cell? ⟨m.xb t, 0, none⟩ = some v
theorem Gf.clS (h : Gf base w K Z F G m) {x : Opn} (hx : x ∈ G.op) {r : Nat} (hr : Bk w r 37 (trC x.t)) (hf : FrK w w' fun b => m.cv.ownBlock = some b) : ClS F r m x.t (m.xv x.t) w' := by
  have hbk : ∀ {b : Nat} {t : TypeId} {cs : Array Value}, Bk w b t cs → t ≠ 47 → Bk w' b t cs := fun {b t cs} hb h1 => hf.bk hb fun e => by
    obtain ⟨cur, hc⟩ := ClQ.blk h.cls e
    exact ne_of_type hb hc h1 rfl
  have hB := hbk h.blk (by decide)
  refine ⟨(hB.cell 6).trans rfl, (hB.cell 3).trans rfl, loadK_trB (hbk hr (by decide)), look_mh (h.opn.of (hf.block _ h.opn.lt fun e => ?_)) (h.opnP.mem_iff.2 (List.mem_map.2 ⟨x, hx, rfl⟩)), ((hbk (h.xfl x hx) (by decide)).cell 0).trans rfl⟩
  obtain ⟨cur, hc⟩ := ClQ.blk h.cls e
  exact h.opn.neBk hc rfl
/-- The tags of a span that lies in blocks made since. -/
theorem clz_new {w2 w5 : World} {A' : Option Addr} {c' n : Nat} {l' : List El} {t : Tr} (hr5 : RowS w5 w2.heap.size (.slice A' n c') n l') (hz5 : ∀ e ∈ l', ∀ a, e.A = some a → w2.heap.size ≤ a.block) : ClZ w5 (fun b => Z b ∨ (w2.heap.size ≤ b ∧ b < w5.heap.size)) ⟨t, l', A', c'⟩ := by
  refine ⟨hr5.rbs, fun hne a ha => .inr ?_, fun e he => ⟨hr5.ok e he, fun hn a ha => .inr ⟨hz5 e he a ha, ?_⟩⟩, ?_⟩
  · have ha' : A' = some a := ha
    subst ha'
    exact ⟨(hr5.own_lt a.block rfl).2, (hr5.own_lt a.block rfl).1⟩
  · obtain ⟨b, o, hA, hlt, -⟩ := (hr5.ok e he).rd (by intro e0; have := tgs_length e.s.tags; rw [e0] at this; exact hn (List.eq_nil_of_length_eq_zero (by simp at this; omega)))
    rw [ha] at hA
    cases hA
    exact hlt
  · show l'.length ≤ c'
    rw [hr5.len]
    exact hr5.cap
/-- What the append of close's region and its store come to. -/
def ClJ (base : Nat) (w2 w5 : World) (K Z : Nat → Prop) (F r : Nat) (G : GSt) (m : GMem) (x : Opn) (n : Nat) (A' : Option Addr) (c' : Nat) (v' : Value) (w7 : World) : Prop :=
  (appKG #[67, 67] 67 #[m.cv, .slice (some ⟨w5.heap.size, 0, none⟩) 1 1]).run Tryz.prog (w5.alloc (.cells #[.int .u64 (x.t.hi : Nat), .int .u64 (x.t.lo : Nat), .slice A' n c'] 47)) = .ok v' w7 ∧
  ClS F r m x.t (m.xv x.t) w5 ∧ ClS F r m x.t (m.xv x.t) (w5.alloc (.cells #[.int .u64 (x.t.hi : Nat), .int .u64 (x.t.lo : Nat), .slice A' n c'] 47)) ∧ ClS F r m x.t (m.xv x.t) w7 ∧ w7.frozen? ⟨F, 6, none⟩ = false ∧ (∃ A8 n8 d8, v' = .slice A8 n8 d8) ∧
  ∃ K' Z' m', (∀ b, K b → K' b) ∧ (∀ b, Z b → Z' b) ∧ (∀ b, K' b → K b ∨ w2.heap.size ≤ b) ∧ (∀ b, Z' b → Z b ∨ w2.heap.size ≤ b) ∧ m'.ex = m.ex ∧ m'.dl = m.dl ∧ m'.ce.length = m.ce.length + 1 ∧ m'.ob = m.ob ∧ m'.eb = m.eb ∧ m'.Y = m.Y ∧ m'.E = m.E ∧ m'.xb = m.xb ∧
    Gf base (w7.setCell ⟨F, 6, none⟩ v') K' Z' F { G with cl := G.cl ++ [(x.t, ordS x.l)] } m' ∧ FrK w2 (w7.setCell ⟨F, 6, none⟩ v') K ∧ Bk (w7.setCell ⟨F, 6, none⟩ v') r 37 (trC x.t)
theorem Gf.join {w2 w5 : World} (h2 : Gf base w2 K Z F G m) {x : Opn} (hx : x ∈ G.op) {r : Nat} (b2 : Bk w2 r 37 (trC x.t)) (hce : m.ce.length ≤ 1000000) {n c' : Nat} {A' : Option Addr} {l' : List El} (hs5 : sps l' = ordS x.l) (hr5 : RowS w5 w2.heap.size (.slice A' n c') n l') (hb5 : Below w2.heap.size w2 w5)
    (hz5 : ∀ e ∈ l', ∀ a, e.A = some a → w2.heap.size ≤ a.block) : ∃ v' w7, ClJ base w2 w5 K Z F r G m x n A' c' v' w7 := by
  have h5 := h2.below hb5
  have b5 := b2.below hb5 b2.lt
  obtain ⟨lit, hlit⟩ : ∃ lit : Array Value, #[.int .u64 (x.t.hi : Nat), .int .u64 (x.t.lo : Nat), .slice A' n c'] = lit := ⟨_, rfl⟩
  have hcl : (clC ⟨x.t, l', A', c'⟩).toArray = lit := by rw [← hlit, ← hr5.len]; rfl
  have h6 := h5.below ((Below.refl _ w5).alloc (Nat.le_refl _) (.cells lit 47))
  have b6 := b5.alloc (.cells lit 47)
  have g6 := Bk.new w5 47 lit
  rw [← hcl] at g6
  have hf6 : FrK w5 (w5.alloc (.cells lit 47)) (fun b => b = F ∨ m.cv.ownBlock = some b) := (FrK.refl w5 _).alloc _
  have hz6 : w5.heap.size ≤ (w5.alloc (.cells lit 47)).heap.size := by simp
  unfold ClJ
  rw [hlit]
  rw [hcl] at g6
  obtain ⟨w6, e6⟩ : ∃ w6, w5.alloc (.cells lit 47) = w6 := ⟨_, rfl⟩
  rw [e6] at h6 b6 g6 hf6 hz6 ⊢
  rw [← hcl] at g6
  obtain ⟨v', w7, hrun, q7, gr7, ob7⟩ := run_appCl (c := 1) h6.cls h6.baseLe (by omega) g6
  have hf7 : FrK w6 w7 fun b => m.cv.ownBlock = some b := FrK.of_grown gr7 fun b _ e => e
  have hFc : m.cv.ownBlock ≠ some F := fun e => by
    obtain ⟨cur, hc⟩ := ClQ.blk h6.cls e
    exact ne_of_type hc h6.blk (by decide) rfl
  have hrc : m.cv.ownBlock ≠ some r := fun e => by
    obtain ⟨cur, hc⟩ := ClQ.blk h6.cls e
    exact ne_of_type hc b6 (by decide) rfl
  have hB7 : Bk w7 F 69 (gaC G m) := hf7.bk h6.blk hFc
  have b7 := hf7.bk b6 hrc
  have hB8 := hB7.set 6 v'
  have hrF : r ≠ F := ne_of_type b7 hB7 (by decide)
  have hf8 := FrK.set w7 F 6 v'
  have b8 := hf8.bk b7 hrF
  have hv'F : v'.ownBlock ≠ some F := fun e => by
    obtain ⟨cur, hc⟩ := ClQ.blk q7 e
    exact ne_of_type hc hB7 (by decide) rfl
  have q8 : ClQ (w7.setCell ⟨F, 6, none⟩ v') base v' (m.ce ++ [⟨x.t, l', A', c'⟩]) := q7.keep fun g e => hf8.block g (by
    obtain ⟨cur, hc⟩ := ClQ.blk q7 e
    exact hc.lt) fun e2 => hv'F ((show g = F from e2) ▸ e)
  have hf58 : FrK w5 (w7.setCell ⟨F, 6, none⟩ v') fun b => b = F ∨ m.cv.ownBlock = some b := (hf6.trans hf7 fun b _ e => .inr e).trans hf8 fun b _ e => .inl e
  have hkz5 : ∀ b, K b → b < w2.heap.size := fun b hb => (h2.lo b hb).2
  have he8 : ClZ (w7.setCell ⟨F, 6, none⟩ v') (fun b => Z b ∨ (w2.heap.size ≤ b ∧ b < w5.heap.size)) ⟨x.t, l', A', c'⟩ := (clz_new (Z := Z) (t := x.t) hr5 hz5).keep (fun b hb => hf58.block b (hb.elim (fun e => Nat.lt_of_lt_of_le (h2.loZ b e) hb5.size) (fun e => e.2)) fun e => by
    have hKb : K b := e.elim (fun e => e ▸ h2.kF) (h2.kC b)
    rcases hb with hb | hb
    · exact h2.kz b hKb hb
    · have := hkz5 b hKb
      omega) hf58.size fun _ e => e
  have hlt8 : ∀ g, v'.ownBlock = some g → g < (w7.setCell ⟨F, 6, none⟩ v').heap.size ∧ (K g ∨ w6.heap.size ≤ g) := fun g e => by
    obtain ⟨cur, hc⟩ := ClQ.blk q8 e
    refine ⟨hc.lt, ?_⟩
    rcases ob7 with e2 | ⟨g', e2, hg'⟩
    · exact .inl (h2.kC g (by rw [← e2]; exact e))
    · rw [e2] at e
      cases e
      exact .inr hg'
  have hs25 := hb5.size
  have hG8 := Gf.addCl (K' := fun b => K b ∨ v'.ownBlock = some b) h5 hf58 hB8 q8 he8 (fun _ e => .inl e) (fun _ e => .inl e) (fun g e => .inr e) (fun b hb hzb => by
    rcases hb with hb | hb
    · rcases hzb with hz | hz
      · exact h2.kz b hb hz
      · have := hkz5 b hb
        omega
    · rcases (hlt8 b hb).2 with hk | hk
      · rcases hzb with hz | hz
        · exact h2.kz b hk hz
        · have := hkz5 b hk
          omega
      · rcases hzb with hz | hz
        · have := h2.loZ b hz
          omega
        · omega) (fun b hb => by
    rcases hb with hb | hb
    · exact ⟨(h2.lo b hb).1, Nat.lt_of_lt_of_le (h5.lo b hb).2 hf58.size⟩
    · refine ⟨?_, (hlt8 b hb).1⟩
      rcases (hlt8 b hb).2 with hk | hk
      · exact (h2.lo b hk).1
      · have := h2.baseLe
        omega) (fun b hb => by
    rcases hb with hb | hb
    · exact Nat.lt_of_lt_of_le (h5.loZ b hb) hf58.size
    · exact Nat.lt_of_lt_of_le hb.2 hf58.size)
  refine ⟨v', w7, hrun, h5.clS hx b5 (FrK.refl _ _), h6.clS hx b6 (FrK.refl _ _), h6.clS hx b6 hf7, hB7.frozen 6, ?_, fun b => K b ∨ v'.ownBlock = some b, fun b => Z b ∨ (w2.heap.size ≤ b ∧ b < w5.heap.size), { m with cv := v', ce := m.ce ++ [⟨x.t, l', A', c'⟩] }, fun _ e => .inl e, fun _ e => .inl e, fun b hb => ?_, fun b hb => hb.imp id fun e => e.1, rfl, rfl, by simp, rfl, rfl, rfl, rfl, rfl, ?_, ?_, b8⟩
  · rcases q7 with ⟨e, -⟩ | ⟨g', o', p', -, e, -⟩
    · exact ⟨_, _, _, e⟩
    · exact ⟨_, _, _, e⟩
  · rcases hb with hb | hb
    · exact .inl hb
    · exact (hlt8 b hb).2.imp id fun e => by omega
  · rw [← hs5]
    exact hG8
  · exact (FrK.of_below hb5 (Nat.le_refl _) K).trans hf58 fun b _ e => e.elim (fun e => e ▸ h2.kF) (h2.kC b)
/-- A trace put among those ever closed. -/
theorem put_ever (t : Tr) : ∀ E : List Tr, ∃ E' : List Tr, mgPut t true (E.map fun t => (t, true)) = E'.map (fun t => (t, true)) ∧ ∀ u, u ∈ E' ↔ u ∈ E ∨ u = t
  | [] => ⟨[t], rfl, by simp⟩
  | s :: E => by
    obtain ⟨E', h1, h2⟩ := put_ever t E
    by_cases e : s = t
    · refine ⟨t :: E, ?_, fun u => ?_⟩
      · rw [List.map_cons, mgPut, if_pos e]
        rfl
      · subst e
        simp only [List.mem_cons]
        exact ⟨fun h => .inl h, fun h => h.elim id .inl⟩
    · refine ⟨s :: E', ?_, fun u => ?_⟩
      · rw [List.map_cons, mgPut, if_neg e, h1]
        rfl
      · simp only [List.mem_cons, h2 u, or_assoc]
theorem del_open (t : Tr) (xb : Tr → Nat) (Y : List Tr) : mgDel t (Y.map fun u => (u, xb u)) = (Y.filter fun u => decide (u ≠ t)).map fun u => (u, xb u) := by
  unfold mgDel
  rw [List.filter_map]
  congr 1
  refine List.filter_congr fun u _ => ?_
  simp
/-- What closing a trace comes to. -/
def CloseP (base : Nat) (w : World) (K Z : Nat → Prop) (F : Nat) (G : GSt) (m : GMem) (x : Opn) (e : Ending) (w' : World) : Prop :=
  e = .returned (.tuple #[]) ∧ ∃ K' Z' m', (∀ b, K b → K' b) ∧ (∀ b, Z b → Z' b) ∧ (∀ b, K' b → K b ∨ w.heap.size ≤ b) ∧ (∀ b, Z' b → Z b ∨ w.heap.size ≤ b) ∧ m'.ex = none ∧ m'.dl = m.dl ∧ m'.ce.length = m.ce.length + 1 ∧ Gf base w' K' Z' F (G.close x.t x.l) m' ∧ FrK w w' K
set_option maxRecDepth 100000 in
set_option maxHeartbeats 4000000 in
theorem gaClose (h : Gf base w K Z F G m) {x : Opn} (hx : x ∈ G.op) (hex : m.ex = none ∨ m.ex = some x.t) (hce : m.ce.length ≤ 1000000) (hxl : x.l.length ≤ 1000000) (htg : ∀ s ∈ x.l, s.tags.length ≤ 1000000) :
    Calls Tryz.prog 36 #[ptV F, trV x.t] w (CloseP base w K Z F G m x) := by
  have h1 := (h.below ((Below.refl _ w).alloc (Nat.le_refl _) (.cells (trC x.t) 37)))
  have b1 := Bk.new w 37 (trC x.t)
  have f1 := (FrK.refl w K).alloc (.cells (trC x.t) 37)
  have s1 : (w.alloc (.cells (trC x.t) 37)).heap.size = w.heap.size + 1 := by simp
  have hw0 : ∀ b, K b ∨ Z b → b < w.heap.size := fun b hb => hb.elim (fun e => (h.lo b e).2) (h.loZ b)
  obtain ⟨w1, e1⟩ : ∃ w1, w.alloc (.cells (trC x.t) 37) = w1 := ⟨_, rfl⟩
  rw [e1] at h1 b1 f1 s1
  obtain ⟨r, hr⟩ : ∃ r, w.heap.size = r := ⟨_, rfl⟩
  rw [hr] at b1
  have h2 := h1.below (Below.refl _ w1).drew
  have b2 : Bk w1.drew r 37 (trC x.t) := b1
  have S0 := h2.clS hx b2 (FrK.refl _ _)
  obtain ⟨A, c, hv, -, -⟩ := own_form (h2.xro x hx)
  have hlen : (m.xe x.t).length = x.l.length := by rw [← h2.xsp x hx, sps_length]
  have hrd : RbS w1.drew w1.drew.heap.size A (m.xe x.t) := ⟨by
    have h3 := h2.xro x hx
    rw [hv] at h3
    exact Rd.of_own h3, fun e he => (h2.xel x hx e he).ok⟩
  have CP := Lib.hid (spOrderZ (c := c) w1.drew hrd hlen (Nat.le_refl _) hxl fun e he => by
    have h3 := (h2.xel x hx e he).ok.len
    have h4 := htg e.s (by rw [← h2.xsp x hx]; exact List.mem_map.2 ⟨e, he, rfl⟩)
    omega)
  rw [h2.xsp x hx] at CP
  rw [hv] at S0
  have H2 := Lib.hid h2
  have B2 := Lib.hid b2
  have E1 := Lib.hid e1
  have HR := Lib.hid hr
  have HV := Lib.hid hv
  clear h h1 h2 b1 b2 hrd hlen hv
  go_enter Tryz.func36, Tryz.ntmps36
  go_wp2_with fail
  refine wp_region_K (k := 21) (S := ClS F r m x.t (.slice A x.l.length c)) (by kernel_rfl) S0 (fun hHeld => ?_)
  simp only [List.size_toArray, List.length_cons, List.length_nil, Nat.zero_add, Nat.reduceAdd]
  refine' wpAnyK_take (k := 21) (i := 0) ?o0 (by kernel_rfl) (by kernel_rfl) (by kernel_rfl) (by kernel_rfl) (by kernel_rfl) ?q0 hHeld ?hw0 ?hy0 ?_
  case o0 => (simp only [List.getElem?_toArray, List.getElem?_cons_succ, List.getElem?_cons_zero]; rfl)
  case q0 => exact fun _ _ _ h => h
  case hw0 => rfl
  case hy0 => (intro w hSw; (try unfold ClS at hSw); (try dsimp only at hSw); go_simp; try (with_reducible rfl))
  simp only [Act.put, List.setIfInBounds_toArray, List.set_cons_zero, List.set_cons_succ]
  refine' wpAnyK_take (k := 21) (i := 1) ?o1 (by kernel_rfl) (by kernel_rfl) (by kernel_rfl) (by kernel_rfl) (by kernel_rfl) ?q1 hHeld ?hw1 ?hy1 ?_
  case o1 => (simp only [List.getElem?_toArray, List.getElem?_cons_succ, List.getElem?_cons_zero]; rfl)
  case q1 => exact fun _ _ _ h => h
  case hw1 => rfl
  case hy1 => (intro w hSw; (try unfold ClS at hSw); (try dsimp only at hSw); go_simp; try (with_reducible rfl))
  simp only [Act.put, List.setIfInBounds_toArray, List.set_cons_zero, List.set_cons_succ]
  refine' wpAnyK_take (k := 21) (i := 2) ?o2 (by kernel_rfl) (by kernel_rfl) (by kernel_rfl) (by kernel_rfl) (by kernel_rfl) ?q2 hHeld ?hw2 ?hy2 ?_
  case o2 => (simp only [List.getElem?_toArray, List.getElem?_cons_succ, List.getElem?_cons_zero]; rfl)
  case q2 => exact fun _ _ _ h => h
  case hw2 => rfl
  case hy2 => (intro w hSw; (try unfold ClS at hSw); (try dsimp only at hSw); go_simp; try (with_reducible rfl))
  simp only [Act.put, List.setIfInBounds_toArray, List.set_cons_zero, List.set_cons_succ]
  refine' wpAnyK_take (k := 21) (i := 3) ?o3 (by kernel_rfl) (by kernel_rfl) (by kernel_rfl) (by kernel_rfl) (by kernel_rfl) ?q3 hHeld ?hw3 ?hy3 ?_
  case o3 => (simp only [List.getElem?_toArray, List.getElem?_cons_succ, List.getElem?_cons_zero]; rfl)
  case q3 => exact fun _ _ _ h => h
  case hw3 => rfl
  case hy3 => (intro w hSw; (try unfold ClS at hSw); (try dsimp only at hSw); go_simp; try (with_reducible rfl))
  simp only [Act.put, List.setIfInBounds_toArray, List.set_cons_zero, List.set_cons_succ]
  refine' wpAnyK_take (k := 21) (i := 4) ?o4 (by kernel_rfl) (by kernel_rfl) (by kernel_rfl) (by kernel_rfl) (by kernel_rfl) ?q4 hHeld ?hw4 ?hy4 ?_
  case o4 => (simp only [List.getElem?_toArray, List.getElem?_cons_succ, List.getElem?_cons_zero]; rfl)
  case q4 => exact fun _ _ _ h => h
  case hw4 => rfl
  case hy4 => (intro w hSw; (try unfold ClS at hSw); (try dsimp only at hSw); go_simp; try (with_reducible rfl))
  simp only [Act.put, List.setIfInBounds_toArray, List.set_cons_zero, List.set_cons_succ]
  refine' wpAnyK_take (k := 21) (i := 5) ?o5 (by kernel_rfl) (by kernel_rfl) (by kernel_rfl) (by kernel_rfl) (by kernel_rfl) ?q5 hHeld ?hw5 ?hy5 ?_
  case o5 => (simp only [List.getElem?_toArray, List.getElem?_cons_succ, List.getElem?_cons_zero]; rfl)
  case q5 => exact fun _ _ _ h => h
  case hw5 => rfl
  case hy5 => (intro w hSw; (try unfold ClS at hSw); (try dsimp only at hSw); go_simp; try (with_reducible rfl))
  simp only [Act.put, List.setIfInBounds_toArray, List.set_cons_zero, List.set_cons_succ]
  refine' wpAnyK_take (k := 21) (i := 6) ?o6 (by kernel_rfl) (by kernel_rfl) (by kernel_rfl) (by kernel_rfl) (by kernel_rfl) ?q6 hHeld ?hw6 ?hy6 ?_
  case o6 => (simp only [List.getElem?_toArray, List.getElem?_cons_succ, List.getElem?_cons_zero]; rfl)
  case q6 => exact fun _ _ _ h => h
  case hw6 => rfl
  case hy6 => (intro w hSw; (try unfold ClS at hSw); (try dsimp only at hSw); go_simp; try (with_reducible rfl))
  simp only [Act.put, List.setIfInBounds_toArray, List.set_cons_zero, List.set_cons_succ]
  refine' wpAnyK_take (k := 21) (i := 7) ?o7 (by kernel_rfl) (by kernel_rfl) (by kernel_rfl) (by kernel_rfl) (by kernel_rfl) ?q7 hHeld ?hw7 ?hy7 ?_
  case o7 => (simp only [List.getElem?_toArray, List.getElem?_cons_succ, List.getElem?_cons_zero]; rfl)
  case q7 => exact fun _ _ _ h => h
  case hw7 => rfl
  case hy7 => (intro w hSw; (try unfold ClS at hSw); (try dsimp only at hSw); go_simp; try (with_reducible rfl))
  simp only [Act.put, List.setIfInBounds_toArray, List.set_cons_zero, List.set_cons_succ]
  refine' wpAnyK_take (k := 21) (i := 8) ?o8 (by kernel_rfl) (by kernel_rfl) (by kernel_rfl) (by kernel_rfl) (by kernel_rfl) ?q8 hHeld ?hw8 ?hy8 ?_
  case o8 => (simp only [List.getElem?_toArray, List.getElem?_cons_succ, List.getElem?_cons_zero]; rfl)
  case q8 => exact fun _ _ _ h => h
  case hw8 => rfl
  case hy8 => (intro w hSw; (try unfold ClS at hSw); (try dsimp only at hSw); go_simp; try (with_reducible rfl))
  simp only [Act.put, List.setIfInBounds_toArray, List.set_cons_zero, List.set_cons_succ]
  refine' wpAnyK_take (k := 21) (i := 9) ?o9 (by kernel_rfl) (by kernel_rfl) (by kernel_rfl) (by kernel_rfl) (by kernel_rfl) ?q9 hHeld ?hw9 ?hy9 ?_
  case o9 => (simp only [List.getElem?_toArray, List.getElem?_cons_succ, List.getElem?_cons_zero]; rfl)
  case q9 => exact fun _ _ _ h => h
  case hw9 => rfl
  case hy9 => (intro w hSw; (try unfold ClS at hSw); (try dsimp only at hSw); go_simp; try (with_reducible rfl))
  simp only [Act.put, List.setIfInBounds_toArray, List.set_cons_zero, List.set_cons_succ]
  refine' wpAnyK_take (k := 21) (i := 10) ?o10 (by kernel_rfl) (by kernel_rfl) (by kernel_rfl) (by kernel_rfl) (by kernel_rfl) ?q10 hHeld ?hw10 ?hy10 ?_
  case o10 => (simp only [List.getElem?_toArray, List.getElem?_cons_succ, List.getElem?_cons_zero]; rfl)
  case q10 => exact fun _ _ _ h => h
  case hw10 => rfl
  case hy10 => (intro w hSw; (try unfold ClS at hSw); (try dsimp only at hSw); go_simp; try (with_reducible rfl))
  simp only [Act.put, List.setIfInBounds_toArray, List.set_cons_zero, List.set_cons_succ]
  refine' wpAnyK_take (k := 21) (i := 11) ?o11 (by kernel_rfl) (by kernel_rfl) (by kernel_rfl) (by kernel_rfl) (by kernel_rfl) ?q11 hHeld ?hw11 ?hy11 ?_
  case o11 => (simp only [List.getElem?_toArray, List.getElem?_cons_succ, List.getElem?_cons_zero]; rfl)
  case q11 => exact fun _ _ _ h => h
  case hw11 => rfl
  case hy11 => (intro w hSw; (try unfold ClS at hSw); (try dsimp only at hSw); go_simp; try (with_reducible rfl))
  simp only [Act.put, List.setIfInBounds_toArray, List.set_cons_zero, List.set_cons_succ]
  refine' wpAnyK_take (k := 21) (i := 12) ?o12 (by kernel_rfl) (by kernel_rfl) (by kernel_rfl) (by kernel_rfl) (by kernel_rfl) ?q12 hHeld ?hw12 ?hy12 ?_
  case o12 => (simp only [List.getElem?_toArray, List.getElem?_cons_succ, List.getElem?_cons_zero]; rfl)
  case q12 => exact fun _ _ _ h => h
  case hw12 => rfl
  case hy12 => (intro w hSw; (try unfold ClS at hSw); (try dsimp only at hSw); go_simp; try (with_reducible rfl))
  simp only [Act.put, List.setIfInBounds_toArray, List.set_cons_zero, List.set_cons_succ]
  refine' wpAnyK_take (k := 21) (i := 13) ?o13 (by kernel_rfl) (by kernel_rfl) (by kernel_rfl) (by kernel_rfl) (by kernel_rfl) ?q13 hHeld ?hw13 ?hy13 ?_
  case o13 => (simp only [List.getElem?_toArray, List.getElem?_cons_succ, List.getElem?_cons_zero]; rfl)
  case q13 => exact fun _ _ _ h => h
  case hw13 => rfl
  case hy13 => (intro w hSw; (try unfold ClS at hSw); (try dsimp only at hSw); go_simp; try (with_reducible rfl))
  simp only [Act.put, List.setIfInBounds_toArray, List.set_cons_zero, List.set_cons_succ]
  refine' wpAnyK_take (k := 21) (i := 14) ?o14 (by kernel_rfl) (by kernel_rfl) (by kernel_rfl) (by kernel_rfl) (by kernel_rfl) ?q14 hHeld ?hw14 ?hy14 ?_
  case o14 => (simp only [List.getElem?_toArray, List.getElem?_cons_succ, List.getElem?_cons_zero]; rfl)
  case q14 => exact fun _ _ _ h => h
  case hw14 => rfl
  case hy14 => (intro w hSw; (try unfold ClS at hSw); (try dsimp only at hSw); go_simp; try (with_reducible rfl))
  simp only [Act.put, List.setIfInBounds_toArray, List.set_cons_zero, List.set_cons_succ]
  refine' wpAnyK_step (k := 21) (i := 15) (by kernel_rfl) ?o15 ?hw15 ?_
  case o15 => (simp only [List.getElem?_toArray, List.getElem?_cons_succ, List.getElem?_cons_zero]; rfl)
  case hw15 => rfl
  intro KK hKK
  go_simp
  refine CP.out.mono ?_
  rintro e w5 ⟨A', c', l', rfl, hs5, hr5, hb5, hz5⟩
  obtain ⟨v', w7, J⟩ := H2.out.join hx B2.out hce hs5 hr5 hb5 hz5
  obtain ⟨hrun, J5, J6, J7, J8, J0, K', Z', m', J9⟩ := J
  rw [HV.out] at J5 J6 J7
  have HJ9 := Lib.hid J9
  clear hs5 hr5 hb5 hz5 J9
  go_wp2_with fail
  clear hHeld
  refine hKK.out _ _ J5 (fun hHeld => ?_)
  clear hKK KK
  try simp only [Act.put, List.setIfInBounds_toArray, List.set_cons_zero, List.set_cons_succ]
  refine' wpAnyK_take (k := 21) (i := 16) ?o16 (by kernel_rfl) (by kernel_rfl) (by kernel_rfl) (by kernel_rfl) (by kernel_rfl) ?q16 hHeld ?hw16 ?hy16 ?_
  case o16 => (simp only [List.getElem?_toArray, List.getElem?_cons_succ, List.getElem?_cons_zero]; rfl)
  case q16 => exact fun _ _ _ h => h
  case hw16 => rfl
  case hy16 => (intro w hSw; (try unfold ClS at hSw); (try dsimp only at hSw); go_simp; try (with_reducible rfl))
  simp only [Act.put, List.setIfInBounds_toArray, List.set_cons_zero, List.set_cons_succ]
  refine' wpAnyK_step (k := 21) (i := 17) (by kernel_rfl) ?o17 ?hw17 ?_
  case o17 => (simp only [List.getElem?_toArray, List.getElem?_cons_succ, List.getElem?_cons_zero]; rfl)
  case hw17 => rfl
  intro KK hKK
  go_simp
  clear hHeld
  refine hKK.out _ _ J6 (fun hHeld => ?_)
  clear hKK KK
  try simp only [Act.put, List.setIfInBounds_toArray, List.set_cons_zero, List.set_cons_succ]
  refine' wpAnyK_step (k := 21) (i := 18) (by kernel_rfl) ?o18 ?hw18 ?_
  case o18 => (simp only [List.getElem?_toArray, List.getElem?_cons_succ, List.getElem?_cons_zero]; rfl)
  case hw18 => rfl
  intro KK hKK
  go_simp
  clear hHeld
  refine hKK.out _ _ J7 (fun hHeld => ?_)
  clear hKK KK
  try simp only [Act.put, List.setIfInBounds_toArray, List.set_cons_zero, List.set_cons_succ]
  refine' wpAnyK_step (k := 21) (i := 19) (by kernel_rfl) ?o19 ?hw19 ?_
  case o19 => (simp only [List.getElem?_toArray, List.getElem?_cons_succ, List.getElem?_cons_zero]; rfl)
  case hw19 => rfl
  intro KK hKK
  go_simp
  clear hHeld
  refine hKK.out _ _ J7 (fun hHeld => ?_)
  clear hKK KK
  try simp only [Act.put, List.setIfInBounds_toArray, List.set_cons_zero, List.set_cons_succ]
  refine' wpAnyK_step (k := 21) (i := 20) (by kernel_rfl) ?o20 ?hw20 ?_
  case o20 => (simp only [List.getElem?_toArray, List.getElem?_cons_succ, List.getElem?_cons_zero]; rfl)
  case hw20 => rfl
  intro KK hKK
  go_simp
  clear hHeld
  refine hKK.out _ _ J7 (fun hHeld => ?_)
  clear hKK KK
  try simp only [Act.put, List.setIfInBounds_toArray, List.set_cons_zero, List.set_cons_succ]
  refine wpAnyK_cut (by kernel_rfl) (by simp only [List.getElem?_toArray, List.getElem?_cons_succ, List.getElem?_cons_zero]; rfl) (by kernel_rfl) (by kernel_rfl) (by rfl) ?_
  have c67 := hHeld.1
  obtain ⟨A8, n8, d8, rfl⟩ : ∃ A8 n8 d8, v' = .slice A8 n8 d8 := J0
  go_simp
  obtain ⟨k1, z1, kn1, zn1, ex1, dl1, ce1, ob1, eb1, Y1, E2, xb1, G8, F8, B8⟩ := HJ9.out
  obtain ⟨w8, e8⟩ : ∃ w8, w7.setCell ⟨F, 6, none⟩ (.slice A8 n8 d8) = w8 := ⟨_, rfl⟩
  rw [e8] at G8 F8 B8 ⊢
  clear hHeld hrun J5 J6 J7 J8 c67 e8 HJ9 CP
  obtain ⟨E3, hE3, hE4⟩ := put_ever x.t m'.E
  have c85 : w8.cell? ⟨F, 5, none⟩ = some (.map (some m'.eb)) := (G8.blk.cell 5).trans rfl
  have t8 := loadK_trB B8
  have hM8 := G8.evr
  have HM8 := Lib.hid hM8
  have HE3 := Lib.hid (And.intro hE3 hE4)
  have HG8 := Lib.hid G8
  have HB8 := Lib.hid B8
  have HX := Lib.hid (And.intro ex1 (And.intro dl1 (And.intro ce1 (And.intro kn1 zn1))))
  have HKZ := Lib.hid (And.intro k1 z1)
  have HMK : Hid (K m'.ob ∧ K m'.eb) := Lib.hid ⟨by rw [ob1]; exact H2.out.kO, by rw [eb1]; exact H2.out.kE⟩
  have HF8 := Lib.hid F8
  clear hM8 hE3 hE4 G8 B8 ex1 dl1 ce1 kn1 zn1 k1 z1 F8 ob1 eb1 Y1 E2 xb1
  have c85d : w8.drew.cell? ⟨F, 5, none⟩ = some (.map (some m'.eb)) := c85
  have t8d := loadK_trB (w := w8.drew) HB8.out
  obtain ⟨es9, n9, hrun9, hm9⟩ := run_mhPut (P := Tryz.prog) (w := w8.drew) trRun Tryz.underlying64 (HM8.out.drew) x.t true
  have hg9 := putObj_grown w8.drew m'.eb (.map es9 n9)
  obtain ⟨w9, e9⟩ : ∃ w9, putObj w8.drew m'.eb (.map es9 n9) = w9 := ⟨_, rfl⟩
  rw [e9] at hrun9 hm9 hg9
  clear e9
  rw [HE3.out.1] at hm9
  have f9 : FrK w8 w9 (Kis m'.eb) := ((FrK.refl w8 _).drew).trans (FrK.of_grown (K := Kis m'.eb) hg9 fun b _ e => (Option.some.inj e).symm) fun _ _ e => e
  have hG9 := HG8.out.ever f9 hm9 HE3.out.2
  have hB9 := f9.bk HB8.out fun e => HM8.out.neBk HB8.out e
  have c93 : w9.cell? ⟨F, 3, none⟩ = some (.map (some m'.ob)) := (hG9.blk.cell 3).trans rfl
  have t9 := loadK_trB hB9
  have HG9 := Lib.hid hG9
  have HB9 := Lib.hid hB9
  have HF9 := Lib.hid f9
  have HM9 := Lib.hid hG9.opn
  clear hm9 hg9 f9 hG9 hB9
  go_wp2_with fail
  refine wp_region_K (k := 5) (S := fun w' => w'.cell? ⟨F, 5, none⟩ = some (.map (some m'.eb)) ∧ (loadK 37 ⟨r, 0, none⟩).run Tryz.prog w' = .ok (trV x.t) w') (by kernel_rfl) ⟨c85d, t8d⟩ (fun hHeld => ?_)
  simp only [List.size_toArray, List.length_cons, List.length_nil, Nat.zero_add, Nat.reduceAdd]
  refine' wpAnyK_take (k := 5) (i := 0) ?o0 (by kernel_rfl) (by kernel_rfl) (by kernel_rfl) (by kernel_rfl) (by kernel_rfl) ?q0 hHeld ?hw0 ?hy0 ?_
  case o0 => (simp only [List.getElem?_toArray, List.getElem?_cons_succ, List.getElem?_cons_zero]; rfl)
  case q0 => exact fun _ _ _ h => h
  case hw0 => rfl
  case hy0 => (intro w hSw; (try unfold ClS at hSw); (try dsimp only at hSw); go_simp; try (with_reducible rfl))
  simp only [Act.put, List.setIfInBounds_toArray, List.set_cons_zero, List.set_cons_succ]
  refine' wpAnyK_take (k := 5) (i := 1) ?o1 (by kernel_rfl) (by kernel_rfl) (by kernel_rfl) (by kernel_rfl) (by kernel_rfl) ?q1 hHeld ?hw1 ?hy1 ?_
  case o1 => (simp only [List.getElem?_toArray, List.getElem?_cons_succ, List.getElem?_cons_zero]; rfl)
  case q1 => exact fun _ _ _ h => h
  case hw1 => rfl
  case hy1 => (intro w hSw; (try unfold ClS at hSw); (try dsimp only at hSw); go_simp; try (with_reducible rfl))
  simp only [Act.put, List.setIfInBounds_toArray, List.set_cons_zero, List.set_cons_succ]
  refine' wpAnyK_take (k := 5) (i := 2) ?o2 (by kernel_rfl) (by kernel_rfl) (by kernel_rfl) (by kernel_rfl) (by kernel_rfl) ?q2 hHeld ?hw2 ?hy2 ?_
  case o2 => (simp only [List.getElem?_toArray, List.getElem?_cons_succ, List.getElem?_cons_zero]; rfl)
  case q2 => exact fun _ _ _ h => h
  case hw2 => rfl
  case hy2 => (intro w hSw; (try unfold ClS at hSw); (try dsimp only at hSw); go_simp; try (with_reducible rfl))
  simp only [Act.put, List.setIfInBounds_toArray, List.set_cons_zero, List.set_cons_succ]
  refine' wpAnyK_take (k := 5) (i := 3) ?o3 (by kernel_rfl) (by kernel_rfl) (by kernel_rfl) (by kernel_rfl) (by kernel_rfl) ?q3 hHeld ?hw3 ?hy3 ?_
  case o3 => (simp only [List.getElem?_toArray, List.getElem?_cons_succ, List.getElem?_cons_zero]; rfl)
  case q3 => exact fun _ _ _ h => h
  case hw3 => rfl
  case hy3 => (intro w hSw; (try unfold ClS at hSw); (try dsimp only at hSw); go_simp; try (with_reducible rfl))
  simp only [Act.put, List.setIfInBounds_toArray, List.set_cons_zero, List.set_cons_succ]
  refine' wpAnyK_take (k := 5) (i := 4) ?o4 (by kernel_rfl) (by kernel_rfl) (by kernel_rfl) (by kernel_rfl) (by kernel_rfl) ?q4 hHeld ?hw4 ?hy4 ?_
  case o4 => (simp only [List.getElem?_toArray, List.getElem?_cons_succ, List.getElem?_cons_zero]; rfl)
  case q4 => exact fun _ _ _ h => h
  case hw4 => rfl
  case hy4 => (intro w hSw; (try unfold ClS at hSw); (try dsimp only at hSw); go_simp; try (with_reducible rfl))
  simp only [Act.put, List.setIfInBounds_toArray, List.set_cons_zero, List.set_cons_succ]
  refine wpAnyK_cut (by kernel_rfl) (by simp only [List.getElem?_toArray, List.getElem?_cons_succ, List.getElem?_cons_zero]; rfl) (by kernel_rfl) (by kernel_rfl) (by rfl) ?_
  clear c85 t8 c85d t8d hHeld
  go_simp
  clear hrun9
  have c93d : w9.drew.cell? ⟨F, 3, none⟩ = some (.map (some m'.ob)) := c93
  have t9d := loadK_trB (w := w9.drew) HB9.out
  obtain ⟨es10, n10, hrun10, hm10⟩ := run_mhDel (P := Tryz.prog) (w := w9.drew) trRun Tryz.underlying63 (HM9.out.drew) x.t 0
  have hg10 := putObj_grown w9.drew m'.ob (.map es10 n10)
  obtain ⟨w10, e10⟩ : ∃ w10, putObj w9.drew m'.ob (.map es10 n10) = w10 := ⟨_, rfl⟩
  rw [e10] at hrun10 hm10 hg10
  clear e10
  have f10 : FrK w9 w10 (Kis m'.ob) := ((FrK.refl w9 _).drew).trans (FrK.of_grown (K := Kis m'.ob) hg10 fun b _ e => (Option.some.inj e).symm) fun _ _ e => e
  rw [del_open] at hm10
  have hG10 := HG9.out.gone (t := x.t) (HX.out.1 ▸ hex) f10 hm10
  have c10 : w10.cell? ⟨F, 3, none⟩ = some (.map (some m'.ob)) := (hG10.blk.cell 3).trans rfl
  have t10 := loadK_trB (f10.bk HB9.out fun e => HM9.out.neBk HB9.out e)
  change (delK _ _ _).run _ _ = _ at hrun10
  have HG10 := Lib.hid hG10
  have HF10 := Lib.hid f10
  clear hm10 hg10 hG10 f10
  go_wp2_with fail
  go_region_held3 (fun w' => w'.cell? ⟨F, 3, none⟩ = some (.map (some m'.ob)) ∧ (loadK 37 ⟨r, 0, none⟩).run Tryz.prog w' = .ok (trV x.t) w')
    (first | exact ⟨c93d, t9d⟩ | exact ⟨c10, t10⟩)
    (fail)
  go_end0
  have hKO : K m'.ob := HMK.out.1
  have hKE : K m'.eb := HMK.out.2
  have hsz : w.heap.size ≤ w1.drew.heap.size := by rw [show w1.drew.heap.size = w1.heap.size from rfl, s1]; omega
  refine ⟨rfl, K', Z', { m' with Y := m'.Y.filter fun u => decide (u ≠ x.t), E := E3, ex := none }, HKZ.out.1, HKZ.out.2, fun b e => (HX.out.2.2.2.1 b e).imp id fun e => Nat.le_trans hsz e, fun b e => (HX.out.2.2.2.2 b e).imp id fun e => Nat.le_trans hsz e, rfl, HX.out.2.1, HX.out.2.2.1, HG10.out, ?_⟩
  exact ((f1.drew.trans HF8.out fun _ _ e => e).trans HF9.out fun b _ e => (show b = m'.eb from e) ▸ hKE).trans HF10.out fun b _ e => (show b = m'.ob from e) ▸ hKO
end
end Go.Proofs.YtoojpagpkbcfjaaGreat


/- Layer 20, plain: the open traces, in order; a gatherer's good states. -/
namespace Go.Proofs.YtoojpagpkbcfjaaGreat
open Go.RowKit
theorem Tr.lt_irr (a : Tr) : Tr.lt a a = false := by simp [Tr.lt]
theorem Tr.lt_tr {a b c : Tr} (h1 : Tr.lt a b = true) (h2 : Tr.lt b c = true) : Tr.lt a c = true := by
  simp only [Tr.lt, decide_eq_true_eq] at *
  omega
theorem Tr.eq_of {a b : Tr} (h1 : Tr.lt a b = false) (h2 : Tr.lt b a = false) : a = b := by
  obtain ⟨ah, al⟩ := a
  obtain ⟨bh, bl⟩ := b
  simp only [Tr.lt, decide_eq_false_iff_not] at h1 h2
  have e1 : ah = bh := by omega
  have e2 : al = bl := by omega
  rw [e1, e2]
theorem Tr.lt_of {a b : Tr} (h1 : Tr.lt a b = false) (h2 : a ≠ b) : Tr.lt b a = true := by
  cases h : Tr.lt b a with
  | true => rfl
  | false => exact absurd (Tr.eq_of h1 h) h2
def OpS (l : List Opn) : Prop := l.Pairwise fun a b => Tr.lt a.t b.t = true
theorem OpS.ne {x : Opn} {l : List Opn} (h : OpS (x :: l)) : ∀ y ∈ l, y.t ≠ x.t := fun y hy e => by
  have h1 := (List.pairwise_cons.1 h).1 y hy
  rw [e, Tr.lt_irr] at h1
  cases h1
theorem mem_putIn {x : Opn} : ∀ {l : List Opn}, OpS l → ∀ y, y ∈ GSt.putIn x l ↔ y = x ∨ (y ∈ l ∧ y.t ≠ x.t)
  | [], _, y => by simp [GSt.putIn]
  | z :: l, h, y => by
    have ih := mem_putIn (x := x) (List.pairwise_cons.1 h).2 y
    unfold GSt.putIn
    by_cases h1 : Tr.lt z.t x.t = true
    · rw [if_pos h1, List.mem_cons, ih, List.mem_cons]
      have hne : z.t ≠ x.t := fun e => by rw [e, Tr.lt_irr] at h1; cases h1
      constructor
      · rintro (rfl | rfl | ⟨h2, h3⟩)
        · exact .inr ⟨.inl rfl, hne⟩
        · exact .inl rfl
        · exact .inr ⟨.inr h2, h3⟩
      · rintro (rfl | ⟨rfl | h2, h3⟩)
        · exact .inr (.inl rfl)
        · exact .inl rfl
        · exact .inr (.inr ⟨h2, h3⟩)
    · rw [if_neg h1]
      by_cases h2 : z.t = x.t
      · rw [if_pos h2, List.mem_cons, List.mem_cons]
        constructor
        · rintro (rfl | h3)
          · exact .inl rfl
          · exact .inr ⟨.inr h3, by rw [← h2]; exact OpS.ne h y h3⟩
        · rintro (rfl | ⟨rfl | h3, h4⟩)
          · exact .inl rfl
          · exact absurd h2 h4
          · exact .inr h3
      · rw [if_neg h2, List.mem_cons]
        have h3 : Tr.lt x.t z.t = true := Tr.lt_of (by simpa using h1) h2
        constructor
        · rintro (rfl | h4)
          · exact .inl rfl
          · refine .inr ⟨h4, fun e => ?_⟩
            rcases List.mem_cons.1 h4 with rfl | h5
            · exact h2 e
            · have := Tr.lt_tr h3 ((List.pairwise_cons.1 h).1 y h5)
              rw [e, Tr.lt_irr] at this
              cases this
        · rintro (rfl | ⟨h4, -⟩)
          · exact .inl rfl
          · exact .inr h4
theorem OpS.putIn {x : Opn} : ∀ {l : List Opn}, OpS l → OpS (GSt.putIn x l)
  | [], _ => List.pairwise_singleton _ _
  | z :: l, h => by
    have ih := OpS.putIn (x := x) (List.pairwise_cons.1 h).2
    unfold GSt.putIn
    by_cases h1 : Tr.lt z.t x.t = true
    · rw [if_pos h1]
      refine List.pairwise_cons.2 ⟨fun y hy => ?_, ih⟩
      rcases (mem_putIn (List.pairwise_cons.1 h).2 y).1 hy with rfl | ⟨h2, -⟩
      · exact h1
      · exact (List.pairwise_cons.1 h).1 y h2
    · rw [if_neg h1]
      by_cases h2 : z.t = x.t
      · rw [if_pos h2]
        exact List.pairwise_cons.2 ⟨fun y hy => by rw [← h2]; exact (List.pairwise_cons.1 h).1 y hy, (List.pairwise_cons.1 h).2⟩
      · rw [if_neg h2]
        have h3 : Tr.lt x.t z.t = true := Tr.lt_of (by simpa using h1) h2
        refine List.pairwise_cons.2 ⟨fun y hy => ?_, h⟩
        rcases List.mem_cons.1 hy with rfl | hy
        · exact h3
        · exact Tr.lt_tr h3 ((List.pairwise_cons.1 h).1 y hy)
theorem OpS.delOf {t : Tr} {l : List Opn} (h : OpS l) : OpS (GSt.delOf t l) := List.Pairwise.filter _ h
theorem putIn_new {x : Opn} : ∀ {l : List Opn}, x.t ∉ l.map (·.t) → ((GSt.putIn x l).map (·.t)).Perm (l.map (·.t) ++ [x.t])
  | [], _ => List.Perm.refl _
  | z :: l, h => by
    have h1 : z.t ≠ x.t := fun e => h (by simp [e])
    have ih := putIn_new (x := x) (l := l) fun hm => h (List.mem_cons_of_mem _ hm)
    unfold GSt.putIn
    by_cases h2 : Tr.lt z.t x.t = true
    · rw [if_pos h2]
      exact ih.cons _
    · rw [if_neg h2, if_neg h1]
      exact (List.perm_append_singleton x.t ((z :: l).map (·.t))).symm
theorem putIn_old {x : Opn} : ∀ {l : List Opn}, OpS l → x.t ∈ l.map (·.t) → (GSt.putIn x l).map (·.t) = l.map (·.t)
  | [], _, h => by cases h
  | z :: l, hs, h => by
    unfold GSt.putIn
    by_cases h1 : Tr.lt z.t x.t = true
    · rw [if_pos h1, List.map_cons, putIn_old (List.pairwise_cons.1 hs).2 ?_, List.map_cons]
      rcases List.mem_cons.1 h with h2 | h2
      · rw [h2, Tr.lt_irr] at h1
        cases h1
      · exact h2
    · rw [if_neg h1]
      by_cases h2 : z.t = x.t
      · rw [if_pos h2, List.map_cons, List.map_cons, h2]
      · exfalso
        have h3 : Tr.lt x.t z.t = true := Tr.lt_of (by simpa using h1) h2
        rcases List.mem_cons.1 h with h4 | h4
        · exact h2 h4.symm
        · obtain ⟨y, hy, e⟩ := List.mem_map.1 h4
          have := Tr.lt_tr h3 ((List.pairwise_cons.1 hs).1 y hy)
          rw [e, Tr.lt_irr] at this
          cases this
theorem putIn_putIn {x y : Opn} (hxy : x.t = y.t) : ∀ l : List Opn, GSt.putIn x (GSt.putIn y l) = GSt.putIn x l
  | [] => by simp [GSt.putIn, hxy, Tr.lt_irr]
  | z :: l => by
    have ih := putIn_putIn hxy l
    by_cases h1 : Tr.lt z.t y.t = true
    · have e : GSt.putIn y (z :: l) = z :: GSt.putIn y l := by rw [GSt.putIn, if_pos h1]
      rw [e]
      simp only [GSt.putIn, hxy, h1, if_true, ih]
    · by_cases h2 : z.t = y.t
      · have e : GSt.putIn y (z :: l) = y :: l := by rw [GSt.putIn, if_neg h1, if_pos h2]
        rw [e]
        simp only [GSt.putIn, hxy, h1, h2, Tr.lt_irr, Bool.false_eq_true, if_false, if_true]
      · have e : GSt.putIn y (z :: l) = y :: z :: l := by rw [GSt.putIn, if_neg h1, if_neg h2]
        rw [e]
        simp only [GSt.putIn, hxy, h1, h2, Tr.lt_irr, Bool.false_eq_true, if_false, if_true]
theorem delOf_putIn (x : Opn) : ∀ l : List Opn, GSt.delOf x.t (GSt.putIn x l) = GSt.delOf x.t l
  | [] => by simp [GSt.putIn, GSt.delOf]
  | z :: l => by
    have ih := delOf_putIn x l
    unfold GSt.putIn
    by_cases h1 : Tr.lt z.t x.t = true
    · rw [if_pos h1]
      unfold GSt.delOf at *
      rw [List.filter_cons, List.filter_cons, ih]
    · rw [if_neg h1]
      by_cases h2 : z.t = x.t
      · rw [if_pos h2]
        unfold GSt.delOf
        simp [h2]
      · rw [if_neg h2]
        unfold GSt.delOf
        simp
/-- A function, changed at one point. -/
def upf {α : Type} (f : Tr → α) (t : Tr) (v : α) : Tr → α := fun u => if u = t then v else f u
theorem upf_self {α : Type} (f : Tr → α) (t : Tr) (v : α) : upf f t v t = v := if_pos rfl
theorem upf_ne {α : Type} (f : Tr → α) {t u : Tr} (v : α) (h : u ≠ t) : upf f t v u = f u := if_neg h
theorem put_open {t : Tr} {g : Nat} {xb : Tr → Nat} {Y : List Tr} (h : t ∉ Y) : mgPut t g (Y.map fun u => (u, xb u)) = (Y ++ [t]).map fun u => (u, upf xb t g u) := by
  rw [mgPut_new (by rw [List.map_map]; simpa using h), List.map_append]
  congr 1
  · refine List.map_congr_left fun u hu => ?_
    rw [upf_ne _ _ (fun e : u = t => h (e ▸ hu))]
  · simp [upf_self]
section
variable {base F : Nat} {w w' : World} {K K' Z Z' : Nat → Prop} {G : GSt} {m : GMem}
theorem Gf.ne_row (h : Gf base w K Z F G m) {x : Opn} (hx : x ∈ G.op) {g : Nat} (hg : (m.xv x.t).ownBlock = some g) : ∃ cur, Bk w g 40 cur := own_bk (h.xro x hx) hg
/-- A trace is opened. -/
theorem Gf.opened (h : Gf base w K Z F G m) (hs : OpS G.op) {t : Tr} (ht : t ∉ G.op.map (·.t)) {g : Nat} (hgl : w.heap.size ≤ g) (hB : Bk w' g 85 #[.slice none 0 0, .int .i64 0]) (hf : FrK w w' (Kis m.ob))
    (hM : Mh trV ptV w' m.ob ((m.Y ++ [t]).map fun u => (u, upf m.xb t g u))) (hex : m.ex = none) :
    Gf base w' (fun b => K b ∨ b = g) Z F { G with op := GSt.putIn ⟨t, [], 0⟩ G.op } { m with Y := m.Y ++ [t], xb := upf m.xb t g, xv := upf m.xv t (.slice none 0 0), xe := upf m.xe t [], ex := some t } := by
  have hbk : ∀ {b : Nat} {t : TypeId} {cs : Array Value}, Bk w b t cs → w'.heap[b]? = w.heap[b]? := fun {b t cs} hb => hf.block b hb.lt (h.opn.neBk hb)
  have hzz : ∀ b, Z b → w'.heap[b]? = w.heap[b]? := fun b hb => hf.block b (h.loZ b hb) fun e => h.kz m.ob h.kO ((show b = m.ob from e) ▸ hb)
  have hkl : ∀ b, K b → b ≠ g := fun b hb => by
    have := (h.lo b hb).2
    omega
  have hm := mem_putIn (x := ⟨t, [], 0⟩) hs
  have hcase : ∀ x, x ∈ GSt.putIn ⟨t, [], 0⟩ G.op → x = ⟨t, [], 0⟩ ∨ (x ∈ G.op ∧ x.t ≠ t) := fun x hx => (hm x).1 hx
  exact { h with
          blk := (hbk h.blk).trans h.blk
          opn := hM
          opnP := (h.opnP.append_right [t]).trans (putIn_new (x := ⟨t, [], 0⟩) ht).symm
          xfl := fun x hx => by
            rcases hcase x hx with rfl | ⟨h1, h2⟩
            · show Bk w' (upf m.xb t g t) _ #[upf m.xv t _ t, _]
              rw [upf_self, upf_self]
              exact hB
            · show Bk w' (upf m.xb t g x.t) _ #[upf m.xv t _ x.t, _]
              rw [upf_ne _ _ h2, upf_ne _ _ h2]
              exact (hbk (h.xfl x h1)).trans (h.xfl x h1)
          xro := fun x hx => by
            rcases hcase x hx with rfl | ⟨h1, h2⟩
            · show w'.ownsRow base _ 11 (upf m.xv t _ t) _ (els (upf m.xe t [] t))
              rw [upf_self, upf_self]
              exact World.ownsRow_nil _ _ _ _
            · show w'.ownsRow base _ 11 (upf m.xv t _ x.t) _ (els (upf m.xe t [] x.t))
              rw [upf_ne _ _ h2, upf_ne _ _ h2]
              exact own_of (h.xro x h1) fun g e => by
                obtain ⟨cur, hcur⟩ := own_bk (h.xro x h1) e
                exact hbk hcur
          xsp := fun x hx => by
            rcases hcase x hx with rfl | ⟨h1, h2⟩
            · show sps (upf m.xe t [] t) = _
              rw [upf_self]
              rfl
            · show sps (upf m.xe t [] x.t) = _
              rw [upf_ne _ _ h2]
              exact h.xsp x h1
          xel := fun x hx e he => by
            rcases hcase x hx with rfl | ⟨h1, h2⟩
            · rw [show ({ m with Y := m.Y ++ [t], xb := upf m.xb t g, xv := upf m.xv t (.slice none 0 0), xe := upf m.xe t [], ex := some t } : GMem).xe t = upf m.xe t [] t from rfl, upf_self] at he
              cases he
            · rw [show ({ m with Y := m.Y ++ [t], xb := upf m.xb t g, xv := upf m.xv t (.slice none 0 0), xe := upf m.xe t [], ex := some t } : GMem).xe x.t = upf m.xe t [] x.t from rfl, upf_ne _ _ h2] at he
              exact (h.xel x h1 e he).keep hzz hf.size fun _ e => e
          xinj := fun x hx y hy e => by
            have e : upf m.xb t g x.t = upf m.xb t g y.t := e
            rcases hcase x hx with rfl | ⟨h1, h2⟩
            · rcases hcase y hy with rfl | ⟨h3, h4⟩
              · rfl
              · rw [upf_self, upf_ne _ _ h4] at e
                exact absurd e.symm (hkl _ (h.kX y h3))
            · rcases hcase y hy with rfl | ⟨h3, h4⟩
              · rw [upf_self, upf_ne _ _ h2] at e
                exact absurd e (hkl _ (h.kX x h1))
              · rw [upf_ne _ _ h2, upf_ne _ _ h4] at e
                exact h.xinj x h1 y h3 e
          rinj := fun x hx y hy b e1 e2 => by
            have e1 : (upf m.xv t (.slice none 0 0) x.t).ownBlock = some b := e1
            have e2 : (upf m.xv t (.slice none 0 0) y.t).ownBlock = some b := e2
            rcases hcase x hx with rfl | ⟨h1, h2⟩
            · rw [upf_self] at e1
              cases e1
            · rcases hcase y hy with rfl | ⟨h3, h4⟩
              · rw [upf_self] at e2
                cases e2
              · rw [upf_ne _ _ h2] at e1
                rw [upf_ne _ _ h4] at e2
                exact h.rinj x h1 y h3 b e1 e2
          evr := h.evr.of (hf.block _ h.evr.lt fun e => h.neE (show m.eb = m.ob from e).symm)
          tur := own_of h.tur fun g e => by
            obtain ⟨cur, hcur⟩ := own_bk h.tur e
            exact hbk hcur
          hin := fun x hx hne => by
            rcases hcase x hx with rfl | ⟨h1, h2⟩
            · exact absurd rfl hne
            · exact h.hin x h1 (by rw [hex]; intro e; cases e)
          cls := h.cls.keep fun g e => by
            obtain ⟨cur, hc⟩ := ClQ.blk h.cls e
            exact hbk hc
          clz := fun x hx => (h.clz x hx).keep hzz hf.size fun _ e => e
          kF := .inl h.kF
          kO := .inl h.kO
          kE := .inl h.kE
          kT := fun b e => .inl (h.kT b e)
          kC := fun b e => .inl (h.kC b e)
          kX := fun x hx => by
            rcases hcase x hx with rfl | ⟨h1, h2⟩
            · exact .inr (upf_self _ _ _)
            · exact .inl (by
                show K (upf m.xb t g x.t)
                rw [upf_ne _ _ h2]
                exact h.kX x h1)
          kR := fun x hx b e => by
            have e : (upf m.xv t (.slice none 0 0) x.t).ownBlock = some b := e
            rcases hcase x hx with rfl | ⟨h1, h2⟩
            · rw [upf_self] at e
              cases e
            · rw [upf_ne _ _ h2] at e
              exact .inl (h.kR x h1 b e)
          kz := fun b hb hz => by
            rcases hb with hb | hb
            · exact h.kz b hb hz
            · have := h.loZ b hz
              omega
          lo := fun b hb => by
            rcases hb with hb | hb
            · exact ⟨(h.lo b hb).1, Nat.lt_of_lt_of_le (h.lo b hb).2 hf.size⟩
            · rw [hb]
              exact ⟨Nat.le_trans h.baseLe hgl, hB.lt⟩
          loZ := fun b e => Nat.lt_of_lt_of_le (h.loZ b e) hf.size }
/-- A span is put into an open trace. -/
theorem Gf.put (h : Gf base w K Z F G m) (hs : OpS G.op) {x : Opn} (hx : x ∈ G.op) {v' : Value} {e : El} {time : Int} (hf : FrK w w' fun b => b = m.xb x.t ∨ (m.xv x.t).ownBlock = some b)
    (hB : Bk w' (m.xb x.t) 85 #[v', .int .i64 time]) (hR : w'.ownsRow base 40 11 v' (x.l.length + 1) (els (m.xe x.t ++ [e]))) (he : ElZ w' Z' e)
    (hob : ∀ b, v'.ownBlock = some b → (m.xv x.t).ownBlock = some b ∨ w.heap.size ≤ b) (hk : ∀ b, K b → K' b) (hz : ∀ b, Z b → Z' b) (hko : ∀ b, v'.ownBlock = some b → K' b) (hkz : ∀ b, K' b → ¬Z' b) (hlo : ∀ b, K' b → base ≤ b ∧ b < w'.heap.size) (hloZ : ∀ b, Z' b → b < w'.heap.size)
    (hex : m.ex = none ∨ m.ex = some x.t) :
    Gf base w' K' Z' F { G with op := GSt.putIn ⟨x.t, x.l ++ [e.s], time⟩ G.op } { m with xv := upf m.xv x.t v', xe := upf m.xe x.t (m.xe x.t ++ [e]), ex := some x.t } := by
  have hbk : ∀ {b : Nat} {t : TypeId} {cs : Array Value}, Bk w b t cs → t ≠ 85 → t ≠ 40 → w'.heap[b]? = w.heap[b]? := fun {b t cs} hb h1 h2 => hf.block b hb.lt (by
    rintro (e | e)
    · exact ne_of_type hb (h.xfl x hx) h1 e
    · obtain ⟨cur, hc⟩ := h.ne_row hx e
      exact ne_of_type hb hc h2 rfl)
  have hmp : ∀ {κ ν : Type} {kv : κ → Value} {vv : ν → Value} {b : Nat} {L : List (κ × ν)}, Mh kv vv w b L → w'.heap[b]? = w.heap[b]? := fun {κ ν kv vv b L} hM => hf.block b hM.lt (by
    rintro (e | e)
    · exact hM.neBk (h.xfl x hx) e.symm
    · obtain ⟨cur, hc⟩ := h.ne_row hx e
      exact hM.neBk hc rfl)
  have hzz : ∀ b, Z b → w'.heap[b]? = w.heap[b]? := fun b hb => hf.block b (h.loZ b hb) (by
    rintro (e | e)
    · exact h.kz _ (h.kX x hx) (e ▸ hb)
    · exact h.kz b (h.kR x hx b e) hb)
  have hm := mem_putIn (x := ⟨x.t, x.l ++ [e.s], time⟩) hs
  have hcase : ∀ y, y ∈ GSt.putIn ⟨x.t, x.l ++ [e.s], time⟩ G.op → y = ⟨x.t, x.l ++ [e.s], time⟩ ∨ (y ∈ G.op ∧ y.t ≠ x.t) := fun y hy => (hm y).1 hy
  have hxf : ∀ y ∈ G.op, y.t ≠ x.t → w'.heap[m.xb y.t]? = w.heap[m.xb y.t]? := fun y hy hne => hf.block _ (h.xfl y hy).lt (by
    rintro (e | e)
    · exact hne (h.xinj y hy x hx e)
    · obtain ⟨cur, hc⟩ := h.ne_row hx e
      exact ne_of_type (h.xfl y hy) hc (by decide) rfl)
  have hrow : ∀ y ∈ G.op, y.t ≠ x.t → ∀ g, (m.xv y.t).ownBlock = some g → w'.heap[g]? = w.heap[g]? := fun y hy hne g hg => by
    obtain ⟨cur, hc⟩ := h.ne_row hy hg
    refine hf.block _ hc.lt (by
      rintro (e | e)
      · exact ne_of_type hc (h.xfl x hx) (by decide) e
      · exact hne (h.rinj y hy x hx g hg e))
  have hlen : (m.xe x.t).length = x.l.length := by rw [← h.xsp x hx, sps_length]
  exact { blk := (hbk h.blk (by decide) (by decide)).trans h.blk
          opn := h.opn.of (hmp h.opn)
          opnP := by
            have e1 : (GSt.putIn ⟨x.t, x.l ++ [e.s], time⟩ G.op).map (·.t) = G.op.map (·.t) := putIn_old hs (List.mem_map.2 ⟨x, hx, rfl⟩)
            show m.Y.Perm ((GSt.putIn ⟨x.t, x.l ++ [e.s], time⟩ G.op).map (·.t))
            rw [e1]
            exact h.opnP
          xfl := fun y hy => by
            rcases hcase y hy with rfl | ⟨h1, h2⟩
            · show Bk w' (m.xb x.t) _ #[upf m.xv x.t v' x.t, _]
              rw [upf_self]
              exact hB
            · show Bk w' (m.xb y.t) _ #[upf m.xv x.t v' y.t, _]
              rw [upf_ne _ _ h2]
              exact (hxf y h1 h2).trans (h.xfl y h1)
          xro := fun y hy => by
            rcases hcase y hy with rfl | ⟨h1, h2⟩
            · show w'.ownsRow base _ 11 (upf m.xv x.t v' x.t) (x.l ++ [e.s]).length (els (upf m.xe x.t _ x.t))
              rw [upf_self, upf_self, List.length_append, List.length_singleton]
              exact hR
            · show w'.ownsRow base _ 11 (upf m.xv x.t v' y.t) _ (els (upf m.xe x.t _ y.t))
              rw [upf_ne _ _ h2, upf_ne _ _ h2]
              exact own_of (h.xro y h1) fun g e => hrow y h1 h2 g e
          xsp := fun y hy => by
            rcases hcase y hy with rfl | ⟨h1, h2⟩
            · show sps (upf m.xe x.t _ x.t) = _
              rw [upf_self]
              unfold sps
              rw [List.map_append]
              have := h.xsp x hx
              unfold sps at this
              rw [this]
              rfl
            · show sps (upf m.xe x.t _ y.t) = _
              rw [upf_ne _ _ h2]
              exact h.xsp y h1
          xel := fun y hy e' he' => by
            rcases hcase y hy with rfl | ⟨h1, h2⟩
            · have he' : e' ∈ upf m.xe x.t (m.xe x.t ++ [e]) x.t := he'
              rw [upf_self] at he'
              rcases List.mem_append.1 he' with h3 | h3
              · exact (h.xel x hx e' h3).keep hzz hf.size hz
              · rw [List.mem_singleton.1 h3]
                exact he
            · have he' : e' ∈ upf m.xe x.t (m.xe x.t ++ [e]) y.t := he'
              rw [upf_ne _ _ h2] at he'
              exact (h.xel y h1 e' he').keep hzz hf.size hz
          xinj := fun y hy z hz' e1 => by
            have e1 : m.xb y.t = m.xb z.t := e1
            rcases hcase y hy with rfl | ⟨h1, h2⟩
            · rcases hcase z hz' with rfl | ⟨h3, h4⟩
              · rfl
              · exact h.xinj x hx z h3 e1
            · rcases hcase z hz' with rfl | ⟨h3, h4⟩
              · exact h.xinj y h1 x hx e1
              · exact h.xinj y h1 z h3 e1
          rinj := fun y hy z hz' b e1 e2 => by
            have e1 : (upf m.xv x.t v' y.t).ownBlock = some b := e1
            have e2 : (upf m.xv x.t v' z.t).ownBlock = some b := e2
            have hnew : ∀ u ∈ G.op, u.t ≠ x.t → v'.ownBlock = some b → (m.xv u.t).ownBlock = some b → False := fun u hu hne h5 h6 => by
              rcases hob b h5 with h7 | h7
              · exact hne (h.rinj u hu x hx b h6 h7)
              · obtain ⟨cur, hc⟩ := h.ne_row hu h6
                have := hc.lt
                omega
            rcases hcase y hy with rfl | ⟨h1, h2⟩
            · rcases hcase z hz' with rfl | ⟨h3, h4⟩
              · rfl
              · rw [upf_self] at e1
                rw [upf_ne _ _ h4] at e2
                exact (hnew z h3 h4 e1 e2).elim
            · rcases hcase z hz' with rfl | ⟨h3, h4⟩
              · rw [upf_ne _ _ h2] at e1
                rw [upf_self] at e2
                exact (hnew y h1 h2 e2 e1).elim
              · rw [upf_ne _ _ h2] at e1
                rw [upf_ne _ _ h4] at e2
                exact h.rinj y h1 z h3 b e1 e2
          evr := h.evr.of (hmp h.evr)
          evrM := h.evrM
          tur := own_of h.tur fun g e => by
            obtain ⟨cur, hcur⟩ := own_bk h.tur e
            exact hbk hcur (by decide) (by decide)
          hp := h.hp
          hin := fun y hy hne => by
            rcases hcase y hy with rfl | ⟨h1, h2⟩
            · exact absurd rfl hne
            · refine h.hin y h1 fun e => ?_
              rcases hex with h3 | h3
              · rw [h3] at e
                cases e
              · rw [h3] at e
                injection e with e
                exact h2 e.symm
          cls := h.cls.keep fun g e => by
            obtain ⟨cur, hc⟩ := ClQ.blk h.cls e
            exact hbk hc (by decide) (by decide)
          clsE := h.clsE
          clz := fun y hy => (h.clz y hy).keep hzz hf.size hz
          neE := h.neE
          kF := hk _ h.kF
          kO := hk _ h.kO
          kE := hk _ h.kE
          kT := fun b e => hk _ (h.kT b e)
          kC := fun b e => hk _ (h.kC b e)
          kX := fun y hy => by
            rcases hcase y hy with rfl | ⟨h1, h2⟩
            · exact hk _ (h.kX x hx)
            · exact hk _ (h.kX y h1)
          kR := fun y hy b e => by
            have e : (upf m.xv x.t v' y.t).ownBlock = some b := e
            rcases hcase y hy with rfl | ⟨h1, h2⟩
            · rw [upf_self] at e
              exact hko b e
            · rw [upf_ne _ _ h2] at e
              exact hk _ (h.kR y h1 b e)
          kz := hkz
          lo := hlo
          loZ := hloZ }
end
end Go.Proofs.YtoojpagpkbcfjaaGreat


/- Layer 20: Add (printed by tools/genGaR.py out of tools/genGaT.txt). -/
namespace Go.Proofs.YtoojpagpkbcfjaaGreat
open Go.RowKit
theorem loadSp_shut (a : Addr) : loadVar 40 a = loadK 40 a := rfl
attribute [local go_sem ↓] loadTr_shut loadSp_shut appKG_shut
set_option maxRecDepth 100000 in
theorem loadK_trS {w : World} {g n c : Nat} {s : Sp} {A : Option Addr} (h : Bk w g 40 (spC s A n c)) : (loadK 37 ⟨g, 0, none⟩).run Tryz.prog w = .ok (trV s.tr) w := by
  have := run_loadVar_cells (P := Tryz.prog) w 37 _ ⟨g, 0, none⟩ [.int .u64 (s.hi : Nat), .int .u64 (s.lo : Nat)] Tryz.underlying37 rfl (by rfl) (fun j v hj => by
    rw [Addr.add_lit, Nat.zero_add, h.cell j]
    match j, hj with
    | 0, hj => exact hj
    | 1, hj => exact hj)
  exact this
section
variable {base F : Nat} {w w' : World} {K K' Z Z' : Nat → Prop} {G : GSt} {m : GMem}
/-- What Add's region reads. -/
def AdS (F r g : Nat) (v : Value) (s : Sp) (A : Option Addr) (n c : Nat) (now : Int) (w : World) : Prop :=
  w.cell? ⟨g, 0, none⟩ = some v ∧ (loadK 40 ⟨r, 0, none⟩).run Tryz.prog w = .ok (spV s A n c) w ∧ w.cell? ⟨F, 2, none⟩ = some (.int .i64 now)
theorem Gf.adS (h : Gf base w K Z F G m) {x : Opn} (hx : x ∈ G.op) {r : Nat} {s : Sp} {A : Option Addr} {n c : Nat} (hr : Bk w r 40 (spC s A n c)) (hkr : ¬K r) (hf : FrK w w' fun b => (m.xv x.t).ownBlock = some b) : AdS F r (m.xb x.t) (m.xv x.t) s A n c G.now w' := by
  have hbk : ∀ {b : Nat} {t : TypeId} {cs : Array Value}, Bk w b t cs → t ≠ 40 → Bk w' b t cs := fun {b t cs} hb h1 => hf.bk hb fun e => by
    obtain ⟨cur, hc⟩ := h.ne_row hx e
    exact ne_of_type hb hc h1 rfl
  exact ⟨((hbk (h.xfl x hx) (by decide)).cell 0).trans rfl, loadK_sp (hf.bk hr fun e => hkr (h.kR x hx r e)), ((hbk h.blk (by decide)).cell 2).trans rfl⟩
/-- What the append of Add's region and its stores come to. -/
def AdJ (base : Nat) (w2 w5 : World) (K Z : Nat → Prop) (F r : Nat) (G : GSt) (m : GMem) (x : Opn) (s : Sp) (A : Option Addr) (n c : Nat) (A' : Option Addr) (c' : Nat) (v' : Value) (w7 : World) : Prop :=
  (appKG #[45, 45] 45 #[m.xv x.t, .slice (some ⟨w5.heap.size, 0, none⟩) 1 1]).run Tryz.prog (w5.alloc (.cells (spC s A' n c') 40)) = .ok v' w7 ∧
  AdS F r (m.xb x.t) (m.xv x.t) s A n c G.now w5 ∧ AdS F r (m.xb x.t) (m.xv x.t) s A n c G.now (w5.alloc (.cells (spC s A' n c') 40)) ∧ AdS F r (m.xb x.t) (m.xv x.t) s A n c G.now w7 ∧
  w7.frozen? ⟨m.xb x.t, 0, none⟩ = false ∧ (w7.setCell ⟨m.xb x.t, 0, none⟩ v').cell? ⟨m.xb x.t, 1, none⟩ = some (.int .i64 x.time) ∧ (w7.setCell ⟨m.xb x.t, 0, none⟩ v').frozen? ⟨m.xb x.t, 1, none⟩ = false ∧ (∃ A8 d8, v' = .slice A8 (x.l.length + 1) d8) ∧
  ∃ K' Z' m', (∀ b, K b → K' b) ∧ (∀ b, Z b → Z' b) ∧ (∀ b, K' b → K b ∨ w2.heap.size ≤ b) ∧ (∀ b, Z' b → Z b ∨ w2.heap.size ≤ b) ∧ m'.ex = some x.t ∧ m'.dl = m.dl ∧ m'.ce = m.ce ∧ m'.tv = m.tv ∧ m'.xb = m.xb ∧ m'.xv x.t = v' ∧
    Gf base ((w7.setCell ⟨m.xb x.t, 0, none⟩ v').setCell ⟨m.xb x.t, 1, none⟩ (.int .i64 G.now)) K' Z' F { G with op := GSt.putIn ⟨x.t, x.l ++ [s], G.now⟩ G.op } m' ∧ FrK w2 ((w7.setCell ⟨m.xb x.t, 0, none⟩ v').setCell ⟨m.xb x.t, 1, none⟩ (.int .i64 G.now)) K ∧
    Bk ((w7.setCell ⟨m.xb x.t, 0, none⟩ v').setCell ⟨m.xb x.t, 1, none⟩ (.int .i64 G.now)) r 40 (spC s A n c) ∧ ¬K' r
theorem Gf.adJ {w2 w5 : World} (h2 : Gf base w2 K Z F G m) (hs : OpS G.op) {x : Opn} (hx : x ∈ G.op) (hex : m.ex = none ∨ m.ex = some x.t) {r : Nat} {s : Sp} {A : Option Addr} {n c : Nat} (b2 : Bk w2 r 40 (spC s A n c)) (hkr : ¬K r) (hxl : x.l.length ≤ 1000000)
    {A' : Option Addr} {c' : Nat} (hr5 : RbT w5 w5.heap.size A' s.tags) (hb5 : Below w2.heap.size w2 w5) (hlo : ∀ a, A' = some a → w2.heap.size ≤ a.block) (hn : s.tags.length = n) (hnl : n ≤ 9223372036854775807) : ∃ v' w7, AdJ base w2 w5 K Z F r G m x s A n c A' c' v' w7 := by
  have h5 := h2.below hb5
  have b5 := b2.below hb5 b2.lt
  have h6 := h5.below ((Below.refl _ w5).alloc (Nat.le_refl _) (.cells (spC s A' n c') 40))
  have b6 := b5.alloc (.cells (spC s A' n c') 40)
  have rd6 := Rd.lit w5 (spC s A' n c') 40
  have hf6 : FrK w5 (w5.alloc (.cells (spC s A' n c') 40)) (fun b => b = m.xb x.t ∨ (m.xv x.t).ownBlock = some b) := (FrK.refl w5 _).alloc _
  have hz6 : w5.heap.size ≤ (w5.alloc (.cells (spC s A' n c') 40)).heap.size := by simp
  have hs6 : (w5.alloc (.cells (spC s A' n c') 40)).heap.size = w5.heap.size + 1 := by simp
  unfold AdJ
  obtain ⟨w6, e6⟩ : ∃ w6, w5.alloc (.cells (spC s A' n c') 40) = w6 := ⟨_, rfl⟩
  rw [e6] at h6 b6 rd6 hf6 hz6 hs6 ⊢
  obtain ⟨i0, hi0, hi1, hi2, hi3⟩ := info_parts spinfo
  have hlen : (m.xe x.t).length = x.l.length := by rw [← h6.xsp x hx, sps_length]
  obtain ⟨v', w7, hrun, hown7, gr7, ob7, ⟨A8, d8, hv8⟩, -⟩ := run_app (P := Tryz.prog) w6 base 45 45 40 i0 _ 11 120 Tryz.underlying45 hi0 hi1 hi2 hi3 rfl (by omega) (m.xv x.t) x.l.length (els (m.xe x.t)) (h6.xro x hx) (w5.heap.size + 1) (some ⟨w5.heap.size, 0, none⟩) 1 1 (els [⟨s, A', n, c'⟩]) (by rw [els_length]; rfl) (by
    have e1 : els [⟨s, A', n, c'⟩] = (spC s A' n c').toList := by simp [els, elC]
    rw [e1]
    exact rd6) (els_one _) (by simp only [maxLen]; omega) (by omega) h6.baseLe
  have hf7 : FrK w6 w7 fun b => (m.xv x.t).ownBlock = some b := FrK.of_grown gr7 fun b _ e => e
  have hxB6 := h6.xfl x hx
  have hxc : (m.xv x.t).ownBlock ≠ some (m.xb x.t) := fun e => by
    obtain ⟨cur, hc⟩ := h6.ne_row hx e
    exact ne_of_type hc hxB6 (by decide) rfl
  have hrc : (m.xv x.t).ownBlock ≠ some r := fun e => hkr (h2.kR x hx r e)
  have hxB7 := hf7.bk hxB6 hxc
  have b7 := hf7.bk b6 hrc
  have hxB8 := hxB7.set 0 v'
  have hxB9 := hxB8.set 1 (.int .i64 G.now)
  have hrx : r ≠ m.xb x.t := ne_of_type b7 hxB7 (by decide)
  have hf8 := FrK.set w7 (m.xb x.t) 0 v'
  have hf9 := FrK.set (w7.setCell ⟨m.xb x.t, 0, none⟩ v') (m.xb x.t) 1 (.int .i64 G.now)
  have b8 := hf8.bk b7 hrx
  have b9 := hf9.bk b8 hrx
  have hf79 : FrK w7 ((w7.setCell ⟨m.xb x.t, 0, none⟩ v').setCell ⟨m.xb x.t, 1, none⟩ (.int .i64 G.now)) (Kis (m.xb x.t)) := hf8.trans hf9 fun _ _ e => e
  have hf59 : FrK w5 ((w7.setCell ⟨m.xb x.t, 0, none⟩ v').setCell ⟨m.xb x.t, 1, none⟩ (.int .i64 G.now)) fun b => b = m.xb x.t ∨ (m.xv x.t).ownBlock = some b := (hf6.trans hf7 fun b _ e => .inr e).trans hf79 fun b _ e => .inl e
  have hv'x : v'.ownBlock ≠ some (m.xb x.t) := fun e => by
    obtain ⟨cur, hc⟩ := own_bk hown7 e
    exact ne_of_type hc hxB7 (by decide) rfl
  have hown9 := own_of (w' := (w7.setCell ⟨m.xb x.t, 0, none⟩ v').setCell ⟨m.xb x.t, 1, none⟩ (.int .i64 G.now)) hown7 fun g e => hf79.block g (by
    obtain ⟨cur, hc⟩ := own_bk hown7 e
    exact hc.lt) fun e2 => hv'x ((show g = m.xb x.t from e2) ▸ e)
  rw [← els_append] at hown9
  have hkz5 : ∀ b, K b → b < w2.heap.size := fun b hb => (h2.lo b hb).2
  have hs25 := hb5.size
  have hel5 : ElZ w5 (fun b => Z b ∨ (w2.heap.size ≤ b ∧ b < w5.heap.size)) ⟨s, A', n, c'⟩ := ⟨⟨hr5, hn, hnl⟩, fun hne a ha => .inr ⟨hlo a ha, by
    have hne : s.tags ≠ [] := hne
    obtain ⟨b, o, hA, hlt, -⟩ := hr5 (by intro e0; have := tgs_length s.tags; rw [e0] at this; exact hne (List.eq_nil_of_length_eq_zero (by simp at this; omega)))
    have ha' : A' = some a := ha
    rw [ha'] at hA
    cases hA
    exact hlt⟩⟩
  have hel9 := hel5.keep (w' := (w7.setCell ⟨m.xb x.t, 0, none⟩ v').setCell ⟨m.xb x.t, 1, none⟩ (.int .i64 G.now)) (Z' := fun b => Z b ∨ (w2.heap.size ≤ b ∧ b < w5.heap.size)) (fun b hb => hf59.block b (hb.elim (fun e => Nat.lt_of_lt_of_le (h2.loZ b e) hb5.size) (fun e => e.2)) fun e => by
    have hKb : K b := e.elim (fun e => e ▸ h2.kX x hx) (h2.kR x hx b)
    rcases hb with hb | hb
    · exact h2.kz b hKb hb
    · have := hkz5 b hKb
      omega) hf59.size fun _ e => e
  have hlt9 : ∀ g, v'.ownBlock = some g → g < ((w7.setCell ⟨m.xb x.t, 0, none⟩ v').setCell ⟨m.xb x.t, 1, none⟩ (.int .i64 G.now)).heap.size ∧ (K g ∨ w6.heap.size ≤ g) := fun g e => by
    obtain ⟨cur, hc⟩ := own_bk hown9 e
    refine ⟨hc.lt, ?_⟩
    rcases ob7 with e2 | e2
    · exact .inl (h2.kR x hx g (by rw [← e2]; exact e))
    · rw [e2] at e
      cases e
      exact .inr (Nat.le_refl _)
  have hG9 := Gf.put (K' := fun b => K b ∨ v'.ownBlock = some b) (time := G.now) h5 hs hx hf59 (by
    have e1 : ((#[m.xv x.t, .int .i64 x.time] : Array Value).setIfInBounds 0 v').setIfInBounds 1 (.int .i64 G.now) = #[v', .int .i64 G.now] := by simp
    rw [e1] at hxB9
    exact hxB9) hown9 hel9 (fun b e => by
    rcases ob7 with e2 | e2
    · exact .inl (by rw [← e2]; exact e)
    · rw [e2] at e
      cases e
      exact .inr (by omega)) (fun _ e => .inl e) (fun _ e => .inl e) (fun g e => .inr e) (fun b hb hzb => by
    rcases hb with hb | hb
    · rcases hzb with hz | hz
      · exact h2.kz b hb hz
      · have := hkz5 b hb
        omega
    · rcases (hlt9 b hb).2 with hk | hk
      · rcases hzb with hz | hz
        · exact h2.kz b hk hz
        · have := hkz5 b hk
          omega
      · rcases hzb with hz | hz
        · have := h2.loZ b hz
          omega
        · omega) (fun b hb => by
    rcases hb with hb | hb
    · exact ⟨(h2.lo b hb).1, Nat.lt_of_lt_of_le (h5.lo b hb).2 hf59.size⟩
    · refine ⟨?_, (hlt9 b hb).1⟩
      rcases (hlt9 b hb).2 with hk | hk
      · exact (h2.lo b hk).1
      · have := h2.baseLe
        omega) (fun b hb => by
    rcases hb with hb | hb
    · exact Nat.lt_of_lt_of_le (h5.loZ b hb) hf59.size
    · exact Nat.lt_of_lt_of_le hb.2 hf59.size) hex
  have hrlt := b2.lt
  refine ⟨v', w7, hrun, h5.adS hx b5 hkr (FrK.refl _ _), h6.adS hx b6 hkr (FrK.refl _ _), h6.adS hx b6 hkr hf7, hxB7.frozen 0, (hxB8.cell 1).trans rfl, hxB8.frozen 1, ⟨A8, d8, hv8⟩, fun b => K b ∨ v'.ownBlock = some b, fun b => Z b ∨ (w2.heap.size ≤ b ∧ b < w5.heap.size), { m with xv := upf m.xv x.t v', xe := upf m.xe x.t (m.xe x.t ++ [⟨s, A', n, c'⟩]), ex := some x.t }, fun _ e => .inl e, fun _ e => .inl e, fun b hb => ?_, fun b hb => hb.imp id fun e => e.1, rfl, rfl, rfl, rfl, rfl, upf_self _ _ _, hG9, ?_, b9, ?_⟩
  · rcases hb with hb | hb
    · exact .inl hb
    · exact (hlt9 b hb).2.imp id fun e => by omega
  · exact (FrK.of_below hb5 (Nat.le_refl _) K).trans hf59 fun b _ e => e.elim (fun e => e ▸ h2.kX x hx) (h2.kR x hx b)
  · rintro (e | e)
    · exact hkr e
    · rcases (hlt9 r e).2 with hk | hk
      · exact hkr hk
      · omega
end
end Go.Proofs.YtoojpagpkbcfjaaGreat

