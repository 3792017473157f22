/- Keys: the document's parts. -/
import Derived.Test.YtlamebbolioljaaScC
namespace Go.Proofs.Ytlamebbolioljaa
open Go.RowKit

theorem scintinfo : (Try.prog.info? 3).map (fun i => (i.zero, i.size, i.bytes)) = some (some (.int .i64 0), 1, 8) := by kernel_rfl
theorem iv_append (a b : List Int) : iv (a ++ b) = iv a ++ iv b := by simp [iv]
theorem iv_one (zs : List Int) : ∀ u ∈ iv zs, u.oneCell' = true := by
  intro u hu
  obtain ⟨x, _, rfl⟩ := List.mem_map.1 hu
  rfl
/-- append of ints onto a row of the call's own. -/
theorem wpList_appI (w : World) {ops : Array Oper} {rest : List Oper} {o : Oper} {a : Act} {Q : Exit → Act → World → Prop} (hgd : o.guard = none) (s x : Operand)
    (ho : o.op = .call { callee := .builtin .append, args := #[s, x], argTypes := #[64, 64] })
    (base : Nat) (v : Value) (n : Nat) (xs : List Int) (hs : a.eval s = v) (hown : w.ownsRow base 3 1 v n (iv xs))
    (B : Nat) (A : Option Addr) (m c : Nat) (news : List Int) (hx : a.eval x = .slice A m c) (hl : news.length = m) (hr : Rd w B A (iv news))
    (hbytes : (n + m) * 8 ≤ 140737488355328) (hbase : base ≤ w.heap.size)
    (h : ∀ A' c' w', App base 3 1 w v w' (.slice A' (n + m) c') (n + m) (iv (xs ++ news)) → wpList Try.prog ops Q rest (a.put o.dst (.slice A' (n + m) c')) w') : wpList Try.prog ops Q (o :: rest) a w := by
  obtain ⟨i0, hi0, hz0, hz1, hz2⟩ := info_parts scintinfo
  refine wpList_app w hgd s x _ ho base 3 i0 _ 1 8 Try.underlying64 hi0 hz0 hz1 hz2 rfl (by omega) v n (iv xs) hs hown B A m c (iv news) hx (by rw [iv_length]; omega) hr (iv_one news) (by simp only [maxLen]; omega) hbytes hbase ?_
  intro A' c' w' h1 h2 h3 h4
  rw [← iv_append] at h1
  exact h A' c' w' ((App.refl hown).step h1 h2 h3)
/-- The document's numbers of the parts. -/
def ren (p : Int) : Int := if p = 6 then 7 else if p = 7 then 6 else p
def rl (k : Int) : List Int := ((partsOf k).getD []).map ren
def RPartsPost (w : World) (k : Int) (e : Ending) (w' : World) : Prop :=
  ∃ A c, e = .returned (.tuple #[.slice A (rl k).length c, .bool (partsOf k).isSome]) ∧ Rd w' w'.heap.size A (iv (rl k)) ∧ Below w.heap.size w w'
theorem RPartsPost.mk {w w' : World} {k : Int} {e : Ending} {A : Option Addr} {c n : Nat} {b : Bool} {l : List Int} (h1 : rl k = l) (h2 : (partsOf k).isSome = b) (hn : l.length = n) (he : e = .returned (.tuple #[.slice A n c, .bool b])) (hr : Rd w' w'.heap.size A (iv l)) (hb : Below w.heap.size w w') : RPartsPost w k e w' := by
  subst h1 h2 hn
  exact ⟨A, c, he, hr, hb⟩
theorem lit2 (w : World) (xs : List Int) (c : Array Value) (hc : c = (iv xs).toArray) (o : Obj) : Rd ((w.alloc (.cells c 3)).alloc o) (w.heap.size + 1) (some ⟨w.heap.size, 0, none⟩) (iv xs) := by
  subst hc
  have h := Rd.lit w (iv xs).toArray 3
  have h2 := h.alloc (by simp) o
  simpa using h2
theorem own2 (w : World) (c1 : Array Value) (zs : List Int) (c : Array Value) (hc : c = (iv zs).toArray) (n : Nat) (hn : zs.length = n) (hm : n ≤ 100) : ((w.alloc (.cells c1 3)).alloc (.cells c 3)).ownsRow w.heap.size 3 1 (.slice (some ⟨w.heap.size + 1, 0, none⟩) n n) n (iv zs) := by
  subst hc hn
  have h := World.ownsRow_lit (base := w.heap.size) (e := 3) (size := 1) (w.alloc (.cells c1 3)) (iv zs).toArray zs.length (by simp) (by simp only [maxLen]; omega) (by simp [iv])
  simpa using h
theorem Rd.allocS' (w : World) (xs : List Int) (c : Array Value) (hc : c = (iv xs).toArray) : Rd (w.alloc (.cells c 3)) (w.alloc (.cells c 3)).heap.size (some ⟨w.heap.size, 0, none⟩) (iv xs) := by
  subst hc
  have h := Rd.lit w (iv xs).toArray 3
  simpa using h
set_option maxRecDepth 100000 in
set_option maxHeartbeats 4000000 in
theorem refParts (k : Int) (w : World) : Calls Try.prog 29 #[.int .i64 k] w (RPartsPost w k) := by
  have HB0 : Hid (∀ c1 c2 : Array Value, Below w.heap.size w ((w.alloc (.cells c1 3)).alloc (.cells c2 3))) := fun c1 c2 => ((Below.refl _ w).alloc (Nat.le_refl _) _).alloc (by simp) _
  by_cases h1 : k = 115
  · subst h1
    go_enter Try.func29, Try.ntmps29
    go_wp2
    go_ret2
    exact .mk (l := [0, 1, 2]) (by decide) (by decide) rfl rfl (by have h := Rd.allocS' (w.alloc (.cells (iv [7, 0, 1, 2]).toArray 3)) [0, 1, 2] _ rfl; simpa [iv] using h) (HB0.out _ _)
  by_cases h2 : k = 116
  · subst h2
    go_enter Try.func29, Try.ntmps29
    go_wp2
    go_ret2
    exact .mk (l := [0, 1]) (by decide) (by decide) rfl rfl (by have h := Rd.allocS' (w.alloc (.cells (iv [7, 0, 1, 2]).toArray 3)) [0, 1] _ rfl; simpa [iv] using h) (HB0.out _ _)
  by_cases h7 : k = 110
  · subst h7
    go_enter Try.func29, Try.ntmps29
    go_wp2
    go_ret2
    exact .mk (l := [3, 4]) (by decide) (by decide) rfl rfl (by have h := Rd.allocS' (w.alloc (.cells (iv [7, 0, 1, 2]).toArray 3)) [3, 4] _ rfl; simpa [iv] using h) (HB0.out _ _)
  by_cases h8 : k = 101
  · subst h8
    go_enter Try.func29, Try.ntmps29
    go_wp2
    go_ret2
    exact .mk (l := [6, 3, 4]) (by decide) (by decide) rfl rfl (by have h := Rd.allocS' (w.alloc (.cells (iv [7, 0, 1, 2]).toArray 3)) [6, 3, 4] _ rfl; simpa [iv] using h) (HB0.out _ _)
  by_cases h3 : k = 105
  · subst h3
    go_enter Try.func29, Try.ntmps29
    go_wp2_with (at_builtin; go_loud (refine wpList_appI _ rfl (.tmp 15) (.tmp 16) rfl w.heap.size (.slice (some ⟨w.heap.size + 1, 0, none⟩) 1 1) 1 [3] rfl (own2 w _ [3] _ rfl 1 rfl (by omega)) (w.heap.size + 1) _ 4 4 [7, 0, 1, 2] rfl rfl (lit2 w _ _ rfl _) (by omega) (by simp; omega) ?_))
    intro A' c' w' happ
    go_wp2
    go_ret2
    exact .mk (l := [3, 7, 0, 1, 2]) (by decide) (by decide) rfl rfl happ.rd ((HB0.out _ _).trans (happ.below (by simp; omega) (fun k hk => by simp [Value.ownBlock] at hk; omega)))
  by_cases h4 : k = 111
  · subst h4
    go_enter Try.func29, Try.ntmps29
    go_wp2_with (at_builtin; go_loud (refine wpList_appI _ rfl (.tmp 20) (.tmp 21) rfl w.heap.size (.slice (some ⟨w.heap.size + 1, 0, none⟩) 2 2) 2 [3, 4] rfl (own2 w _ [3, 4] _ rfl 2 rfl (by omega)) (w.heap.size + 1) _ 4 4 [7, 0, 1, 2] rfl rfl (lit2 w _ _ rfl _) (by omega) (by simp; omega) ?_))
    intro A' c' w' happ
    go_wp2
    go_ret2
    exact .mk (l := [3, 4, 7, 0, 1, 2]) (by decide) (by decide) rfl rfl happ.rd ((HB0.out _ _).trans (happ.below (by simp; omega) (fun k hk => by simp [Value.ownBlock] at hk; omega)))
  by_cases h5 : k = 103
  · subst h5
    go_enter Try.func29, Try.ntmps29
    go_wp2_with (at_builtin; go_loud (refine wpList_appI _ rfl (.tmp 25) (.tmp 26) rfl w.heap.size (.slice (some ⟨w.heap.size + 1, 0, none⟩) 3 3) 3 [3, 4, 5] rfl (own2 w _ [3, 4, 5] _ rfl 3 rfl (by omega)) (w.heap.size + 1) _ 4 4 [7, 0, 1, 2] rfl rfl (lit2 w _ _ rfl _) (by omega) (by simp; omega) ?_))
    intro A' c' w' happ
    go_wp2
    go_ret2
    exact .mk (l := [3, 4, 5, 7, 0, 1, 2]) (by decide) (by decide) rfl rfl happ.rd ((HB0.out _ _).trans (happ.below (by simp; omega) (fun k hk => by simp [Value.ownBlock] at hk; omega)))
  by_cases h6 : k = 100
  · subst h6
    go_enter Try.func29, Try.ntmps29
    go_wp2_with (at_builtin; go_loud (refine wpList_appI _ rfl (.tmp 30) (.tmp 31) rfl w.heap.size (.slice (some ⟨w.heap.size + 1, 0, none⟩) 2 2) 2 [3, 6] rfl (own2 w _ [3, 6] _ rfl 2 rfl (by omega)) (w.heap.size + 1) _ 4 4 [7, 0, 1, 2] rfl rfl (lit2 w _ _ rfl _) (by omega) (by simp; omega) ?_))
    intro A' c' w' happ
    go_wp2
    go_ret2
    exact .mk (l := [3, 6, 7, 0, 1, 2]) (by decide) (by decide) rfl rfl happ.rd ((HB0.out _ _).trans (happ.below (by simp; omega) (fun k hk => by simp [Value.ownBlock] at hk; omega)))
  have e : ∀ m : Int, k ≠ m → (m == k) = false := fun m hm => by rw [beq_eq_false_iff_ne]; exact fun e => hm e.symm
  have hp : partsOf k = none := by simp [partsOf, kinds, e _ h1, e _ h2, e _ h3, e _ h4, e _ h5, e _ h6, e _ h7, e _ h8]
  have hr : rl k = [] := by rw [rl, hp]; rfl
  have HP := Lib.hid hp
  have HR := Lib.hid hr
  have e' : ∀ m : Int, k ≠ m → (k == m) = false := fun m hm => by rw [beq_eq_false_iff_ne]; exact hm
  have d1 := e' _ h1
  have d2 := e' _ h2
  have d3 := e' _ h3
  have d4 := e' _ h4
  have d5 := e' _ h5
  have d6 := e' _ h6
  have d7 := e' _ h7
  have d8 := e' _ h8
  clear e e' hp hr h1 h2 h3 h4 h5 h6 h7 h8
  go_enter Try.func29, Try.ntmps29
  go_wp2
  go_ret2
  exact .mk HR.out (by rw [HP.out]; rfl) rfl rfl Rd.nil ((Below.refl _ w).alloc (Nat.le_refl _) _)
end Go.Proofs.Ytlamebbolioljaa
