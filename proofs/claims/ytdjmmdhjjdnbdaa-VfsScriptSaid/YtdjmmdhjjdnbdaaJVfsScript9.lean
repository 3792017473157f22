/- Texts of the proof of VfsScriptSaid, joined: VgI VgJ. -/
import Derived.Test.YtdjmmdhjjdnbdaaJVfsScript7
import Derived.Shelf.SlMaps.Clone
/- Layer 4: maps.Clone. -/
namespace Go.Proofs.Ytdjmmdhjjdnbdaa
open Go.RowKit

set_option maxRecDepth 100000 in
set_option maxHeartbeats 1000000 in
theorem vfClone0 (w : World) (b : Nat) {es : Array MapEntry} {c : Nat} (hb : w.heap[b]? = some (.map es c)) :
    Calls Try.prog 43 #[.map (some b)] w fun e w' => e = .returned (.map (some w.heap.size)) ∧ w' = w.alloc (.map es c) := by
  have hq := fun w => run_eql_map_nil_sl (P := Try.prog) w 56 _ _ (some b) Try.underlying56
  have hx : ∀ args w, (callFunc 71 args).run Try.prog w = ((Extern.MapsClone.clone args).run Try.prog w).andThen fun v w' => .ok (.value v) w' := fun args w =>
    run_callFunc_extern Try.func71 (by kernel_rfl) (by kernel_rfl) (by kernel_rfl) (e := Extern.MapsClone.clone) (by kernel_rfl) args w
  have hr := run_maps_clone_sl (P := Try.prog) w 56 hb
  have hta := fun (v : Value) (w : World) => run_typeAssert_map_sl (P := Try.prog) w 56 20 _ _ v Try.underlying56
  go_enter Try.func43, Try.ntmps43
  go_wp2
  go_ret
  exact ⟨rfl, rfl⟩
theorem vfClone {κ ν : Type} {kv : κ → Value} {vv : ν → Value} {w : World} {b : Nat} {L : List (κ × ν)} (h : Mh kv vv w b L) :
    ∃ es c, Mh kv vv (w.alloc (.map es c)) w.heap.size L ∧ ∀ W : World, W.heap[b]? = w.heap[b]? → Calls Try.prog 43 #[.map (some b)] W fun e w' => e = .returned (.map (some W.heap.size)) ∧ w' = W.alloc (.map es c) := by
  obtain ⟨es, c, hb⟩ := h.obj
  exact ⟨es, c, h.copy hb (heap_alloc_new w _), fun W hW => vfClone0 W b (hW.trans hb)⟩
section
variable {base F : Nat} {w w' : World} {K : Nat → Prop} {S : VSt} {m : VMem}
/-- The directory is kept as the synced one. -/
theorem Vf.synced (h : Vf base w K F S m) {sb' : Nat} (hf : FrK w w' (Kis F)) (hb : Bk w' F 59 (fsC { S with syn := S.now, chg := [] } { m with sb := sb', cv := .slice none 0 0, cms := [], Y := m.D }))
    (hM : Mh strV (fiV m.fb) w' sb' m.D) (hs : w.heap.size ≤ sb') :
    Vf base w' (Kn K w.heap.size w'.heap.size) F { S with syn := S.now, chg := [] } { m with sb := sb', cv := .slice none 0 0, cms := [], Y := m.D } := by
  have hmap : ∀ (b : Nat) (es : Array MapEntry) (c : Nat), w.heap[b]? = some (.map es c) → w'.heap[b]? = w.heap[b]? := fun b es c he => hf.block b (Array.getElem?_eq_some_iff.1 he).1 (fun e => by
    rw [show b = F from e, show w.heap[F]? = _ from h.blk] at he
    cases he)
  have hmh : ∀ {κ ν : Type} {kv : κ → Value} {vv : ν → Value} {b : Nat} {L : List (κ × ν)}, Mh kv vv w b L → Mh kv vv w' b L := fun {κ ν kv vv b L} hM => by
    obtain ⟨es, c, he⟩ := hM.obj
    exact hM.of (hmap b es c he)
  have hcell : ∀ {b : Nat} {t : TypeId} {cs : Array Value}, Bk w b t cs → t ≠ 59 → w'.heap[b]? = w.heap[b]? := fun {b t cs} hB h1 => hf.block b hB.lt (ne_of_type hB h.blk h1)
  have hnow : ({ S with syn := S.now, chg := [] } : VSt).now = S.now := by
    unfold VSt.now VSt.dirN
    simp
  have hdl := h.dir.lt
  refine { blk := hb, dir := hmh h.dir, dirP := by rw [hnow]; exact h.dirP, syn := hM, synP := h.dirP, chg := ⟨rfl, .inl ⟨rfl, rfl⟩⟩, maps := (fun j b c h1 h2 => by simp at h1), file := fun j y hy => (hcell (h.file j y hy) (by decide)).trans (h.file j y hy), row := fun j y hy => own_of (h.row j y hy) fun g hg => ?_, inj := h.inj, rinj := h.rinj, ne := by show m.db ≠ sb'; omega, nec := (fun b hb => by cases hb), kF := .inl h.kF, kD := .inl h.kD, kS := .inr ⟨hs, hM.lt⟩, kC := (fun g e => by cases e), kM := (fun b hb => by cases hb), kB := fun j e => .inl (h.kB j e), kR := fun j e g e2 => .inl (h.kR j e g e2), lo := ?_ }
  · obtain ⟨cur, hc⟩ := own_bk (h.row j y hy) hg
    exact hcell hc (by decide)
  · intro b e
    rcases e with e | ⟨h1, h2⟩
    · exact ⟨(h.lo b e).1, Nat.lt_of_lt_of_le (h.lo b e).2 hf.size⟩
    · exact ⟨Nat.le_trans h.baseLe h1, h2⟩
set_option maxRecDepth 100000 in
set_option maxHeartbeats 2000000 in
theorem vfSyncDir1 {bF : Nat} (h : Vf base w K F S m) (hF : Bk w bF 25 #[ptV F]) (hne : bF ≠ F) :
    Calls Try.prog 42 #[ptV bF] w (VPost base w K F ({ S with syn := S.now, chg := [] }, 0)) := by
  have c0 : w.cell? ⟨bF, 0, none⟩ = some (ptV F) := by rw [hF.cell 0]; rfl
  have c2 : w.cell? ⟨F, 2, none⟩ = some (maV m.db) := by rw [h.blk.cell 2]; rfl
  have c3 : w.cell? ⟨F, 3, none⟩ = some (maV m.sb) := by rw [h.blk.cell 3]; rfl
  have c4 : w.cell? ⟨F, 4, none⟩ = some m.cv := by rw [h.blk.cell 4]; rfl
  have f3 := h.blk.frozen 3
  have f4 := h.blk.frozen 4
  obtain ⟨es, c, hM, hC⟩ := vfClone h.dir
  have n0 := World.new_ne w _ c0
  have n2 := World.new_ne w _ c2
  have C := hC w.drew rfl
  have b1 := (h.blk.alloc (.map es c)).drew
  have d0 := ((hF.alloc (.map es c)).drew).cell 0
  have hf1 : FrK w (w.alloc (.map es c)).drew (Kis F) := ((FrK.refl w (Kis F)).alloc (.map es c)).drew
  have hM1 := hM.drew
  obtain ⟨w1, e1⟩ : ∃ w1, (w.alloc (.map es c)).drew = w1 := ⟨_, rfl⟩
  have C' : Calls Try.prog 43 #[maV m.db] w.drew fun e w' => e = .returned (maV w.heap.size) ∧ w' = w1 := C.mono fun e w' he => ⟨he.1, he.2.trans e1⟩
  rw [e1] at b1 d0 hf1 hM1
  have d1 : w1.cell? ⟨bF, 0, none⟩ = some (ptV F) := by rw [d0]; rfl
  have d2 : w1.cell? ⟨F, 2, none⟩ = some (maV m.db) := by rw [b1.cell 2]; rfl
  have d3 : w1.cell? ⟨F, 3, none⟩ = some (maV m.sb) := by rw [b1.cell 3]; rfl
  have d4 : w1.cell? ⟨F, 4, none⟩ = some m.cv := by rw [b1.cell 4]; rfl
  have g3 := b1.frozen 3
  have g4 := b1.frozen 4
  have done : ∀ w', w' = (w1.setCell ⟨F, 3, none⟩ (maV w.heap.size)).setCell ⟨F, 4, none⟩ (.slice none 0 0) → VPost base w K F ({ S with syn := S.now, chg := [] }, 0) (.returned (.int .i64 (0 : Nat))) w' := by
    rintro w' rfl
    have b2 := (b1.set 3 (maV w.heap.size)).set 4 (.slice none 0 0)
    have hf : FrK w ((w1.setCell ⟨F, 3, none⟩ (maV w.heap.size)).setCell ⟨F, 4, none⟩ (.slice none 0 0)) (Kis F) := (hf1.trans (FrK.set _ F 3 _) fun _ _ e => e).trans (FrK.set _ F 4 _) fun _ _ e => e
    have hFl := h.blk.lt
    have hM2 := hM1.of ((FrK.set w1 F 3 (maV w.heap.size)).block w.heap.size hM1.lt (by simp only [Kis]; omega))
    have hM3 := hM2.of ((FrK.set _ F 4 (.slice none 0 0)).block w.heap.size hM2.lt (by simp only [Kis]; omega))
    exact ⟨rfl, _, h.synced hf (by simpa [fsC] using b2) hM3 (Nat.le_refl _), hf.mono fun b _ e => e ▸ h.kF⟩
  have keep : ∀ v u, ((w1.setCell ⟨F, 3, none⟩ v).cell? ⟨bF, 0, none⟩ = some (ptV F) ∧ (w1.setCell ⟨F, 3, none⟩ v).cell? ⟨F, 2, none⟩ = some (maV m.db)) ∧ ((w1.setCell ⟨F, 3, none⟩ v).setCell ⟨F, 4, none⟩ u).cell? ⟨bF, 0, none⟩ = some (ptV F) ∧ ((w1.setCell ⟨F, 3, none⟩ v).setCell ⟨F, 4, none⟩ u).cell? ⟨F, 2, none⟩ = some (maV m.db) := fun v u => by
    have x1 := World.cell?_setCell_other w1 ⟨F, 3, none⟩ ⟨bF, 0, none⟩ v (fun e => hne (by injection e with e1; exact e1.symm))
    have x2 := World.cell?_setCell_other w1 ⟨F, 3, none⟩ ⟨F, 2, none⟩ v (fun e => by injection e with _ e; cases e)
    have x3 := World.cell?_setCell_other (w1.setCell ⟨F, 3, none⟩ v) ⟨F, 4, none⟩ ⟨bF, 0, none⟩ u (fun e => hne (by injection e with e1; exact e1.symm))
    have x4 := World.cell?_setCell_other (w1.setCell ⟨F, 3, none⟩ v) ⟨F, 4, none⟩ ⟨F, 2, none⟩ u (fun e => by injection e with _ e; cases e)
    exact ⟨⟨x1.trans d1, x2.trans d2⟩, x3.trans (x1.trans d1), x4.trans (x2.trans d2)⟩
  have KEEP := Lib.hid keep
  clear keep
  have DONE := Lib.hid done
  have HC := Lib.hid C'
  clear h hF hM hC C C' done b1 hf1 hM1 e1 d0
  go_enter Try.func42, Try.ntmps42
  go_wp2_with fail
  go_region_held3 (fun x => x.cell? ⟨bF, 0, none⟩ = some (ptV F) ∧ x.cell? ⟨F, 2, none⟩ = some (maV m.db)) (first | go_keep | exact (KEEP.out _ (.slice none 0 0)).1 | exact (KEEP.out _ _).2) ((refine HC.out.mono ?_; rintro e w' ⟨rfl, rfl⟩))
  all_goals go_wp2_with fail
  all_goals go_ret
  all_goals exact DONE.out _ rfl
end
end Go.Proofs.Ytdjmmdhjjdnbdaa

/- Layer 4: SyncDir. -/
namespace Go.Proofs.Ytdjmmdhjjdnbdaa
open Go.RowKit

set_option maxRecDepth 100000 in
set_option maxHeartbeats 1000000 in
theorem vfSyncDir {base F : Nat} {w : World} {K : Nat → Prop} {S : VSt} {m : VMem} (h : Vf base w K F S m) (hok : S.Ok) (hops : S.ops ≤ 4611686018427387904) :
    Calls Try.prog 16 #[ptV F] w (VPost base w K F S.syncDir) := by
  have hb := h.baseLe
  have hFlt := (h.lo F h.kF).2
  have b1 := Bk.new w 25 #[ptV F]
  have hw1 := (FrK.refl w Kno).alloc (.cells #[ptV F] 25)
  have v1 := h.alloc (.cells #[ptV F] 25)
  obtain ⟨w1, e1⟩ : ∃ w1, w.alloc (.cells #[ptV F] 25) = w1 := ⟨_, rfl⟩
  rw [e1] at b1 hw1 v1
  have c1 : w1.cell? ⟨w.heap.size, 0, none⟩ = some (ptV F) := by rw [b1.cell 0]; rfl
  have C := vfOpPost (n := 0) (c := 0) (B := 0) (A := none) v1 hok hops [] Rd.nil rfl (by omega) (fun u hu => by cases hu) 42 #[ptV w.heap.size] (enters_of Try.func42 (by kernel_rfl) rfl)
    (fun T => ({ T with syn := T.now, chg := [] }, 0))
    fun _ w2 hv hf ho => vfSyncDir1 hv (hf.bk b1 (by simp only [Kis]; omega)) (by omega)
  generalize hR : (S.op (([] : List ByteArray).all vName) fun T => ({ T with syn := T.now, chg := [] }, 0)) = R at C
  have hR' : S.syncDir = R := hR
  rw [hR']
  have C' : Calls Try.prog 36 #[ptV F, .bool true, .func (.func 42) #[] #[ptV w.heap.size], .slice none 0 0] w1 (VPost base w K F R) := C.mono fun e w' hp => hp.after hw1 (fun _ e => e.elim) hb
  have E1 := Lib.hid e1
  clear hR hR' C h hok b1 hw1 v1 e1
  have hmf : ∀ (fn : Fn) (first cap : Array Value) (w : World), (Instr.makeFunc fn first cap).run Try.prog w = .ok (.func fn first cap) w := fun _ _ _ _ => rfl
  go_enter Try.func16, Try.ntmps16
  go_wp2_with fail
  rw [E1.out]
  refine C'.mono ?_
  rintro e w' ⟨rfl, hQ⟩
  go_wp2_with fail
  go_ret
  exact ⟨rfl, hQ⟩
end Go.Proofs.Ytdjmmdhjjdnbdaa
