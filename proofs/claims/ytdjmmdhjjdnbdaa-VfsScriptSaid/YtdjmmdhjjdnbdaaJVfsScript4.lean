/- Texts of the proof of VfsScriptSaid, joined: VfF VfG VfH VfI VfJ VfK VfL VfM. -/
import Derived.Test.YtdjmmdhjjdnbdaaJVfsScript2
import Derived.Shelf.Abstract
import Derived.Laws.EntriesVeiled
/- Layer 4: op: what is asked of what it does. -/
namespace Go.Proofs.Ytdjmmdhjjdnbdaa
open Go.RowKit

set_option maxRecDepth 100000 in
set_option maxHeartbeats 1000000 in
theorem vfOp {base F n c B : Nat} {A : Option Addr} {w : World} {K : Nat → Prop} {S : VSt} {m : VMem} (h : Vf base w K F S m) (hok : S.Ok) (hops : S.ops ≤ 4611686018427387904)
    (right : Bool) (xs : List ByteArray) (hr : Rd w B A (xs.map strV)) (hn : xs.length = n) (hnl : n ≤ 9223372036854775807) (hs : ∀ s ∈ xs, s.size ≤ 9223372036854775806)
    (g : Nat) (lb : Array Value) (eg : ∀ args w, (callFunc g args).run Try.prog w = .ok (.enter g args) w) (Q : Ending → World → Prop)
    (q1 : (right && xs.all vName) = false → Q (.returned (.int .i64 2)) w)
    (q2 : (right && xs.all vName) = true → ∀ w1, Vf base w1 K F S.strike.1 m → FrK w w1 (Kis F) → S.strike.2 ≠ 0 → Q (.returned (.int .i64 (S.strike.2 : Nat))) w1)
    (q3 : (right && xs.all vName) = true → ∀ w1, Vf base w1 K F S.strike.1 m → FrK w w1 (Kis F) → S.strike.2 = 0 → Calls Try.prog g lb w1 fun e w' => ∃ r : Nat, e = .returned (.int .i64 r) ∧ Q e w') :
    Calls Try.prog 36 #[ptV F, .bool right, .func (.func g) #[] lb, .slice A n c] w Q := by
  have cN := vfNone h
  have cB := vfBad (c := c) xs w hr hn hnl hs
  have cS := vfStrike h hok hops
  obtain ⟨T, e, hT⟩ : ∃ T e, S.strike = (T, e) := ⟨_, _, rfl⟩
  rw [hT] at cS q2 q3
  have Q1 := Lib.hid q1
  have Q2 := Lib.hid q2
  have Q3 := Lib.hid q3
  clear q1 q2 q3 h hok hr hs
  cases right with
  | false =>
    go_enter Try.func36, Try.ntmps36
    go_wp2_with fail
    refine cN.mono ?_
    rintro e w' ⟨rfl, rfl⟩
    go_wp2_with fail
    exact Q1.out rfl
  | true =>
    cases hx : xs.all vName with
    | false =>
      rw [hx] at cB
      go_enter Try.func36, Try.ntmps36
      go_wp2_with fail
      refine cN.mono ?_
      rintro e w' ⟨rfl, rfl⟩
      go_wp2_with fail
      refine cB.mono ?_
      rintro e w' ⟨rfl, rfl⟩
      go_wp2_with fail
      exact Q1.out (by rw [hx]; rfl)
    | true =>
      rw [hx] at cB
      have HX := Lib.hid hx
      clear hx
      go_enter Try.func36, Try.ntmps36
      go_wp2_with fail
      refine cN.mono ?_
      rintro e w' ⟨rfl, rfl⟩
      go_wp2_with fail
      refine cB.mono ?_
      rintro e w' ⟨rfl, rfl⟩
      go_wp2_with fail
      refine cS.mono ?_
      rintro e' w1 ⟨rfl, hV, hF⟩
      by_cases he : e = 0
      · subst he
        have C := Q3.out (by rw [HX.out]; rfl) w1 hV hF rfl
        go_wp2_with (go_at_fn g; refine C.mono ?_; rintro e w' ⟨r, rfl, hQ⟩)
        exact hQ
      · have he' : ((e : Int) != 0) = true := by rw [bne_iff_ne]; omega
        have HE := Lib.hid he
        clear he
        go_wp2_with fail
        exact Q2.out (by rw [HX.out]; rfl) w1 hV hF HE.out
end Go.Proofs.Ytdjmmdhjjdnbdaa

/- Layer 4: on: a file that must be there. -/
namespace Go.Proofs.Ytdjmmdhjjdnbdaa
open Go.RowKit

theorem mgGet_perm {κ ν : Type} [DecidableEq κ] {L M : List (κ × ν)} (h : L.Perm M) (hn : (L.map (·.1)).Nodup) (k : κ) : mgGet k L = mgGet k M := by
  have hm : (M.map (·.1)).Nodup := (h.map _).nodup_iff.1 hn
  cases hM : mgGet k M with
  | some v => exact mgGet_some hn (h.mem_iff.2 (mgGet_mem hM))
  | none =>
    cases hL : mgGet k L with
    | none => rfl
    | some v => rw [mgGet_some hm (h.mem_iff.1 (mgGet_mem hL))] at hM; cases hM
/-- The directory, asked. -/
theorem Vf.look {base F : Nat} {w : World} {K : Nat → Prop} {S : VSt} {m : VMem} (h : Vf base w K F S m) (s : ByteArray) (c : Bool) :
    (Instr.lookup 56 (.map (some m.db)) (.string s) c).run Try.prog w = .ok (if c then .tuple #[((S.get s).map (fiV m.fb)).getD (.pointer none), .bool (S.get s).isSome] else ((S.get s).map (fiV m.fb)).getD (.pointer none)) w := by
  have := run_mhLook (z := .pointer none) (e := 65) (strRun Try.underlying9) Try.underlying56 (by simp [Try.zeroValue65]) h.dir s c
  rw [mgGet_perm h.dirP h.dir.nodup s] at this
  exact this
set_option maxRecDepth 100000 in
set_option maxHeartbeats 1000000 in
theorem vfOn1 {base F : Nat} {w : World} {K : Nat → Prop} {S : VSt} {m : VMem} (h : Vf base w K F S m)
    (s : ByteArray) (g : Nat) (lb : Array Value) (eg : ∀ args w, (callFunc g args).run Try.prog w = .ok (.enter g args) w) {bF bN bD : Nat}
    (hF : Bk w bF 25 #[ptV F]) (hN : Bk w bN 9 #[.string s]) (hD : Bk w bD 72 #[.func (.func g) #[] lb]) (Q : Ending → World → Prop)
    (q1 : ∀ w1, Vf base w1 K F S m → FrK w w1 Kno → S.get s = none → Q (.returned (.int .i64 6)) w1)
    (q2 : ∀ w1 i, Vf base w1 K F S m → FrK w w1 Kno → S.get s = some i → Calls Try.prog g (#[ptV (m.fb i)] ++ lb) w1 fun e w' => ∃ r : Nat, e = .returned (.int .i64 r) ∧ Q e w') :
    Calls Try.prog 70 #[ptV bF, ptV bN, ptV bD] w Q := by
  have c0 : w.cell? ⟨bF, 0, none⟩ = some (ptV F) := by rw [hF.cell 0]; rfl
  have c1 : w.cell? ⟨bN, 0, none⟩ = some (.string s) := by rw [hN.cell 0]; rfl
  have c2 : w.cell? ⟨bD, 0, none⟩ = some (.func (.func g) #[] lb) := by rw [hD.cell 0]; rfl
  have c3 : w.cell? ⟨F, 2, none⟩ = some (maV m.db) := by rw [h.blk.cell 2]; rfl
  have hlk := h.drew.look s true
  simp only [if_true] at hlk
  have Q1 := Lib.hid q1
  have Q2 := Lib.hid q2
  have H := Lib.hid h
  clear q1 q2 hF hN hD h
  cases hs : S.get s with
  | none =>
    rw [hs] at hlk
    simp only [Option.map_none, Option.getD_none, Option.isSome_none] at hlk
    have HS := Lib.hid hs
    clear hs
    go_enter Try.func70, Try.ntmps70
    go_wp2_with fail
    go_region
    go_wp2_with fail
    exact Q1.out _ H.out.drew (FrK.refl _ _).drew HS.out
  | some i =>
    rw [hs] at hlk
    simp only [Option.map_some, Option.getD_some, Option.isSome_some] at hlk
    have HS := Lib.hid hs
    clear hs
    go_enter Try.func70, Try.ntmps70
    go_wp2_with fail
    go_region
    have C := Q2.out _ i H.out.drew (FrK.refl _ _).drew HS.out
    go_wp2_with (go_at_fn g; refine C.mono ?_; rintro e w' ⟨r, rfl, hQ⟩)
    exact hQ
end Go.Proofs.Ytdjmmdhjjdnbdaa

/- Layer 4: on. -/
namespace Go.Proofs.Ytdjmmdhjjdnbdaa
open Go.RowKit

theorem FrK.bk {w w' : World} {K : Nat → Prop} {g : Nat} {t : TypeId} {cs : Array Value} (h : FrK w w' K) (hb : Bk w g t cs) (hk : ¬K g) : Bk w' g t cs := (h.block g hb.lt hk).trans hb
set_option maxRecDepth 100000 in
set_option maxHeartbeats 1000000 in
theorem vfOn {base F : Nat} {w : World} {K : Nat → Prop} {S : VSt} {m : VMem} (h : Vf base w K F S m) (hok : S.Ok) (hops : S.ops ≤ 4611686018427387904)
    (right : Bool) (s : ByteArray) (hs : s.size ≤ 9223372036854775806)
    (g : Nat) (lb : Array Value) (eg : ∀ args w, (callFunc g args).run Try.prog w = .ok (.enter g args) w) (Q : Ending → World → Prop)
    (q1 : (right && vName s) = false → ∀ w1, Vf base w1 K F S m → FrK w w1 Kno → Q (.returned (.int .i64 2)) w1)
    (q2 : (right && vName s) = true → ∀ w1, Vf base w1 K F S.strike.1 m → FrK w w1 (Kis F) → S.strike.2 ≠ 0 → Q (.returned (.int .i64 (S.strike.2 : Nat))) w1)
    (q3 : (right && vName s) = true → ∀ w1, Vf base w1 K F S.strike.1 m → FrK w w1 (Kis F) → S.strike.2 = 0 → S.strike.1.get s = none → Q (.returned (.int .i64 6)) w1)
    (q4 : (right && vName s) = true → ∀ w1 i, Vf base w1 K F S.strike.1 m → FrK w w1 (Kis F) → S.strike.2 = 0 → S.strike.1.get s = some i → Calls Try.prog g (#[ptV (m.fb i)] ++ lb) w1 fun e w' => ∃ r : Nat, e = .returned (.int .i64 r) ∧ Q e w') :
    Calls Try.prog 39 #[ptV F, .bool right, .string s, .func (.func g) #[] lb] w Q := by
  have hlt := (h.lo F h.kF).2
  have b1 := Bk.new w 25 #[ptV F]
  have hw1 := (FrK.refl w Kno).alloc (.cells #[ptV F] 25)
  have v1 := h.alloc (.cells #[ptV F] 25)
  obtain ⟨w1, e1⟩ : ∃ w1, w.alloc (.cells #[ptV F] 25) = w1 := ⟨_, rfl⟩
  rw [e1] at b1 hw1 v1
  have s1 : w1.heap.size = w.heap.size + 1 := by rw [← e1]; simp
  have b2 := Bk.new w1 9 #[.string s]
  have b12 := b1.alloc (.cells #[.string s] 9)
  have hw2 := hw1.alloc (.cells #[.string s] 9)
  have v2 := v1.alloc (.cells #[.string s] 9)
  obtain ⟨w2, e2⟩ : ∃ w2, w1.alloc (.cells #[.string s] 9) = w2 := ⟨_, rfl⟩
  rw [e2] at b2 b12 hw2 v2
  have s2 : w2.heap.size = w1.heap.size + 1 := by rw [← e2]; simp
  have b3 := Bk.new w2 72 #[.func (.func g) #[] lb]
  have b13 := b12.alloc (.cells #[.func (.func g) #[] lb] 72)
  have b23 := b2.alloc (.cells #[.func (.func g) #[] lb] 72)
  have hw3 := hw2.alloc (.cells #[.func (.func g) #[] lb] 72)
  have v3 := v2.alloc (.cells #[.func (.func g) #[] lb] 72)
  obtain ⟨w3, e3⟩ : ∃ w3, w2.alloc (.cells #[.func (.func g) #[] lb] 72) = w3 := ⟨_, rfl⟩
  rw [e3] at b3 b13 b23 hw3 v3
  have s3 : w3.heap.size = w2.heap.size + 1 := by rw [← e3]; simp
  have b34 := b3.alloc (.cells #[.string s] 9)
  have b14 := b13.alloc (.cells #[.string s] 9)
  have b24 := b23.alloc (.cells #[.string s] 9)
  have hw4 := hw3.alloc (.cells #[.string s] 9)
  have v4 := v3.alloc (.cells #[.string s] 9)
  have rd4 : Rd (w3.alloc (.cells #[.string s] 9)) (w3.heap.size + 1) (some ⟨w3.heap.size, 0, none⟩) ([s].map strV) := Rd.lit w3 #[.string s] 9
  have c1 : w3.cell? ⟨w.heap.size, 0, none⟩ = some (ptV F) := by rw [b13.cell 0]; rfl
  have c2 : w3.cell? ⟨w1.heap.size, 0, none⟩ = some (.string s) := by rw [b23.cell 0]; rfl
  obtain ⟨w4, e4⟩ : ∃ w4, w3.alloc (.cells #[.string s] 9) = w4 := ⟨_, rfl⟩
  rw [e4] at b34 b14 b24 hw4 v4 rd4
  have e70 : ∀ args w, (callFunc 70 args).run Try.prog w = .ok (.enter 70 args) w := enters_of Try.func70 (by kernel_rfl) rfl
  have hFr : ∀ {w5 : World}, FrK w4 w5 (Kis F) → FrK w w5 (Kis F) := fun {w5} h5 => (hw4.mono fun _ _ hf => hf.elim).trans h5 fun _ _ hk => hk
  have C : Calls Try.prog 36 #[ptV F, .bool right, .func (.func 70) #[] #[ptV w.heap.size, ptV w1.heap.size, ptV w2.heap.size], .slice (some ⟨w3.heap.size, 0, none⟩) 1 1] w4 fun e w' => ∃ r : Nat, e = .returned (.int .i64 r) ∧ Q e w' := by
    refine vfOp (n := 1) v4 hok hops right [s] rd4 rfl (by omega) (fun t ht => by simp at ht; subst ht; exact hs) _ _ e70 _ (fun hb => ?_) (fun hr w5 hv hf hne => ?_) (fun hr w5 hv hf he => ?_)
    · exact ⟨2, rfl, q1 (by simpa using hb) w4 v4 hw4⟩
    · exact ⟨_, rfl, q2 (by simpa using hr) w5 hv (hFr hf) hne⟩
    · refine (vfOn1 hv s g lb eg (hf.bk b14 (by simp only [Kis]; omega)) (hf.bk b24 (by simp only [Kis]; omega)) (hf.bk b34 (by simp only [Kis]; omega)) (fun e w' => ∃ r : Nat, e = .returned (.int .i64 r) ∧ Q e w') (fun w6 hv6 hf6 hn => ?_) (fun w6 i hv6 hf6 hi => ?_)).mono ?_
      · exact ⟨6, rfl, q3 (by simpa using hr) w6 hv6 ((hFr hf).trans hf6 fun _ _ hk => hk.elim) he hn⟩
      · refine (q4 (by simpa using hr) w6 i hv6 ((hFr hf).trans hf6 fun _ _ hk => hk.elim) he hi).mono ?_
        rintro e w' ⟨r, h1, h2⟩
        exact ⟨r, h1, r, h1, h2⟩
      · rintro e w' ⟨r, h1, h2⟩
        exact ⟨r, h1, r, h1, h2⟩
  rw [s3, s2, s1] at C
  have E1 := Lib.hid e1
  have E2 := Lib.hid e2
  have E3 := Lib.hid e3
  have E4 := Lib.hid e4
  clear q1 q2 q3 q4 h hok hw1 v1 hw2 v2 hw3 v3 b1 b2 b12 b3 b13 b23 b34 b14 b24 hw4 v4 rd4 e1 e2 e3 e4 s1 s2 s3 hFr
  have hmf : ∀ (fn : Fn) (first cap : Array Value) (w : World), (Instr.makeFunc fn first cap).run Try.prog w = .ok (.func fn first cap) w := fun _ _ _ _ => rfl
  go_enter Try.func39, Try.ntmps39
  go_wp2_with fail
  rw [E1.out, E2.out, E3.out, E4.out]
  refine C.mono ?_
  rintro e w' ⟨r, rfl, hQ⟩
  go_wp2_with fail
  exact hQ
end Go.Proofs.Ytdjmmdhjjdnbdaa

/- Layer 4: a file changes; Sync. -/
namespace Go.Proofs.Ytdjmmdhjjdnbdaa
open Go.RowKit

/-- What a method's call comes to. -/
def VPost (base : Nat) (w : World) (K : Nat → Prop) (F : Nat) (R : VSt × Nat) (e : Ending) (w' : World) : Prop :=
  e = .returned (.int .i64 (R.2 : Nat)) ∧ ∃ m', Vf base w' (Kn K w.heap.size w'.heap.size) F R.1 m' ∧ FrK w w' K
section
variable {base F : Nat} {w w' : World} {K K' : Nat → Prop} {S : VSt} {m : VMem}
theorem Vf.baseLe (h : Vf base w K F S m) : base ≤ w.heap.size := by
  have := h.lo F h.kF
  omega
theorem Vf.kn (h : Vf base w' K F S m) (hb : base ≤ w.heap.size) : Vf base w' (Kn K w.heap.size w'.heap.size) F S m :=
  h.bigger (fun b e => .inl e) fun b e => e.elim (h.lo b) fun ⟨h1, h2⟩ => ⟨by omega, h2⟩
theorem Vf.knn {w'' : World} {a b : Nat} (h : Vf base w'' (Kn (Kn K a b) b w''.heap.size) F S m) (hab : a ≤ b) (hb : b ≤ w''.heap.size) : Vf base w'' (Kn K a w''.heap.size) F S m :=
  h.bigger (fun x e => e.flat hab hb) fun x e => by
    rcases e with e | ⟨h1, h2⟩
    · exact h.lo x (.inl (.inl e))
    · rcases Nat.lt_or_ge x b with h3 | h3
      · exact h.lo x (.inl (.inr ⟨h1, h3⟩))
      · exact h.lo x (.inr ⟨h3, h2⟩)
theorem VPost.of {R : VSt × Nat} {r : Nat} {T : VSt} (h : Vf base w K F S m) (hR : R = (T, r)) (hv : Vf base w' K F T m) (hf : FrK w w' K') (hk : ∀ b, K' b → K b) : VPost base w K F R (.returned (.int .i64 (r : Nat))) w' := by
  subst hR
  exact ⟨rfl, m, hv.kn h.baseLe, hf.mono fun b _ hb => hk b hb⟩
theorem Vf.putFile (h : Vf base w K F S m) {i : Nat} {x x' : VFile} {v' : Value} (hx : S.fs[i]? = some x) (hf : FrK w w' fun b => b = m.fb i ∨ (m.bv i).ownBlock = some b)
    (hb : Bk w' (m.fb i) 69 #[v', .int .i64 (x'.s : Nat)]) (hr : w'.ownsRow base 5 1 v' x'.b.length (bv x'.b)) (ho : ∀ g, v'.ownBlock = some g → (m.bv i).ownBlock = some g ∨ w.heap.size ≤ g) :
    Vf base w' (Kn K w.heap.size w'.heap.size) F (S.setFile i x') { m with bv := fun j => if j = i then v' else m.bv j } := by
  have hil := (List.getElem?_eq_some_iff.1 hx).1
  have hfi := h.file i x hx
  have hri := h.row i x hx
  have hmap : ∀ (b : Nat) (es : Array MapEntry) (c : Nat), w.heap[b]? = some (.map es c) → w'.heap[b]? = w.heap[b]? := fun b es c he => hf.block b (Array.getElem?_eq_some_iff.1 he).1 (by
    rintro (rfl | hg)
    · rw [show w.heap[m.fb i]? = _ from hfi] at he
      cases he
    · obtain ⟨cur, hc⟩ := own_bk hri hg
      rw [show w.heap[b]? = _ from hc] at he
      cases he)
  have hmh : ∀ {κ ν : Type} {kv : κ → Value} {vv : ν → Value} {b : Nat} {L : List (κ × ν)}, Mh kv vv w b L → Mh kv vv w' b L := fun {κ ν kv vv b L} hM => by
    obtain ⟨es, c, he⟩ := hM.obj
    exact hM.of (hmap b es c he)
  have hcell : ∀ {b : Nat} {t : TypeId} {cs : Array Value}, Bk w b t cs → t ≠ 69 → t ≠ 5 → w'.heap[b]? = w.heap[b]? := fun {b t cs} hB h1 h2 => hf.block b hB.lt (by
    rintro (e | hg)
    · exact ne_of_type hB hfi h1 e
    · obtain ⟨cur, hc⟩ := own_bk hri hg
      exact ne_of_type hB hc h2 rfl)
  have hlen : (S.setFile i x').fs.length = S.fs.length := by simp [VSt.setFile]
  have hget : ∀ (j : Nat) (y : VFile), (S.setFile i x').fs[j]? = some y → (j = i ∧ y = x') ∨ (j ≠ i ∧ S.fs[j]? = some y) := fun j y hy => by
    by_cases hji : j = i
    · subst hji
      simp [VSt.setFile, hil] at hy
      exact .inl ⟨rfl, hy.symm⟩
    · simp only [VSt.setFile, List.getElem?_set] at hy
      rw [if_neg (fun e => hji e.symm)] at hy
      exact .inr ⟨hji, hy⟩
  have hfar : ∀ (j : Nat) (y : VFile), j ≠ i → S.fs[j]? = some y → Bk w' (m.fb j) 69 #[m.bv j, .int .i64 (y.s : Nat)] ∧ w'.ownsRow base 5 1 (m.bv j) y.b.length (bv y.b) := fun j y hji hy => by
    have hjl := (List.getElem?_eq_some_iff.1 hy).1
    have hfj := h.file j y hy
    refine ⟨(hf.block _ hfj.lt ?_).trans hfj, own_of (h.row j y hy) fun g hg => ?_⟩
    · rintro (e | hg)
      · exact hji (h.inj j i hjl hil e)
      · obtain ⟨cur, hc⟩ := own_bk hri hg
        exact ne_of_type hfj hc (by decide) rfl
    · obtain ⟨cur, hc⟩ := own_bk (h.row j y hy) hg
      refine hf.block _ hc.lt ?_
      rintro (e | hg2)
      · exact ne_of_type hfi hc (by decide) e.symm
      · exact hji (h.rinj j i hjl hil g hg hg2)
  have hcv : ∀ g, m.cv.ownBlock = some g → w'.heap[g]? = w.heap[g]? := fun g hg => by
    obtain ⟨cur, hc⟩ := own_bk h.chg hg
    exact hcell hc (by decide) (by decide)
  have hv'lt : ∀ g, v'.ownBlock = some g → g < w'.heap.size := fun g hg => (hr.lt g hg).2
  refine { blk := (hcell h.blk (by decide) (by decide)).trans h.blk, dir := hmh h.dir, dirP := h.dirP, syn := hmh h.syn, synP := h.synP, chg := own_of h.chg hcv, maps := ?_, file := ?_, row := ?_, inj := by rw [hlen]; exact h.inj, rinj := ?_, ne := h.ne, nec := h.nec, kF := .inl h.kF, kD := .inl h.kD, kS := .inl h.kS, kC := fun g e => .inl (h.kC g e), kM := fun b e => .inl (h.kM b e), kB := fun j e => .inl (h.kB j (by rw [hlen] at e; exact e)), kR := ?_, lo := ?_ }
  · intro j b c h1 h2
    obtain ⟨C, h3, h4⟩ := h.maps j b c h1 h2
    exact ⟨C, h3, hmh h4⟩
  · intro j y hy
    rcases hget j y hy with ⟨rfl, rfl⟩ | ⟨hji, hy'⟩
    · simp only [if_true]
      exact hb
    · simp only [if_neg hji]
      exact (hfar j y hji hy').1
  · intro j y hy
    rcases hget j y hy with ⟨rfl, rfl⟩ | ⟨hji, hy'⟩
    · simp only [if_true]
      exact hr
    · simp only [if_neg hji]
      exact (hfar j y hji hy').2
  · intro j k hj hk g h1 h2
    rw [hlen] at hj hk
    have hold : ∀ l, l ≠ i → l < S.fs.length → (m.bv l).ownBlock = some g → v'.ownBlock = some g → False := fun l hli hl h3 h4 => by
      rcases ho g h4 with h5 | h5
      · exact hli (h.rinj l i hl hil g h3 h5)
      · have := (h.row l _ (List.getElem?_eq_getElem hl)).lt g h3
        omega
    by_cases hji : j = i <;> by_cases hki : k = i
    · rw [hji, hki]
    · subst hji
      simp only [if_true, if_neg hki] at h1 h2
      exact (hold k hki hk h2 h1).elim
    · subst hki
      simp only [if_true, if_neg hji] at h1 h2
      exact (hold j hji hj h1 h2).elim
    · simp only [if_neg hji, if_neg hki] at h1 h2
      exact h.rinj j k hj hk g h1 h2
  · intro j hj g hg
    rw [hlen] at hj
    by_cases hji : j = i
    · subst hji
      simp only [if_true] at hg
      rcases ho g hg with h5 | h5
      · exact .inl (h.kR j hil g h5)
      · exact .inr ⟨h5, hv'lt g hg⟩
    · simp only [if_neg hji] at hg
      exact .inl (h.kR j hj g hg)
  · intro b e
    rcases e with e | ⟨h1, h2⟩
    · exact ⟨(h.lo b e).1, Nat.lt_of_lt_of_le (h.lo b e).2 hf.size⟩
    · exact ⟨Nat.le_trans h.baseLe h1, h2⟩
end
end Go.Proofs.Ytdjmmdhjjdnbdaa

/- Layer 4: what stays so; Sync. -/
namespace Go.Proofs.Ytdjmmdhjjdnbdaa
open Go.RowKit

theorem strike_same (S : VSt) : S.strike.1.syn = S.syn ∧ S.strike.1.chg = S.chg ∧ S.strike.1.fs = S.fs ∧ S.strike.1.limit = S.limit ∧ S.strike.1.err = S.err := by
  unfold VSt.strike
  split
  · exact ⟨rfl, rfl, rfl, rfl, rfl⟩
  · split
    · exact ⟨rfl, rfl, rfl, rfl, rfl⟩
    · split <;> exact ⟨rfl, rfl, rfl, rfl, rfl⟩
theorem strike_ops (S : VSt) : S.strike.1.ops ≤ S.ops + 1 := by
  unfold VSt.strike
  split
  · simp
  · split
    · simp
    · split <;> simp
theorem dirN_same {S T : VSt} (h1 : T.syn = S.syn) (h2 : T.chg = S.chg) (n : Nat) : T.dirN n = S.dirN n := by
  unfold VSt.dirN
  rw [h1, h2]
theorem now_same {S T : VSt} (h1 : T.syn = S.syn) (h2 : T.chg = S.chg) : T.now = S.now := by
  unfold VSt.now
  rw [h2]
  exact dirN_same h1 h2 _
theorem get_same {S T : VSt} (h1 : T.syn = S.syn) (h2 : T.chg = S.chg) (s : ByteArray) : T.get s = S.get s := by
  unfold VSt.get
  rw [now_same h1 h2]
theorem VSt.Ok.of {S T : VSt} (h : S.Ok) (h1 : T.syn = S.syn) (h2 : T.chg = S.chg) (h3 : T.fs = S.fs) (h4 : -1 ≤ T.fuse ∧ T.fuse ≤ 9223372036854775807) (h5 : -1 ≤ T.fault ∧ T.fault ≤ 9223372036854775807) : T.Ok :=
  ⟨by rw [h1, h3]; exact h.syn, by rw [h1]; exact h.synN, by rw [h2, h3]; exact h.chg, fun n => by rw [dirN_same h1 h2]; exact h.inj n, by rw [h3]; exact h.byt, h4, h5⟩
theorem VSt.Ok.strike {S : VSt} (h : S.Ok) : S.strike.1.Ok := by
  obtain ⟨h1, h2, h3, -⟩ := strike_same S
  have hf := h.fuse
  have hg := h.fault
  refine h.of h1 h2 h3 ?_ ?_
  · unfold VSt.strike
    split
    · exact hf
    · split
      · simp only; omega
      · split <;> simp only <;> omega
  · unfold VSt.strike
    split
    · exact hg
    · split
      · simp only; omega
      · split <;> simp only <;> omega
theorem mgPut_mem {κ ν : Type} [DecidableEq κ] {k : κ} {v : ν} : ∀ {L : List (κ × ν)} {p : κ × ν}, p ∈ mgPut k v L → p = (k, v) ∨ p ∈ L
  | [], p, h => by simp [mgPut] at h; exact .inl h
  | q :: l, p, h => by
    rw [mgPut] at h
    split at h
    · rcases List.mem_cons.1 h with h | h
      · exact .inl h
      · exact .inr (List.mem_cons_of_mem _ h)
    · rcases List.mem_cons.1 h with h | h
      · exact .inr (h ▸ List.mem_cons_self ..)
      · exact (mgPut_mem h).imp id (List.mem_cons_of_mem _)
theorem chgOn_mem {L : List (ByteArray × Nat)} {c : VChg} {p : ByteArray × Nat} (h : p ∈ chgOn L c) : p ∈ L ∨ c.f = some p.2 := by
  have hd : ∀ q, q ∈ (if c.gone = noT then L else dDel c.gone L) → q ∈ L := fun q hq => by
    split at hq
    · exact hq
    · exact (List.mem_filter.1 hq).1
  unfold chgOn at h
  split at h
  · rename_i x hx
    rcases mgPut_mem h with h | h
    · exact .inr (by rw [hx, h])
    · exact .inl (hd p h)
  · exact .inl (hd p h)
theorem fold_mem : ∀ {l : List VChg} {L : List (ByteArray × Nat)} {p : ByteArray × Nat}, p ∈ l.foldl chgOn L → p ∈ L ∨ ∃ c ∈ l, c.f = some p.2
  | [], _, _, h => .inl h
  | c :: l, L, p, h => by
    rcases fold_mem (l := l) h with h | ⟨c', h1, h2⟩
    · rcases chgOn_mem h with h | h
      · exact .inl h
      · exact .inr ⟨c, List.mem_cons_self .., h⟩
    · exact .inr ⟨c', List.mem_cons_of_mem _ h1, h2⟩
theorem VSt.Ok.dirN_lt {S : VSt} (h : S.Ok) {n : Nat} {p : ByteArray × Nat} (hp : p ∈ S.dirN n) : p.2 < S.fs.length := by
  rcases fold_mem hp with h1 | ⟨c, h1, h2⟩
  · exact h.syn p h1
  · exact ((h.chg c (List.mem_of_mem_take h1)).1 _ h2).1
theorem VSt.Ok.get_lt {S : VSt} (h : S.Ok) {s : ByteArray} {i : Nat} (hi : S.get s = some i) : i < S.fs.length := h.dirN_lt (mgGet_mem hi)
theorem own_form {w : World} {base : Nat} {t : TypeId} {k n : Nat} {v : Value} {xs : List Value} (h : w.ownsRow base t k v n xs) : ∃ A c, v = .slice A n c ∧ n ≤ c ∧ (A = none → n = 0 ∧ c = 0) := by
  rcases h.2 with ⟨rfl, rfl⟩ | ⟨g, cap, cur, rfl, h2, h3, h4, h5⟩
  · exact ⟨none, 0, rfl, Nat.le_refl _, fun _ => ⟨rfl, rfl⟩⟩
  · exact ⟨_, cap, rfl, h4, fun e => by cases e⟩
theorem VPost.after {base F : Nat} {w w1 w' : World} {K K1 : Nat → Prop} {R : VSt × Nat} {e : Ending} (h : VPost base w1 K F R e w') (hf : FrK w w1 K1) (hk : ∀ b, K1 b → K b) (hb : base ≤ w.heap.size) : VPost base w K F R e w' := by
  obtain ⟨h1, m', h2, h3⟩ := h
  refine ⟨h1, m', h2.bigger (fun b hb => hb.imp id fun ⟨x, y⟩ => ⟨Nat.le_trans hf.size x, y⟩) (fun b e => ?_), (hf.mono fun b _ e => hk b e).trans h3 fun b _ e => e⟩
  rcases e with e | ⟨x, y⟩
  · exact h2.lo b (.inl e)
  · exact ⟨Nat.le_trans hb x, y⟩
set_option maxRecDepth 100000 in
set_option maxHeartbeats 1000000 in
theorem vfSync1 {base F i : Nat} {w : World} {K : Nat → Prop} {S : VSt} {m : VMem} {x : VFile} (h : Vf base w K F S m) (hx : S.fs[i]? = some x) :
    Calls Try.prog 41 #[ptV (m.fb i)] w (VPost base w K F (S.setFile i ⟨x.b, x.b.length⟩, 0)) := by
  have hf := h.file i x hx
  obtain ⟨A, c, hv, hc, -⟩ := own_form (h.row i x hx)
  have c0 : w.cell? ⟨m.fb i, 0, none⟩ = some (.slice A x.b.length c) := by rw [hf.cell 0, ← hv]; rfl
  have c1 : w.cell? ⟨m.fb i, 1, none⟩ = some (.int .i64 (x.s : Nat)) := by rw [hf.cell 1]; rfl
  have f1 := hf.frozen 1
  have H := Lib.hid h
  have HF := Lib.hid hf
  have HX := Lib.hid hx
  clear h hf hx hc
  go_enter Try.func41, Try.ntmps41
  go_wp2_with fail
  go_ret
  have h := H.out
  have hil := (List.getElem?_eq_some_iff.1 HX.out).1
  have hfr := FrK.set w (m.fb i) 1 (.int .i64 (x.b.length : Nat))
  refine ⟨rfl, _, h.putFile (v' := m.bv i) (x' := ⟨x.b, x.b.length⟩) HX.out (hfr.mono fun b _ e => .inl e) (HF.out.set 1 _) (own_of (h.row i x HX.out) fun g hg => ?_) (fun g hg => .inl hg), hfr.mono fun b _ e => by rw [e]; exact h.kB i hil⟩
  obtain ⟨cur, hcur⟩ := own_bk (h.row i x HX.out) hg
  exact hfr.block g hcur.lt (ne_of_type hcur HF.out (by decide))
theorem file_at {S : VSt} {i : Nat} (h : i < S.fs.length) : S.fs[i]? = some (S.file i) := by
  rw [VSt.file, List.getD_eq_getElem?_getD, List.getElem?_eq_getElem h]
  rfl
theorem op_bad {S : VSt} {right : Bool} {do_ : VSt → VSt × Nat} (h : right = false) : S.op right do_ = (S, 2) := by
  unfold VSt.op
  rw [if_pos h]
theorem op_struck {S : VSt} {do_ : VSt → VSt × Nat} (h : S.strike.2 ≠ 0) : S.op true do_ = (S.strike.1, S.strike.2) := by
  unfold VSt.op
  rw [if_neg (by simp), if_pos h]
theorem op_done {S : VSt} {do_ : VSt → VSt × Nat} (h : S.strike.2 = 0) : S.op true do_ = do_ S.strike.1 := by
  unfold VSt.op
  rw [if_neg (by simp), if_neg (by simp [h])]
/-- What on's caller has to show. -/
theorem vfOnPost {base F : Nat} {w : World} {K : Nat → Prop} {S : VSt} {m : VMem} (h : Vf base w K F S m) (hok : S.Ok) (hops : S.ops ≤ 4611686018427387904)
    (s : ByteArray) (hs : s.size ≤ 9223372036854775806) (g : Nat) (lb : Array Value) (eg : ∀ args w, (callFunc g args).run Try.prog w = .ok (.enter g args) w) (d : VSt → Nat → VSt × Nat)
    (q : vName s = true → ∀ w1 i, Vf base w1 K F S.strike.1 m → FrK w w1 (Kis F) → S.strike.1.Ok → S.strike.1.get s = some i → i < S.strike.1.fs.length → Calls Try.prog g (#[ptV (m.fb i)] ++ lb) w1 (VPost base w1 K F (d S.strike.1 i))) :
    Calls Try.prog 39 #[ptV F, .bool true, .string s, .func (.func g) #[] lb] w (VPost base w K F (S.op (vName s) fun T => match T.get s with | none => (T, 6) | some i => d T i)) := by
  have hb := h.baseLe
  refine vfOn h hok hops true s hs g lb eg _ (fun hn w1 hv hf => ?_) (fun hr w1 hv hf hne => ?_) (fun hr w1 hv hf he hn => ?_) (fun hr w1 i hv hf he hi => ?_)
  · have e1 : vName s = false := by simpa using hn
    refine VPost.of h (r := 2) ?_ hv hf fun b hb => hb.elim
    rw [e1, op_bad rfl]
  · have e1 : vName s = true := by simpa using hr
    refine VPost.of h ?_ hv hf fun b hb => hb ▸ h.kF
    rw [e1, op_struck hne]
  · have e1 : vName s = true := by simpa using hr
    refine VPost.of h (r := 6) ?_ hv hf fun b hb => hb ▸ h.kF
    rw [e1, op_done he, hn]
  · have e1 : vName s = true := by simpa using hr
    have hlt := hok.strike.get_lt hi
    refine (q e1 w1 i hv hf hok.strike hi hlt).mono ?_
    intro e w' hp
    have hp' := hp.after hf (fun b hb => hb ▸ h.kF) hb
    rw [e1, op_done he, hi]
    exact ⟨_, hp'.1, hp'⟩
set_option maxRecDepth 100000 in
set_option maxHeartbeats 1000000 in
theorem vfSync {base F : Nat} {w : World} {K : Nat → Prop} {S : VSt} {m : VMem} (h : Vf base w K F S m) (hok : S.Ok) (hops : S.ops ≤ 4611686018427387904) (s : ByteArray) (hs : s.size ≤ 9223372036854775806) :
    Calls Try.prog 15 #[ptV F, .string s] w (VPost base w K F (S.sync s)) := by
  have C := vfOnPost h hok hops s hs 41 #[] (enters_of Try.func41 (by kernel_rfl) rfl) (fun T i => (T.setFile i ⟨(T.file i).b, (T.file i).b.length⟩, 0)) fun _ w1 i hv hf ho hi hl => vfSync1 hv (file_at hl)
  generalize hR : (S.op (vName s) fun T => match T.get s with | none => (T, 6) | some i => (T.setFile i ⟨(T.file i).b, (T.file i).b.length⟩, 0)) = R at C
  have hR' : S.sync s = R := hR
  rw [hR']
  clear hR hR' h hok
  go_enter Try.func15, Try.ntmps15
  go_wp2_with fail
  refine C.mono ?_
  rintro e w' ⟨rfl, hQ⟩
  go_wp2_with fail
  go_ret
  exact ⟨rfl, hQ⟩
end Go.Proofs.Ytdjmmdhjjdnbdaa

/- Layer 4: turn: a change of a directory. -/
namespace Go.Proofs.Ytdjmmdhjjdnbdaa
open Go.RowKit

def turnStep (D : List (ByteArray × Nat)) (p : ByteArray × Option Nat) : List (ByteArray × Nat) :=
  match p.2 with
  | none => mgDel p.1 D
  | some i => mgPut p.1 i D
def turnL (D : List (ByteArray × Nat)) (Z : List (ByteArray × Option Nat)) : List (ByteArray × Nat) := Z.foldl turnStep D
theorem turnL_snoc (D : List (ByteArray × Nat)) (Z : List (ByteArray × Option Nat)) (p : ByteArray × Option Nat) : turnL D (Z ++ [p]) = turnStep (turnL D Z) p := by
  rw [turnL, List.foldl_append]
  rfl
theorem mgDel_put {κ ν : Type} [DecidableEq κ] {k k' : κ} {v : ν} (h : k ≠ k') : ∀ (L : List (κ × ν)), mgDel k (mgPut k' v L) = mgPut k' v (mgDel k L)
  | [] => by
    have h1 : ¬k' = k := fun e => h e.symm
    simp [mgPut, mgDel, h1]
  | p :: l => by
    have ih := mgDel_put h l (v := v)
    have h1 : ¬k' = k := fun e => h e.symm
    rw [mgPut]
    by_cases hp : p.1 = k'
    · rw [if_pos hp]
      have h2 : ¬p.1 = k := fun e => h1 (hp.symm.trans e)
      simp [mgDel, h1, h2, mgPut, hp]
    · rw [if_neg hp]
      by_cases h2 : p.1 = k
      · have e1 : ∀ (X : List (κ × ν)), mgDel k (p :: X) = mgDel k X := fun X => by simp [mgDel, h2]
        rw [e1, e1, ih]
      · have e1 : ∀ (X : List (κ × ν)), mgDel k (p :: X) = p :: mgDel k X := fun X => by simp [mgDel, h2]
        rw [e1, e1, ih, mgPut, if_neg hp]
theorem perm_two {α : Type} {Z : List α} {a b : α} (h : Z.Perm [a, b]) : Z = [a, b] ∨ Z = [b, a] := by
  match Z, h with
  | [], h => exact absurd h.length_eq (by simp)
  | [x], h => exact absurd h.length_eq (by simp)
  | x :: y :: z :: l, h => exact absurd h.length_eq (by simp)
  | [x, y], h =>
    have hx : x ∈ [a, b] := h.mem_iff.1 (List.mem_cons_self ..)
    rcases List.mem_cons.1 hx with rfl | hx
    · exact .inl (by rw [List.perm_singleton.1 ((List.perm_cons _).1 h)])
    · rw [List.mem_singleton] at hx
      subst hx
      exact .inr (by rw [List.perm_singleton.1 ((List.perm_cons _).1 (h.trans (List.Perm.swap ..)))])
theorem turnL_chg {c : VChg} {n : Nat} (hc : c.Ok n) {Z : List (ByteArray × Option Nat)} (hp : Z.Perm (chgL c)) (D : List (ByteArray × Nat)) : turnL D Z = chgOn D c := by
  unfold chgL at hp
  unfold chgOn
  cases hf : c.f with
  | none =>
    simp only [hf] at hp ⊢
    rw [List.perm_singleton.1 hp, if_neg (hc.2 hf)]
    rfl
  | some i =>
    simp only [hf] at hp ⊢
    by_cases hg : c.gone = noT
    · rw [if_pos hg] at hp ⊢
      rw [List.perm_singleton.1 hp]
      rfl
    · rw [if_neg hg] at hp ⊢
      rcases perm_two hp with h | h
      · rw [h]
        rfl
      · rw [h]
        exact mgDel_put (hc.1 i hf).2 D
def itN (w : World) (r : Nat) : Nat := match w.heap[r]? with | some (.mapIter _ _ seen _) => seen.size | _ => 0
theorem Rh.itN {κ ν : Type} {kv : κ → Value} {vv : ν → Value} {w : World} {b r : Nat} {L D : List (κ × ν)} (h : Rh kv vv w b r L D) : itN w r = D.length := by
  obtain ⟨T, c, Q, h1, h2, h3, h4, h5, h6⟩ := h
  rw [Proofs.Ytdjmmdhjjdnbdaa.itN, h3, ← h6]
  simp
set_option maxRecDepth 100000 in
set_option maxHeartbeats 1000000 in
theorem vfTurn {w : World} {db cb : Nat} {D : List (ByteArray × Nat)} {C : List (ByteArray × Option Nat)} {fb : Nat → Nat} (hD : Mh strV (fiV fb) w db D) (hC : Mh strV (fiO fb) w cb C) (hne : db ≠ cb) :
    Calls Try.prog 46 #[maV db, maV cb] w fun e w' => e = .returned (.tuple #[]) ∧ ∃ Z, Z.Perm C ∧ Mh strV (fiV fb) w' db (turnL D Z) ∧ FrK w w' (Kis db) := by
  obtain ⟨c0, hrange, rg0⟩ := Rh.start hC
  have hrg := hrange (P := Try.prog) Try.underlying70
  have hD0 := hD.alloc (.mapIter (some cb) c0 #[] c0)
  have hF0 := (FrK.refl w (Kis db)).alloc (.mapIter (some cb) c0 #[] c0)
  have hrd : w.heap.size ≠ db := by have := hD.lt; omega
  obtain ⟨w0, hw0⟩ : ∃ w0, w.alloc (.mapIter (some cb) c0 #[] c0) = w0 := ⟨_, rfl⟩
  obtain ⟨r, hr⟩ : ∃ r, w.heap.size = r := ⟨_, rfl⟩
  rw [hw0] at rg0 hD0 hF0 hrg
  rw [hr] at rg0 hrd hrg
  have RG := Lib.hid rg0
  have HD := Lib.hid hD0
  have HF := Lib.hid hF0
  have HW := Lib.hid hw0
  have HR := Lib.hid hr
  clear rg0 hD0 hF0 hw0 hD hC hr hrange
  go_enter Try.func46, Try.ntmps46
  go_wp2_with fail
  go_loopw [4, 5] (fun _ _ wr => ∃ Z, Hid (Rh strV (fiO fb) wr cb r C Z) ∧ Hid (Mh strV (fiV fb) wr db (turnL D Z)) ∧ Hid (FrK w wr (Kis db))) (fun _ _ wr => C.length - itN wr r)
  case atStart => exact ⟨[], RG, HD, HF⟩
  case round =>
    obtain ⟨Z, RG1, HD1, HF1⟩ := hrel
    rcases RG1.out.next (P := Try.prog) 0 with ⟨hperm, hrun⟩ | ⟨k, v, w2, -, -, hrun, hrg2, hlen, hgr, hsz⟩
    · have hnx : ∀ ty, (Instr.next (.pointer (some ⟨r, 0, none⟩)) false ty).run Try.prog wr = _ := fun _ => hrun
      go_wp2_with fail
      go_end0
      exact ⟨rfl, Z, hperm, HD1.out, HF1.out⟩
    · have hnx : ∀ ty, (Instr.next (.pointer (some ⟨r, 0, none⟩)) false ty).run Try.prog wr = _ := fun _ => hrun
      have hen := hrg2.entry (P := Try.prog)
      have hD2 := HD1.out.grown hgr (fun e => hrd (Option.some.inj e).symm)
      have hF2 : FrK w w2 (Kis db) := HF1.out.trans (K' := Kis r) (FrK.of_grown hgr fun b _ e => (Option.some.inj e).symm) fun b hb e => by
        have h1 := HR.out
        simp only [Kis] at e
        omega
      have hcb : some cb ≠ some db := fun e => hne (Option.some.inj e).symm
      have hrb : some r ≠ some db := fun e => hrd (Option.some.inj e)
      have hZ := RG1.out.itN
      have RG2 := Lib.hid hrg2
      have HD2 := Lib.hid hD2
      have HF2 := Lib.hid hF2
      have HS := Lib.hid (turnL_snoc D Z (k, v))
      clear hrg2 hD2 hF2 hrun RG1 HD1 HF1 RG HD HF
      cases v with
      | none =>
        have hen' : (Instr.entry (.pointer (some ⟨r, 0, none⟩))).run Try.prog w2 = .ok (.tuple #[.string k, .pointer none]) w2 := hen
        clear hen
        go_wp2_with (first
          | (refine wpList_mhDel _ rfl (.tmp 15) (.tmp 16) 56 9 rfl (strRun Try.underlying9) Try.underlying56 db _ rfl HD2.out k rfl ?_
             rintro w3 hm3 hg3 hs3)
          | fail)
        refine ⟨⟨_, _, _, _, _, _, _, _, _, _, _, _, _, _, ⟨Z ++ [(k, none)], Lib.hid (RG2.out.grown hg3 hcb hrb), Lib.hid (by rw [HS.out]; exact hm3), Lib.hid (HF2.out.trans (FrK.of_grown hg3 fun b _ e => (Option.some.inj e).symm) fun _ _ e => e)⟩, rfl⟩, ?_⟩
        have h9 := (RG2.out.grown hg3 hcb hrb).itN
        rw [List.length_append, List.length_singleton] at h9
        omega
      | some i =>
        have hen' : (Instr.entry (.pointer (some ⟨r, 0, none⟩))).run Try.prog w2 = .ok (.tuple #[.string k, ptV (fb i)]) w2 := hen
        clear hen
        go_wp2_with (first
          | (refine wpList_mhPut _ rfl (.tmp 17) (.tmp 18) (.tmp 19) 56 rfl (strRun Try.underlying9) Try.underlying56 db _ rfl HD2.out k i rfl rfl ?_
             rintro w3 hm3 hg3 hs3)
          | fail)
        refine ⟨⟨_, _, _, _, _, _, _, _, _, _, _, _, _, _, ⟨Z ++ [(k, some i)], Lib.hid (RG2.out.grown hg3 hcb hrb), Lib.hid (by rw [HS.out]; exact hm3), Lib.hid (HF2.out.trans (FrK.of_grown hg3 fun b _ e => (Option.some.inj e).symm) fun _ _ e => e)⟩, rfl⟩, ?_⟩
        have h9 := (RG2.out.grown hg3 hcb hrb).itN
        rw [List.length_append, List.length_singleton] at h9
        omega
end Go.Proofs.Ytdjmmdhjjdnbdaa

/- Layer 4: note. -/
namespace Go.Proofs.Ytdjmmdhjjdnbdaa
open Go.RowKit

section
variable {base F : Nat} {w w' : World} {K : Nat → Prop} {S : VSt} {m : VMem}
theorem Vf.noted (h : Vf base w K F S m) {c : VChg} {v' : Value} {cb : Nat} {C : List (ByteArray × Option Nat)} {D' : List (ByteArray × Nat)}
    (hf : FrK w w' fun b => b = F ∨ b = m.db ∨ m.cv.ownBlock = some b) (hb : Bk w' F 59 (fsC S { m with cv := v' })) (hr : w'.ownsRow base 70 1 v' (S.chg.length + 1) ((m.cms ++ [cb]).map maV))
    (ho : ∀ g, v'.ownBlock = some g → m.cv.ownBlock = some g ∨ w.heap.size ≤ g) (hD : Mh strV (fiV m.fb) w' m.db D') (hDp : D'.Perm (chgOn S.now c)) (hC : Mh strV (fiO m.fb) w' cb C) (hCp : C.Perm (chgL c)) (hcb : cb ≠ m.db ∧ cb ≠ m.sb) (hK : Kn K w.heap.size w'.heap.size cb) :
    Vf base w' (Kn K w.heap.size w'.heap.size) F { S with chg := S.chg ++ [c] } { m with cv := v', cms := m.cms ++ [cb], D := D' } := by
  have hlen : m.cms.length = S.chg.length := by
    have := h.chg.1
    simpa using this
  have hmap : ∀ (b : Nat) (es : Array MapEntry) (c : Nat), w.heap[b]? = some (.map es c) → b ≠ m.db → w'.heap[b]? = w.heap[b]? := fun b es c he hne => hf.block b (Array.getElem?_eq_some_iff.1 he).1 (by
    rintro (rfl | rfl | hg)
    · rw [show w.heap[b]? = _ from h.blk] at he
      cases he
    · exact hne rfl
    · obtain ⟨cur, hc⟩ := own_bk h.chg hg
      rw [show w.heap[b]? = _ from hc] at he
      cases he)
  have hmh : ∀ {κ ν : Type} {kv : κ → Value} {vv : ν → Value} {b : Nat} {L : List (κ × ν)}, Mh kv vv w b L → b ≠ m.db → Mh kv vv w' b L := fun {κ ν kv vv b L} hM hne => by
    obtain ⟨es, c, he⟩ := hM.obj
    exact hM.of (hmap b es c he hne)
  have hcell : ∀ {b : Nat} {t : TypeId} {cs : Array Value}, Bk w b t cs → t ≠ 59 → t ≠ 70 → w'.heap[b]? = w.heap[b]? := fun {b t cs} hB h1 h2 => hf.block b hB.lt (by
    rintro (e | e | hg)
    · exact ne_of_type hB h.blk h1 e
    · obtain ⟨es, cl, he⟩ := h.dir.obj
      rw [← e, show w.heap[b]? = _ from hB] at he
      cases he
    · obtain ⟨cur, hc⟩ := own_bk h.chg hg
      exact ne_of_type hB hc h2 rfl)
  have hnow : ({ S with chg := S.chg ++ [c] } : VSt).now = chgOn S.now c := by
    unfold VSt.now VSt.dirN
    simp only [List.take_length]
    rw [List.foldl_append]
    rfl
  refine { blk := hb, dir := hD, dirP := by rw [hnow]; exact hDp, syn := hmh h.syn h.ne.symm, synP := h.synP, chg := by simpa using hr, maps := ?_, file := fun j y hy => (hcell (h.file j y hy) (by decide) (by decide)).trans (h.file j y hy), row := fun j y hy => own_of (h.row j y hy) fun g hg => ?_, inj := h.inj, rinj := h.rinj, ne := h.ne, nec := ?_, kF := .inl h.kF, kD := .inl h.kD, kS := .inl h.kS, kC := ?_, kM := ?_, kB := fun j e => .inl (h.kB j e), kR := fun j e g e2 => .inl (h.kR j e g e2), lo := ?_ }
  · intro j b c' h1 h2
    rcases Nat.lt_or_ge j S.chg.length with hj | hj
    · rw [List.getElem?_append_left (by omega)] at h1
      simp only at h2
      rw [List.getElem?_append_left hj] at h2
      obtain ⟨C', h3, h4⟩ := h.maps j b c' h1 h2
      exact ⟨C', h3, hmh h4 (h.nec b (List.mem_of_getElem? h1)).1⟩
    · have hj1 : j = S.chg.length := by
        have := (List.getElem?_eq_some_iff.1 h2).1
        simp at this
        omega
      subst hj1
      rw [List.getElem?_append_right (by omega), hlen, Nat.sub_self] at h1
      simp only at h2
      rw [List.getElem?_append_right (Nat.le_refl _), Nat.sub_self] at h2
      simp at h1 h2
      subst h1
      subst h2
      exact ⟨C, hCp, hC⟩
  · obtain ⟨cur, hc⟩ := own_bk (h.row j y hy) hg
    exact hcell hc (by decide) (by decide)
  · intro b hbm
    rcases List.mem_append.1 hbm with h1 | h1
    · exact h.nec b h1
    · simp at h1
      subst h1
      exact hcb
  · intro g hg
    rcases ho g hg with h1 | h1
    · exact .inl (h.kC g h1)
    · exact .inr ⟨h1, (hr.lt g hg).2⟩
  · intro b hbm
    rcases List.mem_append.1 hbm with h1 | h1
    · exact .inl (h.kM b h1)
    · simp at h1
      subst h1
      exact hK
  · intro b e
    rcases e with e | ⟨h1, h2⟩
    · exact ⟨(h.lo b e).1, Nat.lt_of_lt_of_le (h.lo b e).2 hf.size⟩
    · exact ⟨Nat.le_trans h.baseLe h1, h2⟩
end
theorem mgPut_perm {κ ν : Type} [DecidableEq κ] {k : κ} {v : ν} {L M : List (κ × ν)} (h : L.Perm M) (hn : (L.map (·.1)).Nodup) : (mgPut k v L).Perm (mgPut k v M) := by
  have hm : (M.map (·.1)).Nodup := (h.map _).nodup_iff.1 hn
  have hmem : ∀ {X : List (κ × ν)}, (X.map (·.1)).Nodup → ∀ p, p ∈ mgPut k v X ↔ (p = (k, v) ∨ (p.1 ≠ k ∧ p ∈ X)) := fun {X} hX p => by
    have hg : mgGet p.1 (mgPut k v X) = some p.2 ↔ (p = (k, v) ∨ (p.1 ≠ k ∧ p ∈ X)) := by
      rw [mgGet_put]
      by_cases hk : p.1 = k
      · rw [if_pos hk]
        constructor
        · intro e
          exact .inl (Prod.ext hk (Option.some.inj e).symm)
        · rintro (e | ⟨e, -⟩)
          · rw [e]
          · exact absurd hk e
      · rw [if_neg hk]
        constructor
        · intro e
          exact .inr ⟨hk, mgGet_mem e⟩
        · rintro (e | ⟨-, e⟩)
          · exact absurd (by rw [e]) hk
          · exact mgGet_some hX e
    rw [← hg]
    exact ⟨fun e => mgGet_some (mgPut_nodup hX) e, fun e => mgGet_mem e⟩
  refine (List.perm_ext_iff_of_nodup (nodup_of_map (mgPut_nodup hn)) (nodup_of_map (mgPut_nodup hm))).2 fun p => ?_
  rw [hmem hn, hmem hm, h.mem_iff]
theorem chgOn_perm {c : VChg} {L M : List (ByteArray × Nat)} (h : L.Perm M) (hn : (L.map (·.1)).Nodup) : (chgOn L c).Perm (chgOn M c) := by
  have hd : (if c.gone = noT then L else dDel c.gone L).Perm (if c.gone = noT then M else dDel c.gone M) := by
    split
    · exact h
    · exact h.filter _
  have hd2 : ((if c.gone = noT then L else dDel c.gone L).map (·.1)).Nodup := by
    split
    · exact hn
    · exact mgDel_nodup hn
  unfold chgOn
  split
  · exact mgPut_perm hd hd2
  · exact hd
theorem chinfo : (Try.prog.info? 70).map (fun i => (i.zero, i.size, i.bytes)) = some (some (.map none), 1, 8) := by kernel_rfl
end Go.Proofs.Ytdjmmdhjjdnbdaa

/- Layer 4: note, walked. -/
namespace Go.Proofs.Ytdjmmdhjjdnbdaa
open Go.RowKit

set_option maxRecDepth 100000 in
set_option maxHeartbeats 1000000 in
theorem vfNote {base F cb n : Nat} {w : World} {K : Nat → Prop} {S : VSt} {m : VMem} (h : Vf base w K F S m) {c : VChg} (hc : c.Ok n) {C : List (ByteArray × Option Nat)}
    (hC : Mh strV (fiO m.fb) w cb C) (hp : C.Perm (chgL c)) (hcb : cb ≠ m.db ∧ cb ≠ m.sb) (hK : K cb) (hlen : S.chg.length ≤ 1000000) :
    Calls Try.prog 38 #[ptV F, maV cb] w fun e w' => e = .returned (.tuple #[]) ∧ (∃ m', m'.fb = m.fb ∧ m'.bv = m.bv ∧ Vf base w' (Kn K w.heap.size w'.heap.size) F { S with chg := S.chg ++ [c] } m') ∧ FrK w w' K := by
  obtain ⟨A, c0, hcv, hc0, -⟩ := own_form h.chg
  have k4 : w.cell? ⟨F, 4, none⟩ = some (.slice A S.chg.length c0) := by rw [h.blk.cell 4, ← hcv]; rfl
  have rd1 : Rd (w.alloc (.cells #[maV cb] 70)) (w.heap.size + 1) (some ⟨w.heap.size, 0, none⟩) [maV cb] := Rd.lit w #[maV cb] 70
  have own1 := h.chg.alloc (.cells #[maV cb] 70)
  have blk1 := h.blk.alloc (.cells #[maV cb] 70)
  have dir1 := h.dir.alloc (.cells #[maV cb] 70)
  have hC1 := hC.alloc (.cells #[maV cb] 70)
  have fr1 := (FrK.refl w Kno).alloc (.cells #[maV cb] 70)
  obtain ⟨w1, e1⟩ : ∃ w1, w.alloc (.cells #[maV cb] 70) = w1 := ⟨_, rfl⟩
  have s1 : w1.heap.size = w.heap.size + 1 := by rw [← e1]; simp
  rw [e1] at rd1 own1 blk1 fr1 dir1 hC1
  have hbase := h.baseLe
  obtain ⟨i0, hi0, hz0, hz1, hz2⟩ := info_parts chinfo
  have H := Lib.hid h
  have E1 := Lib.hid e1
  have RD1 := Lib.hid rd1
  have OWN1 := Lib.hid own1
  have BLK1 := Lib.hid blk1
  have FR1 := Lib.hid fr1
  have DIR1 := Lib.hid dir1
  have HC1 := Lib.hid hC1
  have HCV := Lib.hid hcv
  have HI := Lib.hid (And.intro hi0 (And.intro hz0 (And.intro hz1 hz2)))
  clear h hC e1 rd1 own1 blk1 fr1 dir1 hC1 hcv hi0 hz0 hz1 hz2
  go_enter Try.func38, Try.ntmps38
  go_wp2_with (at_builtin; go_loud (rw [E1.out]; refine wpList_app w1 rfl (.tmp 8) (.tmp 10) 57 rfl base 70 i0 _ 1 8 Try.underlying57 HI.out.1 HI.out.2.1 HI.out.2.2.1 HI.out.2.2.2 rfl (by omega) m.cv S.chg.length _ HCV.out.symm OWN1.out _ (some ⟨w.heap.size, 0, none⟩) 1 1 [maV cb] rfl rfl RD1.out (fun u hu => by simp at hu; subst hu; rfl) (by simp only [maxLen]; omega) (by omega) (by omega) ?_))
  intro A2 c2 w2 hown2 hgr2 hblk2 hnil2
  have h := H.out
  have hne4 : ∀ g, m.cv.ownBlock = some g → g ≠ F ∧ g ≠ m.db ∧ g ≠ cb := fun g hg => by
    obtain ⟨cur, hcur⟩ := own_bk h.chg hg
    have hcur1 : ∃ cs, w1.heap[g]? = some (.cells cs 70 (0, 0)) := by
      obtain ⟨cur1, hc1⟩ := own_bk OWN1.out hg
      exact ⟨_, hc1⟩
    obtain ⟨cs, hcs⟩ := hcur1
    refine ⟨ne_of_type hcur h.blk (by decide), fun e => ?_, fun e => ?_⟩
    · obtain ⟨es, cl, he⟩ := DIR1.out.obj
      rw [← e, hcs] at he
      cases he
    · obtain ⟨es, cl, he⟩ := HC1.out.obj
      rw [← e, hcs] at he
      cases he
  have hFl := BLK1.out.lt
  have blk2 := BLK1.out.grown hgr2 (fun e => (hne4 F e.symm).1 rfl)
  have dir2 := DIR1.out.grown hgr2 (fun e => (hne4 _ e.symm).2.1 rfl)
  have hC2 := HC1.out.grown hgr2 (fun e => (hne4 _ e.symm).2.2 rfl)
  have k2 : w2.cell? ⟨F, 2, none⟩ = some (maV m.db) := by rw [blk2.cell 2]; rfl
  have k24 : w2.cell? ⟨F, 4, none⟩ = some m.cv := by rw [blk2.cell 4]; rfl
  have k44 := blk2.frozen 4
  have st := FrK.set w2 F 4 (.slice A2 (S.chg.length + 1) c2)
  have blk3 := blk2.set 4 (.slice A2 (S.chg.length + 1) c2)
  have hdF : m.db ≠ F := h.neD
  have hcF : cb ≠ F := fun e => by
    obtain ⟨es, cl, he⟩ := hC2.obj
    rw [e, show w2.heap[F]? = _ from blk2] at he
    cases he
  have dir3 := dir2.of (st.block _ dir2.lt hdF)
  have hC3 := hC2.of (st.block _ hC2.lt hcF)
  have hown3 := own_of (w' := w2.setCell ⟨F, 4, none⟩ (.slice A2 (S.chg.length + 1) c2)) hown2 (fun g hg => by
    obtain ⟨cur, hcur⟩ := own_bk hown2 hg
    exact st.block _ hcur.lt (ne_of_type hcur blk2 (by decide)))
  obtain ⟨w3, e3⟩ : ∃ w3, w2.setCell ⟨F, 4, none⟩ (.slice A2 (S.chg.length + 1) c2) = w3 := ⟨_, rfl⟩
  rw [e3] at st blk3 dir3 hC3 hown3
  have k3 : w3.cell? ⟨F, 2, none⟩ = some (maV m.db) := by rw [blk3.cell 2]; rfl
  have ct := vfTurn dir3 hC3 hcb.1.symm
  have E3 := Lib.hid e3
  have BLK3 := Lib.hid blk3
  have ST := Lib.hid st
  have OWN3 := Lib.hid hown3
  have GR2 := Lib.hid hgr2
  have BK2 := Lib.hid hblk2
  have HC3 := Lib.hid hC3
  have DIR3 := Lib.hid dir3
  clear hown2 hgr2 hblk2 hnil2 blk2 dir2 hC2 st blk3 dir3 hC3 hown3 e3 h hne4
  go_wp2_with fail
  rw [E3.out]
  refine ct.mono ?_
  rintro e w' ⟨rfl, Z, hZ, hD', hF'⟩
  go_wp2_with fail
  go_end0
  have h := H.out
  have hfr : FrK w w' fun b => b = F ∨ b = m.db ∨ m.cv.ownBlock = some b := by
    have f1 : FrK w w1 fun b => b = F ∨ b = m.db ∨ m.cv.ownBlock = some b := FR1.out.mono fun _ _ e => e.elim
    have f2 := f1.trans (FrK.of_grown (K := fun b => b = F ∨ b = m.db ∨ m.cv.ownBlock = some b) GR2.out fun b _ e => .inr (.inr e)) fun _ _ e => e
    have f3 := f2.trans ST.out fun b _ e => .inl e
    exact f3.trans hF' fun b _ e => .inr (.inl e)
  have hrow : w'.ownsRow base 70 1 (.slice A2 (S.chg.length + 1) c2) (S.chg.length + 1) ((m.cms ++ [cb]).map maV) := by
    rw [List.map_append]
    refine own_of OWN3.out fun g hg => ?_
    obtain ⟨cur, hcur⟩ := own_bk OWN3.out hg
    refine hF'.block g hcur.lt fun e => ?_
    obtain ⟨es, cl, he⟩ := DIR3.out.obj
    rw [← show g = m.db from e, show w3.heap[g]? = _ from hcur] at he
    cases he
  have hv := h.noted (c := c) hfr (v' := .slice A2 (S.chg.length + 1) c2) (by
    have := hF'.bk BLK3.out (fun e => hdF (show F = m.db from e).symm)
    rw [show fsC S { m with cv := .slice A2 (S.chg.length + 1) c2 } = (fsC S m).setIfInBounds 4 (.slice A2 (S.chg.length + 1) c2) by simp [fsC]]
    exact this) hrow (fun g hg => by
      rcases BK2.out with e | e
      · exact .inl (by rw [← e]; exact hg)
      · rw [e] at hg
        have := Option.some.inj hg
        exact .inr (by omega)) hD' (by rw [turnL_chg hc (hZ.trans hp)]; exact chgOn_perm h.dirP h.dir.nodup) (HC3.out.of (hF'.block _ HC3.out.lt hcb.1)) hp hcb (.inl hK)
  refine ⟨rfl, ⟨{ m with cv := .slice A2 (S.chg.length + 1) c2, cms := m.cms ++ [cb], D := turnL m.D Z }, rfl, rfl, hv⟩, hfr.mono fun b _ e => ?_⟩
  rcases e with e | e | e
  · exact e ▸ h.kF
  · exact e ▸ h.kD
  · exact h.kC b e
end Go.Proofs.Ytdjmmdhjjdnbdaa
