/- Texts of the proof of VfsScriptSaid, joined: VfN VfO VfP VfQ VfR VfS VfT VfU. -/
import Derived.Test.YtdjmmdhjjdnbdaaJVfsScript4
/- Layer 4: Remove. -/
namespace Go.Proofs.Ytdjmmdhjjdnbdaa
open Go.RowKit

theorem vfNoteNew {base F cb n : Nat} {w w2 : World} {K : Nat → Prop} {S : VSt} {m : VMem} (h : Vf base w K F S m) (hg : FrK w w2 Kno) (hcb : w.heap.size ≤ cb ∧ cb < w2.heap.size) {c : VChg} (hc : c.Ok n) {C : List (ByteArray × Option Nat)}
    (hC : Mh strV (fiO m.fb) w2 cb C) (hp : C.Perm (chgL c)) (hlen : S.chg.length ≤ 1000000) :
    Calls Try.prog 38 #[ptV F, maV cb] w2 fun e w' => e = .returned (.tuple #[]) ∧ (∃ m', m'.fb = m.fb ∧ m'.bv = m.bv ∧ Vf base w' (Kn K w.heap.size w'.heap.size) F { S with chg := S.chg ++ [c] } m') ∧ FrK w w' K := by
  have h2 : Vf base w2 (Kn K w.heap.size w2.heap.size) F S m := (h.keep hg fun _ _ e => e).kn h.baseLe
  have hd := h.dir.lt
  have hs := h.syn.lt
  refine (vfNote h2 hc hC hp ⟨by omega, by omega⟩ (.inr hcb) hlen).mono ?_
  rintro e w' ⟨rfl, ⟨m', h3, h4, h5⟩, h6⟩
  refine ⟨rfl, ⟨m', h3, h4, h5.knn hg.size h6.size⟩, (hg.mono fun _ _ e => e.elim).trans h6 fun b hb e => ?_⟩
  rcases e with e | ⟨e, -⟩
  · exact e
  · omega
theorem vName_ne {s : ByteArray} (h : vName s = true) : s ≠ noT := fun e => by
  subst e
  revert h
  decide
set_option maxRecDepth 100000 in
set_option maxHeartbeats 1000000 in
theorem vfRemove1 {base F bF bN : Nat} {w : World} {K : Nat → Prop} {S : VSt} {m : VMem} (h : Vf base w K F S m) {s : ByteArray} (hs : s ≠ noT) (x : Value)
    (hF : Bk w bF 25 #[ptV F]) (hN : Bk w bN 9 #[.string s]) (hlen : S.chg.length ≤ 1000000) :
    Calls Try.prog 66 #[x, ptV bF, ptV bN] w (VPost base w K F ({ S with chg := S.chg ++ [⟨noT, none, s⟩] }, 0)) := by
  have c0 : w.cell? ⟨bF, 0, none⟩ = some (ptV F) := by rw [hF.cell 0]; rfl
  have c1 : w.cell? ⟨bN, 0, none⟩ = some (.string s) := by rw [hN.cell 0]; rfl
  have m1 := Mh.new (kv := strV) (vv := fiO m.fb) w
  have fr1 := (FrK.refl w Kno).alloc (.map #[] 0)
  have hN1 := hN.alloc (.map #[] 0)
  have k1 : (w.alloc (.map #[] 0)).cell? ⟨bN, 0, none⟩ = some (.string s) := by rw [hN1.cell 0]; rfl
  obtain ⟨w1, e1⟩ : ∃ w1, w.alloc (.map #[] 0) = w1 := ⟨_, rfl⟩
  have s1 : w1.heap.size = w.heap.size + 1 := by rw [← e1]; simp
  rw [e1] at m1 fr1 hN1
  have hmm := @run_makeMap Try.prog
  have H := Lib.hid h
  have E1 := Lib.hid e1
  have M1 := Lib.hid m1
  have FR1 := Lib.hid fr1
  have S1 := Lib.hid s1
  clear h hF hN e1 m1 fr1 hN1 s1
  go_enter Try.func66, Try.ntmps66
  go_wp2_with (first
    | (rw [E1.out]; refine wpList_mhIns _ rfl (.tmp 6) (.tmp 7) (.const (.pointer none)) 70 rfl (strRun Try.underlying9) Try.underlying70 w.heap.size _ rfl M1.out s none rfl rfl ?_
       rintro w2 hm2 hg2 hs2)
    | fail)
  have hfr : FrK w w2 Kno := FR1.out.trans (FrK.of_grown (K := fun b => b = w.heap.size) hg2 fun b _ e => (Option.some.inj e).symm) fun b hb e => by omega
  have hsz : w.heap.size < w2.heap.size := by rw [hs2, S1.out]; omega
  have C := vfNoteNew (n := 0) H.out hfr ⟨Nat.le_refl _, hsz⟩ (c := ⟨noT, none, s⟩) ⟨(fun i e => by cases e), fun _ => hs⟩ (show Mh strV (fiO m.fb) w2 w.heap.size [(s, none)] from hm2) (List.Perm.refl _) hlen
  refine C.mono ?_
  rintro e w' ⟨rfl, ⟨m', -, -, hv⟩, hf⟩
  go_wp2_with fail
  go_ret
  exact ⟨rfl, m', hv, hf⟩
set_option maxRecDepth 100000 in
set_option maxHeartbeats 1000000 in
theorem vfRemove {base F : Nat} {w : World} {K : Nat → Prop} {S : VSt} {m : VMem} (h : Vf base w K F S m) (hok : S.Ok) (hops : S.ops ≤ 4611686018427387904) (s : ByteArray) (hs : s.size ≤ 9223372036854775806) (hlen : S.chg.length ≤ 1000000) :
    Calls Try.prog 32 #[ptV F, .string s] w (VPost base w K F (S.remove s)) := by
  have hb := h.baseLe
  have hFlt := (h.lo F h.kF).2
  have b1 := Bk.new w 25 #[ptV F]
  have hw1 := (FrK.refl w Kno).alloc (.cells #[ptV F] 25)
  have v1 := h.alloc (.cells #[ptV F] 25)
  obtain ⟨w1, e1⟩ : ∃ w1, w.alloc (.cells #[ptV F] 25) = w1 := ⟨_, rfl⟩
  rw [e1] at b1 hw1 v1
  have s1 : w1.heap.size = w.heap.size + 1 := by rw [← e1]; simp
  have b2 := Bk.new w1 9 #[.string s]
  have b12 := b1.alloc (.cells #[.string s] 9)
  have hw2 := hw1.alloc (.cells #[.string s] 9)
  have v2 := v1.alloc (.cells #[.string s] 9)
  obtain ⟨w2, e2⟩ : ∃ w2, w1.alloc (.cells #[.string s] 9) = w2 := ⟨_, rfl⟩
  rw [e2] at b2 b12 hw2 v2
  have c1 : w2.cell? ⟨w.heap.size, 0, none⟩ = some (ptV F) := by rw [b12.cell 0]; rfl
  have c2 : w2.cell? ⟨w1.heap.size, 0, none⟩ = some (.string s) := by rw [b2.cell 0]; rfl
  have C := vfOnPost v2 hok hops s hs 66 #[ptV w.heap.size, ptV w1.heap.size] (enters_of Try.func66 (by kernel_rfl) rfl) (fun T i => ({ T with chg := T.chg ++ [⟨noT, none, s⟩] }, 0))
    fun hn w3 i hv hf ho hi hl => vfRemove1 hv (vName_ne hn) _ (hf.bk b12 (by simp only [Kis]; omega)) (hf.bk b2 (by simp only [Kis]; omega)) (by rw [(strike_same S).2.1]; exact hlen)
  generalize hR : (S.op (vName s) fun T => match T.get s with | none => (T, 6) | some i => ({ T with chg := T.chg ++ [⟨noT, none, s⟩] }, 0)) = R at C
  have hR' : S.remove s = R := hR
  rw [hR']
  have C' : Calls Try.prog 39 #[ptV F, .bool true, .string s, .func (.func 66) #[] #[ptV w.heap.size, ptV w1.heap.size]] w2 (VPost base w K F R) := C.mono fun e w' hp => hp.after hw2 (fun _ e => e.elim) hb
  rw [s1] at C'
  have E1 := Lib.hid e1
  have E2 := Lib.hid e2
  clear hR hR' C h hok b1 hw1 v1 e1 b2 b12 hw2 v2 e2 s1
  have hmf : ∀ (fn : Fn) (first cap : Array Value) (w : World), (Instr.makeFunc fn first cap).run Try.prog w = .ok (.func fn first cap) w := fun _ _ _ _ => rfl
  go_enter Try.func32, Try.ntmps32
  go_wp2_with fail
  rw [E1.out, E2.out]
  refine C'.mono ?_
  rintro e w' ⟨rfl, hQ⟩
  go_wp2_with fail
  go_ret
  exact ⟨rfl, hQ⟩
end Go.Proofs.Ytdjmmdhjjdnbdaa

/- Layer 4: a new file; Create. -/
namespace Go.Proofs.Ytdjmmdhjjdnbdaa
open Go.RowKit

theorem Mh.congr {κ ν : Type} {kv : κ → Value} {vv vv' : ν → Value} {w : World} {b : Nat} {L : List (κ × ν)} (h : Mh kv vv w b L) (he : ∀ p ∈ L, vv p.2 = vv' p.2) : Mh kv vv' w b L := by
  obtain ⟨T, c, h1, rfl⟩ := h
  have hE : mhE kv vv T = mhE kv vv' T := by
    unfold mhE
    refine List.map_congr_left fun t ht => ?_
    rw [he t.1 (List.mem_map.2 ⟨t, ht, rfl⟩)]
  exact ⟨T, c, ⟨by rw [← hE]; exact h1.at_, h1.keys, h1.born, h1.lt⟩, rfl⟩
/-- Where all lies, with a new file. -/
def VMem.more (m : VMem) (n b : Nat) : VMem := { m with fb := fun j => if j = n then b else m.fb j, bv := fun j => if j = n then .slice none 0 0 else m.bv j }
section
variable {base F : Nat} {w : World} {K : Nat → Prop} {S : VSt} {m : VMem}
theorem Vf.addFile (h : Vf base w K F S m) (hok : S.Ok) :
    Vf base (w.alloc (.cells #[.slice none 0 0, .int .i64 0] 69)) (Kn K w.heap.size (w.heap.size + 1)) F { S with fs := S.fs ++ [⟨[], 0⟩] } (m.more S.fs.length w.heap.size) := by
  have ha := h.alloc (.cells #[.slice none 0 0, .int .i64 0] 69)
  have hsz : (w.alloc (.cells #[.slice none 0 0, .int .i64 0] 69)).heap.size = w.heap.size + 1 := by simp
  have hget : ∀ (j : Nat) (y : VFile), (S.fs ++ [⟨[], 0⟩])[j]? = some y → (j = S.fs.length ∧ y = ⟨[], 0⟩) ∨ (j ≠ S.fs.length ∧ S.fs[j]? = some y) := fun j y hy => by
    rcases Nat.lt_or_ge j S.fs.length with hj | hj
    · rw [List.getElem?_append_left hj] at hy
      exact .inr ⟨by omega, hy⟩
    · have hj1 : j = S.fs.length := by
        have := (List.getElem?_eq_some_iff.1 hy).1
        simp at this
        omega
      subst hj1
      rw [List.getElem?_append_right (Nat.le_refl _), Nat.sub_self] at hy
      simp at hy
      exact .inl ⟨rfl, hy.symm⟩
  have hfi : ∀ i, i < S.fs.length → fiV m.fb i = fiV (m.more S.fs.length w.heap.size).fb i := fun i hi => by
    simp only [fiV, VMem.more]
    rw [if_neg (by omega)]
  have hlo : ∀ i, i < S.fs.length → m.fb i < w.heap.size := fun i hi => (h.lo _ (h.kB i hi)).2
  refine { blk := ha.blk, dir := ha.dir.congr fun p hp => hfi _ (hok.dirN_lt (n := S.chg.length) (h.dirP.mem_iff.1 hp)), dirP := h.dirP, syn := ha.syn.congr fun p hp => hfi _ (hok.syn p (h.synP.mem_iff.1 hp)), synP := h.synP, chg := ha.chg, maps := ?_, file := ?_, row := ?_, inj := ?_, rinj := ?_, ne := h.ne, nec := h.nec, kF := .inl h.kF, kD := .inl h.kD, kS := .inl h.kS, kC := fun g e => .inl (h.kC g e), kM := fun b e => .inl (h.kM b e), kB := ?_, kR := ?_, lo := ?_ }
  · intro j b c h1 h2
    obtain ⟨C, h3, h4⟩ := ha.maps j b c h1 h2
    refine ⟨C, h3, h4.congr fun p hp => ?_⟩
    have hp' := h3.mem_iff.1 hp
    cases hp2 : p.2 with
    | none => rfl
    | some i =>
      have hc := hok.chg c (List.mem_of_getElem? h2)
      have hci : c.f = some i := by
        unfold chgL at hp'
        cases hf : c.f with
        | none =>
          simp only [hf] at hp'
          simp at hp'
          rw [hp'] at hp2
          cases hp2
        | some k =>
          simp only [hf] at hp'
          split at hp'
          · simp at hp'
            rw [hp'] at hp2
            exact hp2
          · simp at hp'
            rcases hp' with e | e
            · rw [e] at hp2
              cases hp2
            · rw [e] at hp2
              exact hp2
      exact hfi i (hc.1 i hci).1
  · intro j y hy
    rcases hget j y hy with ⟨rfl, rfl⟩ | ⟨hji, hy'⟩
    · simp only [VMem.more, if_true]
      exact Bk.new w _ _
    · simp only [VMem.more, if_neg hji]
      exact ha.file j y hy'
  · intro j y hy
    rcases hget j y hy with ⟨rfl, rfl⟩ | ⟨hji, hy'⟩
    · simp only [VMem.more, if_true]
      exact ⟨rfl, .inl ⟨rfl, rfl⟩⟩
    · simp only [VMem.more, if_neg hji]
      exact ha.row j y hy'
  · intro i j hi hj he
    simp at hi hj
    simp only [VMem.more] at he
    by_cases h1 : i = S.fs.length <;> by_cases h2 : j = S.fs.length
    · rw [h1, h2]
    · rw [if_pos h1, if_neg h2] at he
      have := hlo j (by omega)
      omega
    · rw [if_neg h1, if_pos h2] at he
      have := hlo i (by omega)
      omega
    · rw [if_neg h1, if_neg h2] at he
      exact h.inj i j (by omega) (by omega) he
  · intro i j hi hj g h3 h4
    simp at hi hj
    simp only [VMem.more] at h3 h4
    by_cases h1 : i = S.fs.length
    · rw [if_pos h1] at h3
      cases h3
    · by_cases h2 : j = S.fs.length
      · rw [if_pos h2] at h4
        cases h4
      · rw [if_neg h1] at h3
        rw [if_neg h2] at h4
        exact h.rinj i j (by omega) (by omega) g h3 h4
  · intro i hi
    simp at hi
    simp only [VMem.more]
    by_cases h1 : i = S.fs.length
    · rw [if_pos h1]
      exact .inr ⟨Nat.le_refl _, Nat.lt_succ_self _⟩
    · rw [if_neg h1]
      exact .inl (h.kB i (by omega))
  · intro i hi g hg
    simp at hi
    simp only [VMem.more] at hg
    by_cases h1 : i = S.fs.length
    · rw [if_pos h1] at hg
      cases hg
    · rw [if_neg h1] at hg
      exact .inl (h.kR i (by omega) g hg)
  · intro b e
    rw [hsz]
    rcases e with e | ⟨h1, h2⟩
    · have := h.lo b e
      exact ⟨this.1, by omega⟩
    · exact ⟨Nat.le_trans h.baseLe h1, h2⟩
end
end Go.Proofs.Ytdjmmdhjjdnbdaa

/- Layer 4: Create. -/
namespace Go.Proofs.Ytdjmmdhjjdnbdaa
open Go.RowKit

set_option maxRecDepth 100000 in
set_option maxHeartbeats 1000000 in
theorem vfCreate1 {base F bF bN : Nat} {w : World} {K : Nat → Prop} {S : VSt} {m : VMem} (h : Vf base w K F S m) (hok : S.Ok) {s : ByteArray} (hs : s ≠ noT)
    (hF : Bk w bF 25 #[ptV F]) (hN : Bk w bN 9 #[.string s]) (hlen : S.chg.length ≤ 1000000) (R : VSt × Nat)
    (hR : R = match S.get s with | some _ => (S, 5) | none => ({ S with chg := S.chg ++ [⟨s, some S.fs.length, noT⟩], fs := S.fs ++ [⟨[], 0⟩] }, 0)) :
    Calls Try.prog 37 #[ptV bF, ptV bN] w (VPost base w K F R) := by
  have c0 : w.cell? ⟨bF, 0, none⟩ = some (ptV F) := by rw [hF.cell 0]; rfl
  have c1 : w.cell? ⟨bN, 0, none⟩ = some (.string s) := by rw [hN.cell 0]; rfl
  have c3 : w.cell? ⟨F, 2, none⟩ = some (maV m.db) := by rw [h.blk.cell 2]; rfl
  have hlk := h.drew.look s true
  simp only [if_true] at hlk
  have hmm := @run_makeMap Try.prog
  cases hg : S.get s with
  | some i =>
    rw [hg] at hlk hR
    simp only [Option.map_some, Option.getD_some, Option.isSome_some] at hlk
    subst hR
    have H := Lib.hid h
    clear h hok hF hN hg
    go_enter Try.func37, Try.ntmps37
    go_wp2_with fail
    go_region
    go_wp2_with fail
    go_ret
    exact VPost.of H.out rfl H.out.drew (FrK.refl w Kno).drew fun _ e => e.elim
  | none =>
    rw [hg] at hlk hR
    simp only [Option.map_none, Option.getD_none, Option.isSome_none] at hlk
    have m1 := Mh.new (kv := strV) (vv := fiO (m.more S.fs.length (w.heap.size + 1)).fb) w
    have v1 := h.alloc (.map #[] 0)
    have hN1 := hN.alloc (.map #[] 0)
    have fr1 := (FrK.refl w Kno).alloc (.map #[] 0)
    have k1 : (w.alloc (.map #[] 0)).cell? ⟨bN, 0, none⟩ = some (.string s) := by rw [hN1.cell 0]; rfl
    obtain ⟨w1, e1⟩ : ∃ w1, w.alloc (.map #[] 0) = w1 := ⟨_, rfl⟩
    have s1 : w1.heap.size = w.heap.size + 1 := by rw [← e1]; simp
    rw [e1] at m1 v1 fr1
    have v2 := (v1.addFile hok).drew
    have m2 := (m1.alloc (.cells #[.slice none 0 0, .int .i64 0] 69)).drew
    have fr2 := (fr1.alloc (.cells #[.slice none 0 0, .int .i64 0] 69)).drew
    rw [s1] at v2
    obtain ⟨w2, e2⟩ : ∃ w2, (w1.alloc (.cells #[.slice none 0 0, .int .i64 0] 69)).drew = w2 := ⟨_, rfl⟩
    have s2 : w2.heap.size = w1.heap.size + 1 := by rw [← e2]; simp [World.drew]
    rw [e2] at v2 m2 fr2
    have H := Lib.hid h
    have E1 := Lib.hid e1
    have E2 := Lib.hid e2
    have M2 := Lib.hid m2
    have V2 := Lib.hid v2
    have FR2 := Lib.hid fr2
    have S1 := Lib.hid s1
    have S2 := Lib.hid s2
    have HR := Lib.hid hR
    clear h hok hF hN hg e1 e2 m1 m2 v1 v2 fr1 fr2 s1 s2 hN1 hR
    go_enter Try.func37, Try.ntmps37
    go_wp2_with fail
    go_region
    go_wp2_with (first
      | (rw [E1.out, E2.out]; refine wpList_mhIns _ rfl (.tmp 16) (.tmp 17) (.tmp 19) 70 rfl (strRun Try.underlying9) Try.underlying70 w.heap.size _ rfl M2.out s (some S.fs.length) rfl (by simp [fiO, VMem.more]; rfl) ?_
         rintro w3 hm3 hg3 hs3)
      | fail)
    have h := H.out
    have hs3' : w3.heap.size = w.heap.size + 2 := by rw [hs3, S2.out, S1.out]
    have hfr : FrK w2 w3 (Kis w.heap.size) := FrK.of_grown hg3 fun b _ e => (Option.some.inj e).symm
    have v3 := (V2.out.keep hfr fun b hb e => by
      simp only [Kis] at e
      rcases hb with hb | ⟨h1, h2⟩
      · have := (h.lo b hb).2
        omega
      · omega).bigger (K' := Kn K w.heap.size w3.heap.size) (fun b e => e.imp id fun ⟨h1, h2⟩ => ⟨by omega, by omega⟩) fun b e => by
        rcases e with e | ⟨h1, h2⟩
        · have := h.lo b e
          exact ⟨this.1, by omega⟩
        · exact ⟨Nat.le_trans h.baseLe h1, h2⟩
    have hdl := h.dir.lt
    have hsl := h.syn.lt
    have C := vfNote v3 (c := ⟨s, some S.fs.length, noT⟩) (n := S.fs.length + 1) ⟨(fun i e => ⟨by injection e with e1; omega, fun e2 => hs e2.symm⟩), (fun e => by cases e)⟩
      (show Mh strV (fiO (m.more S.fs.length (w.heap.size + 1)).fb) w3 w.heap.size [(s, some S.fs.length)] from hm3) (by simp [chgL]) ⟨by simp only [VMem.more]; omega, by simp only [VMem.more]; omega⟩ (.inr ⟨Nat.le_refl _, by omega⟩) hlen
    refine C.mono ?_
    rintro e w' ⟨rfl, ⟨m', -, -, hv⟩, hf⟩
    go_wp2_with fail
    go_ret
    have hR := HR.out
    subst hR
    refine ⟨rfl, m', hv.knn (by omega) hf.size, ((FR2.out.mono fun _ _ e => e.elim).trans hfr fun b hb e => ?_).trans hf fun b hb e => ?_⟩
    · simp only [Kis] at e
      omega
    · rcases e with e | ⟨h1, h2⟩
      · exact e
      · omega
end Go.Proofs.Ytdjmmdhjjdnbdaa

/- Layer 4: Create. -/
namespace Go.Proofs.Ytdjmmdhjjdnbdaa
open Go.RowKit

/-- What op's caller has to show. -/
theorem vfOpPost {base F n c B : Nat} {A : Option Addr} {w : World} {K : Nat → Prop} {S : VSt} {m : VMem} (h : Vf base w K F S m) (hok : S.Ok) (hops : S.ops ≤ 4611686018427387904)
    (xs : List ByteArray) (hr : Rd w B A (xs.map strV)) (hn : xs.length = n) (hnl : n ≤ 9223372036854775807) (hs : ∀ s ∈ xs, s.size ≤ 9223372036854775806)
    (g : Nat) (lb : Array Value) (eg : ∀ args w, (callFunc g args).run Try.prog w = .ok (.enter g args) w) (d : VSt → VSt × Nat)
    (q : xs.all vName = true → ∀ w1, Vf base w1 K F S.strike.1 m → FrK w w1 (Kis F) → S.strike.1.Ok → Calls Try.prog g lb w1 (VPost base w1 K F (d S.strike.1))) :
    Calls Try.prog 36 #[ptV F, .bool true, .func (.func g) #[] lb, .slice A n c] w (VPost base w K F (S.op (xs.all vName) d)) := by
  have hb := h.baseLe
  refine vfOp h hok hops true xs hr hn hnl hs g lb eg _ (fun hb1 => ?_) (fun hr w1 hv hf hne => ?_) (fun hr w1 hv hf he => ?_)
  · have e1 : xs.all vName = false := by simpa using hb1
    refine VPost.of h (r := 2) ?_ h (FrK.refl w Kno) fun b hb => hb.elim
    rw [e1, op_bad rfl]
  · have e1 : xs.all vName = true := by simpa using hr
    refine VPost.of h ?_ hv hf fun b hb => hb ▸ h.kF
    rw [e1, op_struck hne]
  · have e1 : xs.all vName = true := by simpa using hr
    refine (q e1 w1 hv hf hok.strike).mono ?_
    intro e w' hp
    have hp' := hp.after hf (fun b hb => hb ▸ h.kF) hb
    rw [e1, op_done he]
    exact ⟨_, hp'.1, hp'⟩
set_option maxRecDepth 100000 in
set_option maxHeartbeats 1000000 in
theorem vfCreate {base F : Nat} {w : World} {K : Nat → Prop} {S : VSt} {m : VMem} (h : Vf base w K F S m) (hok : S.Ok) (hops : S.ops ≤ 4611686018427387904) (s : ByteArray) (hs : s.size ≤ 9223372036854775806) (hlen : S.chg.length ≤ 1000000) :
    Calls Try.prog 12 #[ptV F, .string s] w (VPost base w K F (S.create s)) := by
  have hb := h.baseLe
  have hFlt := (h.lo F h.kF).2
  have b1 := Bk.new w 25 #[ptV F]
  have hw1 := (FrK.refl w Kno).alloc (.cells #[ptV F] 25)
  have v1 := h.alloc (.cells #[ptV F] 25)
  obtain ⟨w1, e1⟩ : ∃ w1, w.alloc (.cells #[ptV F] 25) = w1 := ⟨_, rfl⟩
  rw [e1] at b1 hw1 v1
  have s1 : w1.heap.size = w.heap.size + 1 := by rw [← e1]; simp
  have b2 := Bk.new w1 9 #[.string s]
  have b12 := b1.alloc (.cells #[.string s] 9)
  have hw2 := hw1.alloc (.cells #[.string s] 9)
  have v2 := v1.alloc (.cells #[.string s] 9)
  obtain ⟨w2, e2⟩ : ∃ w2, w1.alloc (.cells #[.string s] 9) = w2 := ⟨_, rfl⟩
  rw [e2] at b2 b12 hw2 v2
  have s2 : w2.heap.size = w1.heap.size + 1 := by rw [← e2]; simp
  have b13 := b12.alloc (.cells #[.string s] 9)
  have b23 := b2.alloc (.cells #[.string s] 9)
  have hw3 := hw2.alloc (.cells #[.string s] 9)
  have v3 := v2.alloc (.cells #[.string s] 9)
  have rd3 : Rd (w2.alloc (.cells #[.string s] 9)) (w2.heap.size + 1) (some ⟨w2.heap.size, 0, none⟩) ([s].map strV) := Rd.lit w2 #[.string s] 9
  have c1 : w2.cell? ⟨w.heap.size, 0, none⟩ = some (ptV F) := by rw [b12.cell 0]; rfl
  have c2 : w2.cell? ⟨w1.heap.size, 0, none⟩ = some (.string s) := by rw [b2.cell 0]; rfl
  obtain ⟨w3, e3⟩ : ∃ w3, w2.alloc (.cells #[.string s] 9) = w3 := ⟨_, rfl⟩
  rw [e3] at b13 b23 hw3 v3 rd3
  have C := vfOpPost (n := 1) (c := 1) v3 hok hops [s] rd3 rfl (by omega) (fun t ht => by simp at ht; subst ht; exact hs) 37 #[ptV w.heap.size, ptV w1.heap.size] (enters_of Try.func37 (by kernel_rfl) rfl)
    (fun T => match T.get s with | some _ => (T, 5) | none => ({ T with chg := T.chg ++ [⟨s, some T.fs.length, noT⟩], fs := T.fs ++ [⟨[], 0⟩] }, 0))
    fun hn w4 hv hf ho => vfCreate1 hv ho (vName_ne (by simpa using hn)) (hf.bk b13 (by simp only [Kis]; omega)) (hf.bk b23 (by simp only [Kis]; omega)) (by rw [(strike_same S).2.1]; exact hlen) _ rfl
  have hall : [s].all vName = vName s := by simp
  rw [hall] at C
  generalize hR : (S.op (vName s) fun T => match T.get s with | some _ => (T, 5) | none => ({ T with chg := T.chg ++ [⟨s, some T.fs.length, noT⟩], fs := T.fs ++ [⟨[], 0⟩] }, 0)) = R at C
  have hR' : S.create s = R := hR
  rw [hR']
  have C' : Calls Try.prog 36 #[ptV F, .bool true, .func (.func 37) #[] #[ptV w.heap.size, ptV w1.heap.size], .slice (some ⟨w2.heap.size, 0, none⟩) 1 1] w3 (VPost base w K F R) := C.mono fun e w' hp => hp.after hw3 (fun _ e => e.elim) hb
  rw [s2, s1] at C'
  have E1 := Lib.hid e1
  have E2 := Lib.hid e2
  have E3 := Lib.hid e3
  clear hR hR' C hall h hok b1 hw1 v1 e1 b2 b12 hw2 v2 e2 s1 s2 b13 b23 hw3 v3 rd3 e3
  have hmf : ∀ (fn : Fn) (first cap : Array Value) (w : World), (Instr.makeFunc fn first cap).run Try.prog w = .ok (.func fn first cap) w := fun _ _ _ _ => rfl
  go_enter Try.func12, Try.ntmps12
  go_wp2_with fail
  rw [E1.out, E2.out, E3.out]
  refine C'.mono ?_
  rintro e w' ⟨rfl, hQ⟩
  go_wp2_with fail
  go_ret
  exact ⟨rfl, hQ⟩
end Go.Proofs.Ytdjmmdhjjdnbdaa

/- Layer 4: Fuse, Fault, On, Ops, Size. -/
namespace Go.Proofs.Ytdjmmdhjjdnbdaa
open Go.RowKit

section
variable {base F : Nat} {w : World} {K : Nat → Prop} {S : VSt} {m : VMem}
set_option maxRecDepth 100000 in
set_option maxHeartbeats 1000000 in
theorem vfFuse (h : Vf base w K F S m) (n : Int) :
    Calls Try.prog 24 #[ptV F, .int .i64 n] w (VPost base w K F (S.setFuse n, 0)) := by
  have cN := vfNone h
  have c6 : w.cell? ⟨F, 6, none⟩ = some (.int .i64 S.fuse) := by rw [h.blk.cell 6]; rfl
  have f6 := h.blk.frozen 6
  have V : ∀ a, a = max (-1) n → VPost base w K F (S.setFuse n, 0) (.returned (.int .i64 (0 : Nat))) (w.setCell ⟨F, 6, none⟩ (.int .i64 a)) := fun a ha => by
    subst ha
    exact VPost.of h rfl (h.stored (S' := S.setFuse n) 6 _ (by simp [fsC, VSt.setFuse]) rfl rfl rfl) (FrK.set w F 6 _) fun b e => e ▸ h.kF
  have HV := Lib.hid V
  clear V h
  go_enter Try.func24, Try.ntmps24
  go_wp2_with fail
  refine cN.mono ?_
  rintro e w' ⟨rfl, rfl⟩
  go_wp2_with fail
  all_goals go_ret
  all_goals exact HV.out _ (by omega)
set_option maxRecDepth 100000 in
theorem vfOn_ (h : Vf base w K F S m) :
    Calls Try.prog 25 #[ptV F] w fun e w' => e = .returned (.bool (!S.off)) ∧ w' = w := by
  have cN := vfNone h
  have c5 : w.cell? ⟨F, 5, none⟩ = some (.bool S.off) := by rw [h.blk.cell 5]; rfl
  clear h
  go_enter Try.func25, Try.ntmps25
  go_wp2_with fail
  refine cN.mono ?_
  rintro e w' ⟨rfl, rfl⟩
  go_wp2_with fail
  go_ret
  exact ⟨rfl, rfl⟩
set_option maxRecDepth 100000 in
theorem vfOps (h : Vf base w K F S m) :
    Calls Try.prog 35 #[ptV F] w fun e w' => e = .returned (.int .i64 (S.ops : Nat)) ∧ w' = w := by
  have cN := vfNone h
  have c9 : w.cell? ⟨F, 9, none⟩ = some (.int .i64 (S.ops : Nat)) := by rw [h.blk.cell 9]; rfl
  clear h
  go_enter Try.func35, Try.ntmps35
  go_wp2_with fail
  refine cN.mono ?_
  rintro e w' ⟨rfl, rfl⟩
  go_wp2_with fail
  go_ret
  exact ⟨rfl, rfl⟩
set_option maxRecDepth 100000 in
set_option maxHeartbeats 1000000 in
theorem vfSize (h : Vf base w K F S m) (hok : S.Ok) (s : ByteArray) :
    Calls Try.prog 18 #[ptV F, .string s] w fun e w' => e = .returned (.int .i64 (S.size s)) ∧ w' = w := by
  have cN := vfNone h
  have c3 : w.cell? ⟨F, 2, none⟩ = some (maV m.db) := by rw [h.blk.cell 2]; rfl
  have hlk := h.look s true
  simp only [if_true] at hlk
  cases hg : S.get s with
  | none =>
    rw [hg] at hlk
    simp only [Option.map_none, Option.getD_none, Option.isSome_none] at hlk
    have hsz : S.size s = -1 := by unfold VSt.size; rw [hg]
    rw [hsz]
    clear h hok hg hsz
    go_enter Try.func18, Try.ntmps18
    go_wp2_with fail
    refine cN.mono ?_
    rintro e w' ⟨rfl, rfl⟩
    go_wp2_with fail
    go_ret
    exact ⟨rfl, rfl⟩
  | some i =>
    rw [hg] at hlk
    simp only [Option.map_some, Option.getD_some, Option.isSome_some] at hlk
    have hi := hok.get_lt hg
    have hf := h.file i _ (file_at hi)
    obtain ⟨A, c, hv, -, -⟩ := own_form (h.row i _ (file_at hi))
    have c0 : w.cell? ⟨m.fb i, 0, none⟩ = some (.slice A (S.file i).b.length c) := by rw [hf.cell 0, ← hv]; rfl
    have hsz : S.size s = ((S.file i).b.length : Int) := by unfold VSt.size; rw [hg]
    rw [hsz]
    clear h hok hg hsz hf hv
    go_enter Try.func18, Try.ntmps18
    go_wp2_with fail
    refine cN.mono ?_
    rintro e w' ⟨rfl, rfl⟩
    go_wp2_with fail
    go_ret
    exact ⟨rfl, rfl⟩
end
end Go.Proofs.Ytdjmmdhjjdnbdaa

/- Layer 4: Fault. -/
namespace Go.Proofs.Ytdjmmdhjjdnbdaa
open Go.RowKit

set_option maxRecDepth 100000 in
set_option maxHeartbeats 1000000 in
theorem vfFault {base F : Nat} {w : World} {K : Nat → Prop} {S : VSt} {m : VMem} (h : Vf base w K F S m) (n e : Int) :
    Calls Try.prog 26 #[ptV F, .int .i64 n, .int .i64 e] w (VPost base w K F (S.setFault n e)) := by
  have cN := vfNone h
  by_cases h7 : e ≠ 7 ∧ e ≠ 8
  · have a7 : (e != 7) = true := by simp; exact h7.1
    have a8 : (e != 8) = true := by simp; exact h7.2
    have hR : S.setFault n e = (S, 2) := by unfold VSt.setFault; rw [if_pos h7]
    rw [hR]
    have V := VPost.of (r := 2) h rfl h (FrK.refl w Kno) fun _ e => e.elim
    clear h h7 hR
    go_enter Try.func26, Try.ntmps26
    go_wp2_with fail
    refine cN.mono ?_
    rintro e' w' ⟨rfl, rfl⟩
    go_wp2_with fail
    go_ret
    exact V
  · have hR : S.setFault n e = ({ S with fault := max (-1) n, err := e.toNat }, 0) := by unfold VSt.setFault; rw [if_neg h7]
    have he : e = 7 ∨ e = 8 := by omega
    have c7 : w.cell? ⟨F, 7, none⟩ = some (.int .i64 S.fault) := by rw [h.blk.cell 7]; rfl
    have c8 : w.cell? ⟨F, 8, none⟩ = some (.int .i64 (S.err : Nat)) := by rw [h.blk.cell 8]; rfl
    have f7 := h.blk.frozen 7
    have f8 := h.blk.frozen 8
    have V : ∀ a, a = max (-1) n → VPost base w K F (S.setFault n e) (.returned (.int .i64 (0 : Nat))) ((w.setCell ⟨F, 7, none⟩ (.int .i64 a)).setCell ⟨F, 8, none⟩ (.int .i64 e)) := fun a ha => by
      subst ha
      have he' : e = (e.toNat : Int) := by omega
      rw [hR]
      have v1 := h.stored (S' := { S with fault := max (-1) n }) 7 (.int .i64 (max (-1) n)) (by simp [fsC]) rfl rfl rfl
      have v2 := v1.stored (S' := { S with fault := max (-1) n, err := e.toNat }) 8 (.int .i64 e) (by simp [fsC]; omega) rfl rfl rfl
      exact VPost.of h rfl v2 ((FrK.set w F 7 _).trans (FrK.set _ F 8 _) fun _ _ x => x) fun b x => x ▸ h.kF
    have HV := Lib.hid V
    clear V h h7 hR
    rcases he with rfl | rfl
    · go_enter Try.func26, Try.ntmps26
      go_wp2_with fail
      refine cN.mono ?_
      rintro e' w' ⟨rfl, rfl⟩
      go_wp2_with fail
      all_goals go_ret
      all_goals exact HV.out _ (by omega)
    · go_enter Try.func26, Try.ntmps26
      go_wp2_with fail
      refine cN.mono ?_
      rintro e' w' ⟨rfl, rfl⟩
      go_wp2_with fail
      all_goals go_ret
      all_goals exact HV.out _ (by omega)
end Go.Proofs.Ytdjmmdhjjdnbdaa

/- Layer 4: Turn. -/
namespace Go.Proofs.Ytdjmmdhjjdnbdaa
open Go.RowKit

theorem vf_xor {a b : Int} (ha : 0 ≤ a ∧ a ≤ 255) (hb : 0 ≤ b ∧ b ≤ 255) : bits .xor .u8 a b = ((a.toNat ^^^ b.toNat : Nat) : Int) ∧ a.toNat ^^^ b.toNat < 256 := by
  obtain ⟨x, rfl⟩ := Int.eq_ofNat_of_zero_le ha.1
  obtain ⟨y, rfl⟩ := Int.eq_ofNat_of_zero_le hb.1
  have hx : x ^^^ y < 2 ^ 8 := Nat.xor_lt_two_pow (by omega) (by omega)
  have h1 : (BitVec.ofInt 8 (x : Int)).toNat = x := by
    rw [BitVec.ofInt_natCast, BitVec.toNat_ofNat]; exact Nat.mod_eq_of_lt (by omega)
  have h2 : (BitVec.ofInt 8 (y : Int)).toNat = y := by
    rw [BitVec.ofInt_natCast, BitVec.toNat_ofNat]; exact Nat.mod_eq_of_lt (by omega)
  refine ⟨?_, hx⟩
  show IntKind.u8.wrap ((BitVec.ofInt 8 (x : Int) ^^^ BitVec.ofInt 8 (y : Int)).toNat : Int) = _
  rw [BitVec.toNat_xor, h1, h2]
  exact IntWalk.u8_in _ ⟨by omega, by omega⟩
set_option maxRecDepth 100000 in
set_option maxHeartbeats 1000000 in
theorem vfTurnB {base F : Nat} {w : World} {K : Nat → Prop} {S : VSt} {m : VMem} (h : Vf base w K F S m) (hok : S.Ok) (s : ByteArray) (at_ bits_ : Int) (hbi : 0 ≤ bits_ ∧ bits_ ≤ 255) :
    Calls Try.prog 33 #[ptV F, .string s, .int .i64 at_, .int .u8 bits_] w (VPost base w K F (S.turn s at_ bits_)) := by
  have cN := vfNone h
  have c3 : w.cell? ⟨F, 2, none⟩ = some (maV m.db) := by rw [h.blk.cell 2]; rfl
  have hlk := h.look s true
  simp only [if_true] at hlk
  cases hg : S.get s with
  | none =>
    rw [hg] at hlk
    simp only [Option.map_none, Option.getD_none, Option.isSome_none] at hlk
    have hR : S.turn s at_ bits_ = (S, 6) := by unfold VSt.turn; rw [hg]
    rw [hR]
    have V := VPost.of (r := 6) h rfl h (FrK.refl w Kno) fun _ e => e.elim
    clear h hok hg hR
    go_enter Try.func33, Try.ntmps33
    go_wp2_with fail
    refine cN.mono ?_
    rintro e w' ⟨rfl, rfl⟩
    go_wp2_with fail
    go_ret
    exact V
  | some i =>
    rw [hg] at hlk
    simp only [Option.map_some, Option.getD_some, Option.isSome_some] at hlk
    have hi := hok.get_lt hg
    have hf := h.file i _ (file_at hi)
    have hrow := h.row i _ (file_at hi)
    obtain ⟨A, c, hv, hnc, -⟩ := own_form hrow
    have c0 : w.cell? ⟨m.fb i, 0, none⟩ = some (.slice A (S.file i).b.length c) := by rw [hf.cell 0, ← hv]; rfl
    by_cases hr : at_ < 0 ∨ ((S.file i).b.length : Int) ≤ at_
    · have hR : S.turn s at_ bits_ = (S, 2) := by
        unfold VSt.turn
        rw [hg]
        simp only
        rw [if_pos hr]
      rw [hR]
      have V := VPost.of (r := 2) h rfl h (FrK.refl w Kno) fun _ e => e.elim
      clear h hok hg hR hf hrow hv
      by_cases h0 : at_ < 0
      · go_enter Try.func33, Try.ntmps33
        go_wp2_with fail
        refine cN.mono ?_
        rintro e w' ⟨rfl, rfl⟩
        go_wp2_with fail
        go_ret
        exact V
      · have h1 : ((S.file i).b.length : Int) ≤ at_ := by omega
        have h1' : at_ ≥ ((S.file i).b.length : Int) := h1
        have h1d : decide (at_ < 0) = false := by simp; omega
        go_enter Try.func33, Try.ntmps33
        go_wp2_with fail
        refine cN.mono ?_
        rintro e w' ⟨rfl, rfl⟩
        go_wp2_with fail
        go_ret
        exact V
    · obtain ⟨j, rfl⟩ := Int.eq_ofNat_of_zero_le (show 0 ≤ at_ by omega)
      have hj : j < (S.file i).b.length := by omega
      obtain ⟨x, hx⟩ : ∃ x, (S.file i).b[j]? = some x := ⟨_, List.getElem?_eq_getElem hj⟩
      have hxb := (hok.byt _ (List.mem_of_getElem? (file_at hi))).1 x (List.mem_of_getElem? hx)
      have hR : S.turn s (j : Int) bits_ = (S.setFile i ⟨(S.file i).b.set j ((x.toNat ^^^ bits_.toNat : Nat) : Int), (S.file i).s⟩, 0) := by
        unfold VSt.turn
        rw [hg]
        simp only
        rw [if_neg hr]
        congr 3
        apply List.ext_getElem?
        intro k
        simp only [Int.toNat_natCast, List.getElem?_modify, List.getElem?_set]
        by_cases hk : j = k
        · subst hk
          have hxe := (List.getElem?_eq_some_iff.1 hx).2
          simp [hj, hxe]
        · simp [hk]
      rw [hR]
      obtain ⟨g, hA⟩ : ∃ g, A = some ⟨g, 0, none⟩ := by
        rcases hrow.2 with ⟨e1, e2⟩ | ⟨g, cap, cur, e1, -⟩
        · omega
        · rw [hv] at e1
          injection e1 with e1
          exact ⟨g, e1⟩
      subst hA
      have hro := hrow
      rw [hv] at hro
      have hcell : w.cell? ⟨g, j, none⟩ = some (.int .u8 x) := by rw [hro.cellAt j (by omega)]; exact bv_get hx
      have hfz := hro.frozenAt j
      have hxor := (vf_xor hxb hbi).1
      have hst := (hro.stored j (.int .u8 ((x.toNat ^^^ bits_.toNat : Nat) : Int))).1
      have hbk : g ≠ m.fb i := by
        obtain ⟨cur, hc⟩ := own_bk (g := g) hro rfl
        exact ne_of_type hc hf (by decide)
      have V : VPost base w K F (S.setFile i ⟨(S.file i).b.set j ((x.toNat ^^^ bits_.toNat : Nat) : Int), (S.file i).s⟩, 0) (.returned (.int .i64 (0 : Nat))) (w.setCell ⟨g, j, none⟩ (.int .u8 ((x.toNat ^^^ bits_.toNat : Nat) : Int))) := by
        refine ⟨rfl, _, h.putFile (v' := m.bv i) (file_at hi) ((FrK.set w g j _).mono fun b _ e => .inr (by rw [hv, show b = g from e]; rfl)) (hf.far hbk.symm _) ?_ (fun g' hg' => .inl hg'), (FrK.set w g j _).mono fun b _ e => ?_⟩
        · rw [hv]
          have e1 : bv ((S.file i).b.set j ((x.toNat ^^^ bits_.toNat : Nat) : Int)) = (bv (S.file i).b).set j (.int .u8 ((x.toNat ^^^ bits_.toNat : Nat) : Int)) := by simp [bv, List.map_set]
          rw [e1]
          simpa using hst
        · rw [show b = g from e]
          exact h.kR i hi g (by rw [hv]; rfl)
      have HV := Lib.hid V
      have HX := Lib.hid hx
      clear h hok hg hR hf hrow hv hro hst hbk V hx hr
      have h2 : ¬ ((S.file i).b.length : Int) ≤ (j : Int) := by omega
      have h2d : decide ((j : Int) ≥ ((S.file i).b.length : Int)) = false := by simp; omega
      have h1d : decide ((j : Int) < 0) = false := by simp
      go_enter Try.func33, Try.ntmps33
      go_wp2_with fail
      refine cN.mono ?_
      rintro e w' ⟨rfl, rfl⟩
      go_wp2_with fail
      go_ret
      exact HV.out
end Go.Proofs.Ytdjmmdhjjdnbdaa

/- Layer 4: New. -/
namespace Go.Proofs.Ytdjmmdhjjdnbdaa
open Go.RowKit

theorem new_ok (limit : Int) : (VSt.new limit).Ok where
  syn p h := by cases h
  synN := List.nodup_nil
  chg c h := by cases h
  inj n := by
    simp [VSt.dirN, VSt.new]
  byt x h := by cases h
  fuse := ⟨by simp [VSt.new], by simp [VSt.new]⟩
  fault := ⟨by simp [VSt.new], by simp [VSt.new]⟩
set_option maxRecDepth 100000 in
set_option maxHeartbeats 1000000 in
theorem vfNewBad (w : World) (limit : Int) (h : limit < 0 ∨ 1073741824 < limit) :
    Calls Try.prog 11 #[.int .i64 limit] w fun e w' => e = .returned (.tuple #[.pointer none, .int .i64 2]) ∧ w' = w := by
  by_cases h0 : limit < 0
  · go_enter Try.func11, Try.ntmps11
    go_wp2_with fail
    go_ret2
    exact ⟨rfl, rfl⟩
  · have h1 : 1073741824 < limit := by omega
    have h0' : decide (limit < 0) = false := by simp; omega
    go_enter Try.func11, Try.ntmps11
    go_wp2_with fail
    go_ret2
    exact ⟨rfl, rfl⟩
set_option maxRecDepth 100000 in
set_option maxHeartbeats 1000000 in
theorem vfNew {base : Nat} (w : World) (limit : Int) (h : 0 ≤ limit ∧ limit ≤ 1073741824) (hb : base ≤ w.heap.size) :
    Calls Try.prog 11 #[.int .i64 limit] w fun e w' => ∃ F, e = .returned (.tuple #[ptV F, .int .i64 0]) ∧ (∃ m, Vf base w' (Kn Kno w.heap.size w'.heap.size) F (VSt.new limit) m) ∧ FrK w w' Kno := by
  have h0 : ¬ limit < 0 := by omega
  have h0' : decide (limit < 0) = false := by simp; omega
  have h1 : ¬ 1073741824 < limit := by omega
  have h1' : decide (1073741824 < limit) = false := by simp; omega
  have hmm := @run_makeMap Try.prog
  have m1 := Mh.new (kv := strV) (vv := fiV fun _ => 0) w
  have fr1 := (FrK.refl w Kno).alloc (.map #[] 0)
  obtain ⟨w1, e1⟩ : ∃ w1, w.alloc (.map #[] 0) = w1 := ⟨_, rfl⟩
  have s1 : w1.heap.size = w.heap.size + 1 := by rw [← e1]; simp
  rw [e1] at m1 fr1
  have m2 := Mh.new (kv := strV) (vv := fiV fun _ => 0) w1
  have m12 := m1.alloc (.map #[] 0)
  have fr2 := fr1.alloc (.map #[] 0)
  obtain ⟨w2, e2⟩ : ∃ w2, w1.alloc (.map #[] 0) = w2 := ⟨_, rfl⟩
  have s2 : w2.heap.size = w1.heap.size + 1 := by rw [← e2]; simp
  rw [e2] at m2 m12 fr2
  obtain ⟨M, hM⟩ : ∃ M : VMem, M = ⟨w.heap.size, w1.heap.size, .slice none 0 0, [], fun _ => 0, fun _ => .slice none 0 0, [], []⟩ := ⟨_, rfl⟩
  have m22 := m2.alloc (.cells (fsC (VSt.new limit) M) 59)
  have m13 := m12.alloc (.cells (fsC (VSt.new limit) M) 59)
  have fr3 := fr2.alloc (.cells (fsC (VSt.new limit) M) 59)
  have b3 := Bk.new w2 59 (fsC (VSt.new limit) M)
  have HE : fsC (VSt.new limit) M = #[.bool true, .int .i64 limit, .map (some w.heap.size), .map (some (w.heap.size + 1)), .slice none 0 0, .bool false, .int .i64 (-1), .int .i64 (-1), .int .i64 0, .int .i64 0] := by
    rw [hM, ← s1]
    rfl
  obtain ⟨w3, e3⟩ : ∃ w3, w2.alloc (.cells (fsC (VSt.new limit) M) 59) = w3 := ⟨_, rfl⟩
  have s3 : w3.heap.size = w2.heap.size + 1 := by rw [← e3]; simp
  rw [e3] at m22 m13 fr3 b3
  have V : Vf base w3 (Kn Kno w.heap.size w3.heap.size) w2.heap.size (VSt.new limit) M := by
    have hne : w.heap.size ≠ w1.heap.size := by omega
    have hk1 : w.heap.size ≤ w2.heap.size ∧ w2.heap.size < w3.heap.size := ⟨by omega, by omega⟩
    have hk2 : w.heap.size < w3.heap.size := by omega
    have hk3 : w.heap.size ≤ w1.heap.size ∧ w1.heap.size < w3.heap.size := ⟨by omega, by omega⟩
    subst hM
    refine { blk := b3, dir := m13, dirP := List.Perm.refl _, syn := m22, synP := List.Perm.refl _, chg := ⟨rfl, .inl ⟨rfl, rfl⟩⟩, maps := (fun i b c h1 h2 => by simp at h1), file := (fun i x hx => by simp [VSt.new] at hx), row := (fun i x hx => by simp [VSt.new] at hx), inj := (fun i j hi => by simp [VSt.new] at hi), rinj := (fun i j hi => by simp [VSt.new] at hi), ne := hne, nec := (fun b hb => by simp at hb), kF := .inr hk1, kD := .inr ⟨Nat.le_refl _, hk2⟩, kS := .inr hk3, kC := (fun g e => by simp [Value.ownBlock] at e), kM := (fun b hb => by simp at hb), kB := (fun i hi => by simp [VSt.new] at hi), kR := (fun i hi => by simp [VSt.new] at hi), lo := fun b e => ?_ }
    rcases e with e | ⟨h1, h2⟩
    · exact e.elim
    · exact ⟨by omega, h2⟩
  have S1 := Lib.hid s1
  have S2 := Lib.hid s2
  have HV := Lib.hid V
  have HF := Lib.hid fr3
  have E1 := Lib.hid e1
  have E2 := Lib.hid e2
  rw [HE] at e3
  have E3 := Lib.hid e3
  clear V fr3 e1 e2 e3 m1 m2 m12 m22 m13 fr1 fr2 b3 hM HE h hb
  go_enter Try.func11, Try.ntmps11
  go_wp2_with fail
  go_ret2
  rw [E1.out, E2.out, E3.out]
  refine ⟨w2.heap.size, ?_, ⟨M, HV.out⟩, HF.out⟩
  rw [S2.out, S1.out]
  rfl
end Go.Proofs.Ytdjmmdhjjdnbdaa
