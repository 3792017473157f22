/- Texts of the proof of VfsScriptSaid, joined: VrS VrT VrU VrX VrV VsA VgR AcI. -/
import Derived.Test.YtdjmmdhjjdnbdaaJVfsScript14
import Derived.Deep.RegionHeld3
import Derived.Test.YtdjmmdhjjdnbdaaJVfsScript12
import Derived.Lib.SlBytesConst
import Derived.Test.YtdjmmdhjjdnbdaaJVfsScript3
import Derived.Deep.Slices
/- Layer 4: the document's Names. -/
namespace Go.Proofs.Ytdjmmdhjjdnbdaa
open Go.RowKit

set_option maxRecDepth 100000 in
theorem rvNames {base F : Nat} {w : World} {K : Nat → Prop} {S : VSt} {m : RMem} (h : Rf base w K F S m) (hok : S.Ok) (hlen : S.chg.length ≤ 1000000) (hfl : S.fs.length ≤ 1000000) :
    Calls Try.prog 63 #[ptV F] w (NamesPost w S.now) := by
  have CN := Lib.hid (rvNow h hok hlen)
  have HL := Lib.hid (hok.dir_len S.chg.length)
  clear h hok
  go_enter Try.func63, Try.ntmps63
  go_wp2_with fail
  refine CN.out.mono ?_
  rintro e w2 ⟨d, D, rfl, hm, hp, hd, hb2⟩
  have hDl : D.length ≤ 1000000 := by
    have h1 := hp.length_eq
    have h2 : S.now.length ≤ S.fs.length := HL.out
    omega
  have CS := Lib.hid (rvSorted hm hDl)
  have HP := Lib.hid hp
  have HB := Lib.hid hb2
  clear hm hp hb2 CN hDl
  go_wp2_with fail
  refine CS.out.mono ?_
  rintro e w3 ⟨A, c, l, rfl, h1, h2, h3, h4, h5⟩
  have H := Lib.hid (And.intro h1 (And.intro h2 (And.intro h3 (And.intro h4 h5))))
  clear h1 h2 h3 h4 h5 CS
  go_wp2_with fail
  go_ret
  obtain ⟨h1, h2, h3, h4, h5⟩ := H.out
  have hs := HB.out.size
  exact ⟨A, c, l, rfl, h1, h2.trans (HP.out.map _), h3, fun a e => Nat.le_trans hs (h4 a e), HB.out.trans (h5.mono hs)⟩
end Go.Proofs.Ytdjmmdhjjdnbdaa

/- Layer 4: the document's files behind some rounds of a crash. -/
namespace Go.Proofs.Ytdjmmdhjjdnbdaa
open Go.RowKit

/-- A map of numbers is a map of what they stand for. -/
theorem Mh.raw {κ ν μ : Type} {kv : κ → Value} {vv : μ → Value} {f : ν → μ} {w : World} {b : Nat} {L : List (κ × ν)} (h : Mh kv (fun x => vv (f x)) w b L) : Mh kv vv w b (L.map fun p => (p.1, f p.2)) := by
  obtain ⟨T, c, h1, rfl⟩ := h
  refine ⟨T.map fun t => ((t.1.1, f t.1.2), t.2), c, ⟨?_, ?_, ?_, fun t ht => ?_⟩, by simp⟩
  · have e : mhE kv vv (T.map fun t => ((t.1.1, f t.1.2), t.2)) = mhE kv (fun x => vv (f x)) T := by simp [mhE]
    rw [e]
    exact h1.at_
  · have e : (T.map fun t => ((t.1.1, f t.1.2), t.2)).map (fun t : (κ × μ) × Nat => t.1.1) = T.map fun t => t.1.1 := by simp
    rw [e]
    exact h1.keys
  · have e : (T.map fun t => ((t.1.1, f t.1.2), t.2)).map (fun t : (κ × μ) × Nat => t.2) = T.map (·.2) := by simp
    rw [e]
    exact h1.born
  · obtain ⟨u, hu, rfl⟩ := List.mem_map.1 ht
    exact h1.lt u hu
/-- A name's file made anew. -/
theorem mgPut_fb {D : List (ByteArray × Nat)} {fb : Nat → Nat} {s : ByteArray} {x g : Nat} (hk : (D.map (·.1)).Nodup) (hv : (D.map (·.2)).Nodup) (hm : (s, x) ∈ D) :
    mgPut s g (D.map fun p => (p.1, fb p.2)) = D.map fun p => (p.1, if p.2 = x then g else fb p.2) := by
  obtain ⟨i, hi, he⟩ := List.mem_iff_getElem.1 hm
  have hk2 : ((D.map fun p => (p.1, fb p.2)).map (·.1)).Nodup := by
    rw [List.map_map]
    exact hk
  rw [mgPut_old (i := i) (u := fb x) hk2 (by rw [List.getElem?_map, List.getElem?_eq_getElem hi, he]; rfl)]
  apply List.ext_getElem?
  intro j
  rw [List.getElem?_set, List.getElem?_map, List.getElem?_map]
  by_cases hj : i = j
  · subst hj
    rw [if_pos rfl, List.length_map, if_pos hi, List.getElem?_eq_getElem hi, he]
    simp
  · rw [if_neg hj]
    cases hq : D[j]? with
    | none => rfl
    | some p =>
      have hne : p.2 ≠ x := fun e => hj (by
        obtain ⟨hj2, hp⟩ := List.getElem?_eq_some_iff.1 hq
        have h1 := List.pairwise_iff_getElem.1 hv
        rcases Nat.lt_trichotomy i j with h | h | h
        · have := h1 i j (by rw [List.length_map]; exact hi) (by rw [List.length_map]; exact hj2) h
          simp [he, hp, e] at this
        · exact h
        · have := h1 j i (by rw [List.length_map]; exact hj2) (by rw [List.length_map]; exact hi) h
          simp [he, hp, e] at this)
      simp [hne]
/-- Files as they lie. -/
structure Fil (base : Nat) (w : World) (K : Nat → Prop) (fs : List VFile) (fb : Nat → Nat) (bvs : Nat → Value) : Prop where
  file : ∀ (i : Nat) (x : VFile), fs[i]? = some x → Bk w (fb i) 97 #[bvs i, .int .i64 (x.s : Nat)]
  row : ∀ (i : Nat) (x : VFile), fs[i]? = some x → w.ownsRow base 5 1 (bvs i) x.b.length (bv x.b)
  inj : ∀ i j, i < fs.length → j < fs.length → fb i = fb j → i = j
  kB : ∀ i, i < fs.length → K (fb i)
  kR : ∀ i, i < fs.length → ∀ g, (bvs i).ownBlock = some g → K g
  lo : ∀ b, K b → base ≤ b ∧ b < w.heap.size
theorem Rf.fil {base F : Nat} {w : World} {K : Nat → Prop} {S : VSt} {m : RMem} (h : Rf base w K F S m) : Fil base w K S.fs m.fb m.bv := ⟨h.file, h.row, h.inj, h.kB, h.kR, h.lo⟩
theorem Fil.later {base : Nat} {w w' : World} {K K' : Nat → Prop} {fs : List VFile} {fb : Nat → Nat} {bvs : Nat → Value} (h : Fil base w K fs fb bvs) (hb : Below w.heap.size w w') (hk : ∀ b, K b → K' b) (hl : ∀ b, K' b → base ≤ b ∧ b < w'.heap.size) : Fil base w' K' fs fb bvs where
  file i x e := (hb.block _ (h.lo _ (h.kB i (List.getElem?_eq_some_iff.1 e).1)).2).trans (h.file i x e)
  row i x e := own_of (h.row i x e) fun g hg => hb.block _ (h.lo _ (h.kR i (List.getElem?_eq_some_iff.1 e).1 g hg)).2
  inj := h.inj
  kB i e := hk _ (h.kB i e)
  kR i e g hg := hk _ (h.kR i e g hg)
  lo := hl
/-- A file made anew: its block, its row behind all that lay. -/
theorem Fil.new {base x g : Nat} {w w' : World} {K K' : Nat → Prop} {fs : List VFile} {fb : Nat → Nat} {bvs : Nat → Value} (h : Fil base w K fs fb bvs) (hb : Below w.heap.size w w') (hk : ∀ b, K b → K' b) (hl : ∀ b, K' b → base ≤ b ∧ b < w'.heap.size)
    {y : VFile} {v : Value} (hx : x < fs.length) (hg : w.heap.size ≤ g) (hgK : K' g) (hf : Bk w' g 97 #[v, .int .i64 (y.s : Nat)]) (hr : w'.ownsRow base 5 1 v y.b.length (bv y.b)) (hvK : ∀ q, v.ownBlock = some q → K' q) :
    Fil base w' K' (fs.set x y) (fun i => if i = x then g else fb i) (fun i => if i = x then v else bvs i) := by
  have h' := h.later hb hk hl
  have hget : ∀ (j : Nat) (z : VFile), (fs.set x y)[j]? = some z → (j = x ∧ z = y) ∨ (j ≠ x ∧ fs[j]? = some z) := fun j z hz => by
    rw [List.getElem?_set] at hz
    by_cases hji : x = j
    · subst hji
      rw [if_pos rfl, if_pos hx] at hz
      exact .inl ⟨rfl, (Option.some.inj hz).symm⟩
    · rw [if_neg hji] at hz
      exact .inr ⟨fun e => hji e.symm, hz⟩
  refine ⟨fun j z hz => ?_, fun j z hz => ?_, fun i j hi hj e => ?_, fun i hi => ?_, fun i hi q hq => ?_, hl⟩
  · rcases hget j z hz with ⟨rfl, rfl⟩ | ⟨h1, h2⟩
    · simp only [if_true]
      exact hf
    · simp only [if_neg h1]
      exact h'.file j z h2
  · rcases hget j z hz with ⟨rfl, rfl⟩ | ⟨h1, h2⟩
    · simp only [if_true]
      exact hr
    · simp only [if_neg h1]
      exact h'.row j z h2
  · rw [List.length_set] at hi hj
    by_cases h1 : i = x <;> by_cases h2 : j = x
    · rw [h1, h2]
    · simp only [if_pos h1, if_neg h2] at e
      have := (h.lo _ (h.kB j hj)).2
      omega
    · simp only [if_neg h1, if_pos h2] at e
      have := (h.lo _ (h.kB i hi)).2
      omega
    · simp only [if_neg h1, if_neg h2] at e
      exact h.inj i j hi hj e
  · rw [List.length_set] at hi
    by_cases h1 : i = x
    · simp only [if_pos h1]
      exact hgK
    · simp only [if_neg h1]
      exact h'.kB i hi
  · rw [List.length_set] at hi
    by_cases h1 : i = x
    · simp only [if_pos h1] at hq
      exact hvK q hq
    · simp only [if_neg h1] at hq
      exact h'.kR i hi q hq
end Go.Proofs.Ytdjmmdhjjdnbdaa

/- Layer 4: what the document's Crash leaves. -/
namespace Go.Proofs.Ytdjmmdhjjdnbdaa
open Go.RowKit

/-- The stores at Crash's end. -/
abbrev crashW (w : World) (F d : Nat) : World := ((((w.setCell ⟨F, 1, none⟩ (maV d)).setCell ⟨F, 2, none⟩ (.slice none 0 0)).setCell ⟨F, 3, none⟩ (.bool false)).setCell ⟨F, 4, none⟩ (.int .i64 (-1))).setCell ⟨F, 5, none⟩ (.int .i64 (-1))
theorem crashW_frK (w : World) (F d : Nat) : FrK w (crashW w F d) (Kis F) :=
  ((((FrK.set w F 1 _).trans (FrK.set _ F 2 _) fun _ _ e => e).trans (FrK.set _ F 3 _) fun _ _ e => e).trans (FrK.set _ F 4 _) fun _ _ e => e).trans (FrK.set _ F 5 _) fun _ _ e => e
theorem Rf.crashed {base F d : Nat} {w w' : World} {K K' : Nat → Prop} {S : VSt} {m : RMem} {fs : List VFile} {fb : Nat → Nat} {bvs : Nat → Value} {D L : List (ByteArray × Nat)}
    (h : Rf base w K F S m) (hb : Below w.heap.size w w') (hk : ∀ b, K b → K' b) (hf : Fil base w' K' fs fb bvs) (hm : Mh strV (fiV fb) w' d D) (hp : D.Perm L) (hd : K' d) :
    Rf base (crashW w' F d) K' F { S with syn := L, chg := [], off := false, fuse := -1, fault := -1, fs := fs } ⟨d, .slice none 0 0, fb, bvs, D⟩ := by
  have hB : Bk w' F 82 (rfC S m) := (hb.block _ h.blk.lt).trans h.blk
  have hfr := crashW_frK w' F d
  have hdF : d ≠ F := fun e => by
    obtain ⟨es, c, h1⟩ := hm.obj
    rw [e, show w'.heap[F]? = _ from hB] at h1
    cases h1
  refine { blk := ?_, syn := hm.of (hfr.block _ hm.lt hdF), synP := hp, chg := World.ownsRow_nil _ _ _ _, file := ?_, row := ?_, inj := hf.inj, kF := hk _ h.kF, kS := hd, kC := fun g e => by simp [Value.ownBlock] at e, kB := hf.kB, kR := hf.kR, lo := ?_ }
  · have e : rfC { S with syn := L, chg := [], off := false, fuse := -1, fault := -1, fs := fs } ⟨d, .slice none 0 0, fb, bvs, D⟩ = (((((rfC S m).setIfInBounds 1 (maV d)).setIfInBounds 2 (.slice none 0 0)).setIfInBounds 3 (.bool false)).setIfInBounds 4 (.int .i64 (-1))).setIfInBounds 5 (.int .i64 (-1)) := by simp [rfC]
    rw [e]
    exact ((((hB.set 1 _).set 2 _).set 3 _).set 4 _).set 5 _
  · intro j y hy
    have h4 := hf.file j y hy
    exact (hfr.block _ h4.lt (ne_of_type h4 hB (by decide))).trans h4
  · intro j y hy
    refine own_of (hf.row j y hy) fun g hg => ?_
    obtain ⟨cur, hcur⟩ := own_bk (hf.row j y hy) hg
    exact hfr.block _ hcur.lt (ne_of_type hcur hB (by decide))
  · intro b e
    have h1 := hf.lo b e
    exact ⟨h1.1, Nat.lt_of_lt_of_le h1.2 hfr.size⟩
/-- What Crash comes to. -/
def RCrash (base : Nat) (w : World) (K : Nat → Prop) (F : Nat) (S : VSt) (n : Int) (keep : List Int) (e : Ending) (w' : World) : Prop :=
  e = .returned (.tuple #[]) ∧ ∃ L, L.Perm (S.dirN (VSt.modulo n S.chg.length)) ∧ SortV (L.map (·.1)) ∧ ∃ m', Rf base w' (Kn K w.heap.size w'.heap.size) F (S.crash n keep L) m' ∧ FrK w w' K
/-- The names in order, and their files. -/
theorem names_files {l : List ByteArray} {D : List (ByteArray × Nat)} (hk : (D.map (·.1)).Nodup) (hp : l.Perm (D.map (·.1))) : ∃ L : List (ByteArray × Nat), L.map (·.1) = l ∧ L.Perm D := by
  refine ⟨l.map fun s => (s, (mgGet s D).getD 0), ?_, ?_⟩
  · rw [List.map_map]
    exact List.map_id l
  · have h1 : ((D.map (·.1)).map fun s => (s, (mgGet s D).getD 0)) = D := by
      rw [List.map_map]
      conv => rhs; rw [← List.map_id D]
      refine List.map_congr_left fun p hp => ?_
      simp only [Function.comp_apply, id]
      rw [mgGet_some (v := p.2) hk hp]
      rfl
    exact (hp.map _).trans (by rw [h1])
end Go.Proofs.Ytdjmmdhjjdnbdaa

/- Layer 4: words for the round of the document's Crash. -/
namespace Go.Proofs.Ytdjmmdhjjdnbdaa
open Go.RowKit

theorem step_app8 {w : World} {ops : Array Oper} {o : Oper} {a : Act} {K : Act → World → Prop} {Q : Exit → Act → World → Prop} {E : Prop} (hw : Region.wanted o (yielded ops a.tmps) = true) (s x : Operand)
    (ho : o.op = .call { callee := .builtin .append, args := #[s, x], argTypes := #[24, 24] })
    (base : Nat) (v : Value) (n : Nat) (xs : List Int) (hs : a.eval s = v) (hown : w.ownsRow base 5 1 v n (bv xs))
    (B : Nat) (A : Option Addr) (m c : Nat) (news : List Int) (hx : a.eval x = .slice A m c) (hl : news.length = m) (hr : Rd w B A (bv news))
    (hbytes : n + m ≤ 140737488355328) (hbase : base ≤ w.heap.size)
    (h : ∀ A' c' w', w'.ownsRow base 5 1 (.slice A' (n + m) c') (n + m) (bv (xs ++ news)) → w.grownBy w' v.ownBlock → ((Value.slice A' (n + m) c').ownBlock = v.ownBlock ∨ (Value.slice A' (n + m) c').ownBlock = some w.heap.size) → K (a.put o.dst (.slice A' (n + m) c')) w') :
    if Region.wanted o (yielded ops a.tmps) = true then Oper.wp Try.prog o a w K Q else E := by
  rw [if_pos hw]
  obtain ⟨i0, hi0, hz0, hz1, hz2⟩ := info_parts (show (Try.prog.info? 5).map (fun i => (i.zero, i.size, i.bytes)) = some (some (.int .u8 0), 1, 1) from by kernel_rfl)
  refine wp_app w s x _ ho base 5 i0 _ 1 1 Try.underlying24 hi0 hz0 hz1 hz2 rfl (by omega) v n (bv xs) hs hown B A m c (bv news) hx (by rw [bv_length]; omega) hr (bv_one news) (by simp only [maxLen]; omega) (by omega) hbase ?_
  intro A' c' w' h1 h2 h3 h4
  rw [← bv_append] at h1
  exact h A' c' w' h1 h2 h3
theorem step_mhPut {κ ν : Type} [DecidableEq κ] {kv : κ → Value} {vv : ν → Value} {P : Program} {w : World} {ops : Array Oper} {o : Oper} {a : Act} {K : Act → World → Prop} {Q : Exit → Act → World → Prop} {E : Prop} (hw : Region.wanted o (yielded ops a.tmps) = true)
    (m x y : Operand) (t : TypeId) (hop : o.op = Op.mapUpdate t m x y) {kt e : TypeId} (KR : KeyRun P kt kv) (ht : P.underlying t = some (.map kt e))
    (b : Nat) (L : List (κ × ν)) (hm : a.eval m = .map (some b)) (hb : Mh kv vv w b L) (k : κ) (v : ν) (hx : a.eval x = kv k) (hv : a.eval y = vv v)
    (hK : ∀ w', Mh kv vv w' b (mgPut k v L) → w.grownBy w' (some b) → w'.heap.size = w.heap.size → K (a.put o.dst undef) w') :
    if Region.wanted o (yielded ops a.tmps) = true then Oper.wp P o a w K Q else E := by
  rw [if_pos hw]
  obtain ⟨es, c, hrun, h2⟩ := run_mhPut KR ht hb k v
  unfold Oper.wp
  simp [execOp, hop, hm, hx, hv, hrun, Result.andThen]
  exact hK _ h2 (putObj_grown w b _) (by simp)
/-- A map of what numbers stand for is a map of numbers. -/
theorem Mh.unraw {κ ν μ : Type} {kv : κ → Value} {vv : μ → Value} {f : ν → μ} {w : World} {b : Nat} {L : List (κ × ν)} (h : Mh kv vv w b (L.map fun p => (p.1, f p.2))) : Mh kv (fun x => vv (f x)) w b L := by
  obtain ⟨T, c, h1, h2⟩ := h
  have hex : ∀ (L : List (κ × ν)) (T : List ((κ × μ) × Nat)), T.map (·.1) = L.map (fun p => (p.1, f p.2)) → ∃ U : List ((κ × ν) × Nat), U.map (·.1) = L ∧ U.map (fun t => ((t.1.1, f t.1.2), t.2)) = T := by
    intro L
    induction L with
    | nil =>
      intro T hT
      have : T = [] := by simpa using hT
      exact ⟨[], rfl, by rw [this]; rfl⟩
    | cons p L ih =>
      intro T hT
      cases T with
      | nil => simp at hT
      | cons t T =>
        rw [List.map_cons, List.map_cons] at hT
        injection hT with h3 h4
        obtain ⟨U, h5, h6⟩ := ih T h4
        refine ⟨(p, t.2) :: U, by rw [List.map_cons, h5], ?_⟩
        rw [List.map_cons, h6]
        obtain ⟨t1, t2⟩ := t
        simp only at h3 ⊢
        rw [← h3]
  obtain ⟨U, h3, rfl⟩ := hex L T h2
  refine ⟨U, c, ⟨?_, ?_, ?_, fun t ht => ?_⟩, h3⟩
  · have e : mhE kv (fun x => vv (f x)) U = mhE kv vv (U.map fun t => ((t.1.1, f t.1.2), t.2)) := by simp [mhE]
    rw [e]
    exact h1.at_
  · have e : (U.map fun t => ((t.1.1, f t.1.2), t.2)).map (fun t : (κ × μ) × Nat => t.1.1) = U.map fun t => t.1.1 := by simp
    rw [← e]
    exact h1.keys
  · have e : (U.map fun t => ((t.1.1, f t.1.2), t.2)).map (fun t : (κ × μ) × Nat => t.2) = U.map (·.2) := by simp
    rw [← e]
    exact h1.born
  · exact h1.lt _ (List.mem_map.2 ⟨t, ht, rfl⟩)
/-- Another block that is a map has changed. -/
theorem Fil.put {base d : Nat} {w w' : World} {K : Nat → Prop} {fs : List VFile} {fb : Nat → Nat} {bvs : Nat → Value} (h : Fil base w K fs fb bvs) (hf : FrK w w' (Kis d)) (hd : ∃ es c, w.heap[d]? = some (.map es c)) (hs : w'.heap.size = w.heap.size) : Fil base w' K fs fb bvs := by
  obtain ⟨es, c, hd⟩ := hd
  have hne : ∀ {g : Nat} {t : TypeId} {cs : Array Value}, Bk w g t cs → w'.heap[g]? = w.heap[g]? := fun {g t cs} hg => hf.block g hg.lt fun e => by
    rw [show g = d from e] at hg
    rw [show w.heap[d]? = _ from hg] at hd
    cases hd
  exact ⟨fun i x e => (hne (h.file i x e)).trans (h.file i x e), fun i x e => own_of (h.row i x e) fun g hg => by
    obtain ⟨cur, hc⟩ := own_bk (h.row i x e) hg
    exact hne hc, h.inj, h.kB, h.kR, fun b e => by rw [hs]; exact h.lo b e⟩
/-- How much is kept: three ways. -/
theorem kept_cases {y : VFile} {keep : List Int} {i nk : Nat} (hs : y.s ≤ y.b.length) (hnk : keep.length = nk) : ∃ kq : Nat, VSt.kept y keep i = y.s + kq ∧ y.s + kq ≤ y.b.length ∧
    ((nk ≤ i ∧ kq = 0) ∨ (∃ kv, i < nk ∧ keep[i]? = some kv ∧ ¬ 0 < kv ∧ kq = 0) ∨ (∃ kv, i < nk ∧ keep[i]? = some kv ∧ 0 < kv ∧ kv % ((y.b.length : Int) - (y.s : Int) + 1) = (kq : Int))) := by
  have e : VSt.kept y keep i = y.s + match keep[i]? with | some k => VSt.modulo k (y.b.length - y.s) | none => 0 := rfl
  rcases Nat.lt_or_ge i nk with h | h
  · have hk := List.getElem?_eq_getElem (show i < keep.length by omega)
    rw [hk] at e
    have hm := modulo_le (keep[i]) (y.b.length - y.s)
    obtain ⟨kq, hkq⟩ : ∃ kq, VSt.modulo keep[i] (y.b.length - y.s) = kq := ⟨_, rfl⟩
    simp only [hkq] at e
    rw [hkq] at hm
    refine ⟨kq, e, by omega, ?_⟩
    rw [← hkq]
    by_cases h0 : 0 < keep[i]
    · refine .inr (.inr ⟨_, h, hk, h0, ?_⟩)
      have e2 : (((y.b.length - y.s : Nat) : Int) + 1) = (y.b.length : Int) - (y.s : Int) + 1 := by omega
      unfold VSt.modulo
      rw [if_neg (by omega), e2]
      have := Int.emod_nonneg keep[i] (show (y.b.length : Int) - (y.s : Int) + 1 ≠ 0 by omega)
      omega
    · refine .inr (.inl ⟨_, h, hk, h0, ?_⟩)
      unfold VSt.modulo
      split
      · rfl
      · have : keep[i] = 0 := by omega
        rw [this]
        simp
  · rw [List.getElem?_eq_none (by omega)] at e
    exact ⟨0, e, by omega, .inl ⟨h, rfl⟩⟩
set_option maxRecDepth 100000 in
theorem run_slH8 (w : World) (a : Option Addr) (n c k : Nat) (hk : k ≤ c) (hz : Option.map (fun x : Addr => x.add 0) a = a) :
    (Instr.slice 24 (.slice a n c) none (some (.int .i64 (k : Nat))) none).run Try.prog w = .ok (.slice a k c) w := by
  have h1 := run_slice_h (P := Try.prog) w 24 a n c Try.underlying24 .i64 (k : Nat) (by omega) (by omega)
  rw [h1]
  have hs : (sizeOf (Try.prog.elem 24)).run Try.prog w = .ok 1 w := by kernel_rfl
  rw [hs]
  simp [Result.andThen, sliced, hz]
theorem own_zero {w : World} {base : Nat} {t : TypeId} {n c : Nat} {A : Option Addr} {xs : List Value} (h : w.ownsRow base t 1 (.slice A n c) n xs) : Option.map (fun x : Addr => x.add 0) A = A := by
  rcases h.2 with ⟨e1, -⟩ | ⟨g, cap, cur, e1, -⟩
  · injection e1 with e2
    rw [e2]
    rfl
  · injection e1 with e2
    rw [e2]
    rfl
/-- What a round leaves. -/
theorem crash_round {base d i x : Nat} {s : ByteArray} {y : VFile} {w3 wr w5 w6 : World} {K : Nat → Prop} {w : World} {keep : List Int} {L D : List (ByteArray × Nat)} {fs0 fs : List VFile} {fb : Nat → Nat} {bvs : Nat → Value} {A : Option Addr} {c k g : Nat}
    (hx : L[i]? = some (s, x)) (hfs : fs = VSt.crashGo keep ((L.map (·.2)).take i) 0 fs0) (hfil : Fil base wr (Kn K w.heap.size wr.heap.size) fs fb bvs) (hfr : FrK w3 wr (Kis d)) (hy : fs[x]? = some y) (hk : VSt.kept y keep i = k) (hkl : k ≤ y.b.length)
    (hnk : (D.map (·.1)).Nodup) (hnv : (D.map (·.2)).Nodup) (hsx : (s, x) ∈ D) (hwK : ∀ b, K b → b < w.heap.size) (hbw : base ≤ w.heap.size) (hww : w.heap.size ≤ wr.heap.size)
    (hb5 : Below wr.heap.size wr w5) (hg : wr.heap.size ≤ g) (hf : Bk w5 g 97 #[.slice A k c, .int .i64 (k : Nat)]) (hr : w5.ownsRow base 5 1 (.slice A k c) k (bv (y.b.take k))) (hlo : ∀ q, (Value.slice A k c).ownBlock = some q → wr.heap.size ≤ q)
    (hm5 : Mh strV ptV w5 d (D.map fun p => (p.1, fb p.2))) (hm : Mh strV ptV w6 d (mgPut s g (D.map fun p => (p.1, fb p.2)))) (hg6 : w5.grownBy w6 (some d)) (hs6 : w6.heap.size = w5.heap.size) :
    ∃ fs' fb' bvs', fs' = VSt.crashGo keep ((L.map (·.2)).take (i + 1)) 0 fs0 ∧ Fil base w6 (Kn K w.heap.size w6.heap.size) fs' fb' bvs' ∧ Mh strV (fiV fb') w6 d D ∧ FrK w3 w6 (Kis d) := by
  have h56 : FrK w5 w6 (Kis d) := FrK.of_grown hg6 fun b _ e => (Option.some.inj e).symm
  have hxl := (List.getElem?_eq_some_iff.1 hy).1
  have hxi : (L.map (·.2))[i]? = some x := by rw [List.getElem?_map, hx]; rfl
  have hil := (List.getElem?_eq_some_iff.1 hxi).1
  have s5 := hb5.size
  refine ⟨fs.set x ⟨y.b.take k, k⟩, fun j => if j = x then g else fb j, fun j => if j = x then .slice A k c else bvs j, ?_, ?_, ?_, ?_⟩
  · rw [take_snoc hxi, crashGo_snoc, ← hfs]
    have e1 : fs.getD x ⟨[], 0⟩ = y := by rw [List.getD_eq_getElem?_getD, hy]; rfl
    have e2 : 0 + ((L.map (·.2)).take i).length = i := by rw [List.length_take]; omega
    rw [e1, e2, cutFile, hk]
  · have hl5 : (y.b.take k).length = k := by rw [List.length_take]; omega
    have h5 := hfil.new (K' := Kn K w.heap.size w5.heap.size) hb5 (fun b e => by
      rcases e with e | ⟨e1, e2⟩
      · exact .inl e
      · exact .inr ⟨e1, by omega⟩) (fun b e => by
      rcases e with e | ⟨e1, e2⟩
      · have := hfil.lo b (.inl e)
        exact ⟨this.1, by omega⟩
      · exact ⟨by omega, e2⟩) (y := ⟨y.b.take k, k⟩) (v := .slice A k c) hxl hg (.inr ⟨by omega, hf.lt⟩) hf (by
        show w5.ownsRow base _ 1 _ (y.b.take k).length _
        rw [hl5]
        exact hr) (fun q hq => .inr ⟨by have := hlo q hq; omega, (hr.lt q hq).2⟩)
    rw [hs6]
    obtain ⟨es, c0, hob⟩ := hm5.obj
    exact h5.put h56 ⟨es, c0, hob⟩ hs6
  · rw [mgPut_fb hnk hnv hsx] at hm
    exact Mh.unraw (f := fun j => if j = x then g else fb j) hm
  · exact (hfr.trans (FrK.of_below hb5 (Nat.le_refl _) (Kis d)) fun _ _ e => e).trans h56 fun _ _ e => e
end Go.Proofs.Ytdjmmdhjjdnbdaa

/- Layer 4: the document's Crash: the walk. -/
namespace Go.Proofs.Ytdjmmdhjjdnbdaa
open Go.RowKit

set_option maxRecDepth 100000 in
set_option maxHeartbeats 16000000 in
theorem rvCrash {base F B nk ck : Nat} {Ak : Option Addr} {keep : List Int} {w : World} {K : Nat → Prop} {S : VSt} {m : RMem} (h : Rf base w K F S m) (hok : S.Ok) (hlen : S.chg.length ≤ 1000000) (hfl : S.fs.length ≤ 1000000) (hfb : ∀ x ∈ S.fs, x.b.length ≤ 1000000000)
    (n : Int) (hn1 : -9223372036854775808 ≤ n) (hn2 : n ≤ 9223372036854775807) (hr : Rd w B Ak (keep.map intV)) (hB : B ≤ w.heap.size) (hkl : keep.length = nk) (hki : ∀ k ∈ keep, -9223372036854775808 ≤ k ∧ k ≤ 9223372036854775807) (hnk : nk ≤ 1000000) :
    Calls Try.prog 60 #[ptV F, .int .i64 n, .slice Ak nk ck] w (RCrash base w K F S n keep) := by
  obtain ⟨k0, hk0⟩ : ∃ k0, VSt.modulo n S.chg.length = k0 := ⟨_, rfl⟩
  have hk0l : k0 ≤ S.chg.length := by rw [← hk0]; exact modulo_le _ _
  obtain ⟨Ac, cc, hcv, -, -⟩ := own_form h.chg
  have c2 : w.cell? ⟨F, 2, none⟩ = some (.slice Ac S.chg.length cc) := by rw [h.blk.cell 2, ← hcv]; rfl
  have CD := Lib.hid (rvDir h hok hlen k0 hk0l)
  have H := Lib.hid h
  have HOK := Lib.hid hok
  have HK0 := Lib.hid hk0
  have HR := Lib.hid hr
  have HKI := Lib.hid hki
  have HKL := Lib.hid hkl
  have HFB := Lib.hid hfb
  clear h hok hk0 hcv hr hki hkl hfb
  have HREM : Hid (0 < n → n % ((S.chg.length : Int) + 1) = (k0 : Int)) := Lib.hid fun hp => by
    have h1 := HK0.out
    unfold VSt.modulo at h1
    rw [if_neg (by omega)] at h1
    have := Int.emod_nonneg n (show (S.chg.length : Int) + 1 ≠ 0 by omega)
    omega
  have HZ : Hid (¬ 0 < n → k0 = 0) := Lib.hid fun hp => by
    rw [← HK0.out]
    unfold VSt.modulo
    split
    · rfl
    · have : n = 0 := by omega
      rw [this]
      simp
  by_cases hp : 0 < n
  case' pos => have hkv := HREM.out hp
  case' neg =>
    have hk00 := HZ.out hp
    subst hk00
  all_goals
    go_enter Try.func60, Try.ntmps60
    go_wp2_with fail
    refine CD.out.mono ?_
    rintro e w2 ⟨d, D, rfl, hm, hpm, hd, hb2⟩
    have hDl : D.length ≤ 1000000 := by
      have h1 := Nat.le_trans (Nat.le_of_eq hpm.length_eq) (HOK.out.dir_len _)
      omega
    have CS := Lib.hid (rvSorted hm hDl)
    have HM := Lib.hid hm
    have HP := Lib.hid hpm
    have B2 := Lib.hid hb2
    clear hm hpm hb2 CD
    go_wp2_with fail
    refine CS.out.mono ?_
    rintro e w3 ⟨A, c, l, rfl, hsv, hlp, hrl, hla, hb3⟩
    obtain ⟨L, hL1, hL2⟩ := names_files HM.out.nodup hlp
    have hm3 := HM.out.bS hb3
    have hfil : Fil base w3 (Kn K w.heap.size w3.heap.size) S.fs m.fb m.bv := H.out.fil.later (B2.out.trans (hb3.mono B2.out.size)) (fun b e => .inl e) fun b e => by
      have h1 := B2.out.size
      have h2 := hb3.size
      rcases e with e | ⟨h4, h5⟩
      · have := H.out.lo b e
        exact ⟨this.1, by omega⟩
      · exact ⟨Nat.le_trans H.out.baseLe h4, h5⟩
    have HB3 := Lib.hid (B2.out.trans (hb3.mono B2.out.size))
    have HRL := Lib.hid hrl
    have HLA := Lib.hid hla
    have HSV := Lib.hid hsv
    have HL1 := Lib.hid hL1
    have HL2 := Lib.hid hL2
    have HM3 := Lib.hid hm3
    have HF3 := Lib.hid hfil
    have hdw : w.heap.size ≤ d := hd
    have hll : l.length ≤ 1000000 := by
      have := hlp.length_eq
      rw [List.length_map] at this
      omega
    clear hsv hlp hrl hla hb3 hL1 hL2 hm3 hfil CS hd
    go_wp2_with fail
    go_loopw [9] (fun i_ wx => ∃ (i : Nat) (fs : List VFile) (fb : Nat → Nat) (bvs : Nat → Value), i ≤ l.length ∧ i_ = .int .i64 i ∧ Hid (fs = VSt.crashGo keep ((L.map (·.2)).take i) 0 S.fs) ∧ Hid (Fil base wx (Kn K w.heap.size wx.heap.size) fs fb bvs) ∧ Hid (Mh strV (fiV fb) wx d D) ∧ Hid (FrK w3 wx (Kis d))) (fun i_ _ => l.length - (intOf i_).toNat)
    case atStart => exact ⟨0, S.fs, m.fb, m.bv, Nat.zero_le _, rfl, Lib.hid (by rw [List.take_zero]; rfl), HF3, HM3, Lib.hid (FrK.refl w3 _)⟩
    case round =>
      obtain ⟨i, fs, fb, bvs, hi, rfl, HFS, HFI, HMM, HFR⟩ := hrel
      by_cases hil : i < l.length
      · have hil' : (i : Int) < (l.length : Int) := by omega
        obtain ⟨s, hs⟩ : ∃ s, l[i]? = some s := ⟨_, List.getElem?_eq_getElem hil⟩
        obtain ⟨x, hx⟩ : ∃ x, L[i]? = some (s, x) := by
          have h1 := hs
          rw [← HL1.out, List.getElem?_map] at h1
          cases hq : L[i]? with
          | none => rw [hq] at h1; cases h1
          | some p =>
            rw [hq] at h1
            obtain ⟨a, b⟩ := p
            cases h1
            exact ⟨b, rfl⟩
        have hxD : (s, x) ∈ D := HL2.out.mem_iff.1 (List.mem_of_getElem? hx)
        have hlk := run_mhLook (z := .pointer none) (e := 94) (strRun Try.underlying9) Try.underlying79 (by simp [Try.zeroValue94]) HMM.out s false
        rw [mgGet_some (v := x) HMM.out.nodup hxD] at hlk
        have hlk2 : (Instr.lookup 79 (maV d) (.string s) false).run Try.prog wr = .ok (ptV (fb x)) wr := hlk
        have hrl := Rd.frK HRL.out HFR.out (fun a e e2 => by
          have h1 := HLA.out a e
          have h2 := HM.out.lt
          simp only [Kis] at e2
          omega) (Nat.le_refl _)
        obtain ⟨bl, ol, rfl, hcell⟩ := Rs.get hrl hs
        have hxS : x < S.fs.length := HOK.out.dirN_lt (HP.out.mem_iff.1 hxD)
        have hfl2 : fs.length = S.fs.length := by rw [HFS.out, crashGo_len]
        obtain ⟨y, hy⟩ : ∃ y, fs[x]? = some y := ⟨_, List.getElem?_eq_getElem (by omega)⟩
        have hym : y ∈ VSt.crashGo keep ((L.map (·.2)).take i) 0 S.fs := by
          rw [← HFS.out]
          exact List.mem_of_getElem? hy
        have hys := (crashGo_ok keep _ 0 _ HOK.out.byt y hym).2
        have hyl := crashGo_small keep _ 0 _ HFB.out y hym
        have hfx := HFI.out.file x y hy
        have hrx := HFI.out.row x y hy
        obtain ⟨Ax, cx, hbx, hcx, -⟩ := own_form hrx
        rw [hbx] at hfx hrx
        obtain ⟨kq, hke, hkl, hcase⟩ := kept_cases (keep := keep) (i := i) hys HKL.out
        have hw3s : w.heap.size ≤ wr.heap.size := Nat.le_trans HB3.out.size HFR.out.size
        have hbwr : Below w.heap.size w wr := HB3.out.trans (HFR.out.below HB3.out.size fun b e => by
          simp only [Kis] at e
          omega)
        have hkr : Rd wr B Ak (keep.map intV) := HR.out.below (hbwr.mono hB)
        have hkp : ∀ z : Nat, Option.map (fun x : Addr => x.add 0) Ax = Ax := fun _ => own_zero hrx
        have hhs := fun (k : Nat) (hk : k ≤ cx) (W : World) => run_slH8 W Ax y.b.length cx k hk (own_zero hrx)
        have hxr : Rb wr wr.heap.size Ax y.b := by rw [Rb]; exact Rd.of_own hrx
        have d0 : wr.cell? ⟨fb x, 0, none⟩ = some (.slice Ax y.b.length cx) := by rw [hfx.cell 0]; rfl
        have d1 : wr.cell? ⟨fb x, 1, none⟩ = some (.int .i64 (y.s : Nat)) := by rw [hfx.cell 1]; rfl
        obtain ⟨sk, hsk⟩ : ∃ sk, y.s + kq = sk := ⟨_, rfl⟩
        have hskl : sk ≤ y.b.length := by omega
        have hsl := hhs sk (by omega)
        have HX := Lib.hid hx
        have HY := Lib.hid hy
        have HKE : Hid (VSt.kept y keep i = sk) := Lib.hid (hke.trans hsk)
        have HXD := Lib.hid hxD
        have HSL := Lib.hid hsl
        have HXR := Lib.hid hxr
        have HLS := Lib.hid hs
        have HFX := Lib.hid hfx
        clear hlk hrl hy hx hym hfx hrx hkp hhs hxr hke hxD hsl hbx hs hfl2
        obtain ⟨yl, hyle⟩ : ∃ yl, y.b.length = yl := ⟨_, rfl⟩
        obtain ⟨ys, hyse⟩ : ∃ ys, y.s = ys := ⟨_, rfl⟩
        rw [hyle] at hkl hskl hys hyl hcase hcx d0 HSL
        rw [hyse] at hkl hys hcase hsk d1
        rw [hyle, hyse] at HFX
        rcases hcase with ⟨hik, hk0⟩ | ⟨kv, hik, hkv, hkp, hk0⟩ | ⟨kv, hik, hkv, hkp, hkm⟩
        focus
          subst hk0
          have hik' : ¬ (i : Int) < (nk : Int) := by omega
          have hw2 : IntKind.i64.wrap (ys : Int) = (sk : Int) := by rw [show (ys : Int) = sk by omega]; exact IntWalk.i64_in _ ⟨by omega, by omega⟩
          go_wp2_with fail
          obtain ⟨wv, hwv⟩ : ∃ wv, wr = wv := ⟨_, rfl⟩
          have BV : Hid (Below wr.heap.size wr wv ∧ wv.heap = wr.heap) := Lib.hid (by
            rw [← hwv]
            exact ⟨Below.refl _ wr, rfl⟩)
          rw [hwv]
          clear hwv
        rotate_left
        focus
          subst hk0
          have hik' : (i : Int) < (nk : Int) := by omega
          have hw2 : IntKind.i64.wrap (ys : Int) = (sk : Int) := by rw [show (ys : Int) = sk by omega]; exact IntWalk.i64_in _ ⟨by omega, by omega⟩
          obtain ⟨bk, ok, rfl, -, hck⟩ := hkr.get (show (keep.map intV)[i]? = some (intV kv) by rw [List.getElem?_map, hkv]; rfl)
          go_wp2_with fail
          obtain ⟨wv, hwv⟩ : ∃ wv, wr = wv := ⟨_, rfl⟩
          have BV : Hid (Below wr.heap.size wr wv ∧ wv.heap = wr.heap) := Lib.hid (by
            rw [← hwv]
            exact ⟨Below.refl _ wr, rfl⟩)
          rw [hwv]
          clear hwv
        rotate_left
        focus
          have hik' : (i : Int) < (nk : Int) := by omega
          have hw2 : IntKind.i64.wrap ((ys : Int) + (kq : Int)) = (sk : Int) := by rw [show (ys : Int) + (kq : Int) = sk by omega]; exact IntWalk.i64_in _ ⟨by omega, by omega⟩
          obtain ⟨bk, ok, rfl, -, hck⟩ := hkr.get (show (keep.map intV)[i]? = some (intV kv) by rw [List.getElem?_map, hkv]; rfl)
          have hkr2 := HKI.out kv (List.mem_of_getElem? hkv)
          have hdz : ¬ ((yl : Int) - (ys : Int) + 1 = 0) := by omega
          have hdzb : (((yl : Int) - (ys : Int) + 1) == 0) = false := by rw [beq_eq_false_iff_ne]; omega
          go_wp2_with fail
          go_region
          go_wp2_with fail
          obtain ⟨wv, hwv⟩ : ∃ wv, wr.drew = wv := ⟨_, rfl⟩
          have BV : Hid (Below wr.heap.size wr wv ∧ wv.heap = wr.heap) := Lib.hid (by
            rw [← hwv]
            exact ⟨(Below.refl _ wr).drew, rfl⟩)
          rw [hwv]
          clear hwv
        rotate_left
        all_goals
          have hws : wv.heap.size = wr.heap.size := by rw [BV.out.2]
          have hxr := HXR.out.below BV.out.1
          have hfx := (BV.out.1.block _ HFX.out.lt).trans HFX.out
          have e0 : wv.cell? ⟨fb x, 0, none⟩ = some (.slice Ax yl cx) := by rw [Bk.cell hfx 0]; rfl
          have e1 : wv.cell? ⟨fb x, 1, none⟩ = some (.int .i64 (ys : Nat)) := by rw [Bk.cell hfx 1]; rfl
          have e2 : wv.cell? ⟨bl, ol + i, none⟩ = some (.string s) := by
            have h1 := World.block_lt_of_cell? wr _ hcell
            rw [BV.out.1.cell (by exact h1)]
            exact hcell
          have hbd : bl ≠ d := fun e => by
            have h1 := HLA.out _ rfl
            have h2 := HM.out.lt
            simp only at h1
            omega
          have hfd : fb x ≠ d := fun e => by
            obtain ⟨es, c0, h1⟩ := HMM.out.obj
            have h2 := HFX.out
            rw [e] at h2
            rw [show wr.heap[d]? = _ from h2] at h1
            cases h1
          have KP : Hid (∀ W, Below wv.heap.size wv W → W.cell? ⟨bl, ol + i, none⟩ = some (.string s) ∧ W.cell? ⟨fb x, 0, none⟩ = some (.slice Ax yl cx) ∧ W.cell? ⟨fb x, 1, none⟩ = some (.int .i64 (ys : Nat))) := Lib.hid fun W hW => ⟨(hW.cell (World.block_lt_of_cell? wv _ e2)).trans e2, (hW.cell (World.block_lt_of_cell? wv _ e0)).trans e0, (hW.cell (World.block_lt_of_cell? wv _ e1)).trans e1⟩
          have KM : Hid (∀ W W', Below wv.heap.size wv W → W.grownBy W' (some d) → W'.cell? ⟨bl, ol + i, none⟩ = some (.string s) ∧ W'.cell? ⟨fb x, 0, none⟩ = some (.slice Ax yl cx) ∧ W'.cell? ⟨fb x, 1, none⟩ = some (.int .i64 (ys : Nat))) := Lib.hid fun W W' hW hg => by
            obtain ⟨h1, h2, h3⟩ := KP.out W hW
            have hl1 := World.block_lt_of_cell? W _ h1
            have hl2 := World.block_lt_of_cell? W _ h2
            exact ⟨(World.cell?_of_block (hg.block bl hl1 fun e => hbd (Option.some.inj e))).trans h1, (World.cell?_of_block (a := ⟨fb x, 0, none⟩) (hg.block _ hl2 fun e => hfd (Option.some.inj e))).trans h2, (World.cell?_of_block (a := ⟨fb x, 1, none⟩) (hg.block _ hl2 fun e => hfd (Option.some.inj e))).trans h3⟩
          have hwb : base ≤ wv.heap.size := by
            have := H.out.baseLe
            have := BV.out.2
            omega
          have OA : Hid (((wv.alloc (.cells #[] 5)).drew).ownsRow base 5 1 (.slice (some ⟨wv.heap.size, 0, none⟩) 0 0) 0 (bv [])) := Lib.hid (World.ownsRow_lit wv #[] 0 hwb (by simp [maxLen]) rfl)
          have BA : Hid (Below wv.heap.size wv (wv.alloc (.cells #[] 5)).drew) := Lib.hid ((Below.refl _ wv).alloc (Nat.le_refl _) _).drew
          have RX : Hid (∀ W, Below wv.heap.size wv W → Rb W wr.heap.size Ax (y.b.take sk)) := Lib.hid fun W hW => by
            rw [Rb, ← bv_take]
            exact Rd.take (Rd.below hxr (hW.mono (Nat.le_of_eq hws.symm))) sk
          have HMU : Hid (∀ W, Below wv.heap.size wv W → ∀ g : Nat, ∃ w6, (Instr.mapUpdate 79 (maV d) (.string s) (.pointer (some ⟨g, 0, none⟩))).run Try.prog W = .ok () w6 ∧ Mh strV ptV W d (D.map fun p => (p.1, fb p.2)) ∧ Mh strV ptV w6 d (mgPut s g (D.map fun p => (p.1, fb p.2))) ∧ W.grownBy w6 (some d) ∧ w6.heap.size = W.heap.size) := Lib.hid fun W hW g => by
            have hm1 := ((Mh.raw (vv := ptV) (f := fb) HMM.out).of (BV.out.1.block d HMM.out.lt)).bS hW
            obtain ⟨es, c9, h1, h2⟩ := run_mhPut (strRun Try.underlying9) Try.underlying79 hm1 s g
            exact ⟨_, h1, hm1, h2, putObj_grown W d _, by simp⟩
          have htl : (y.b.take sk).length = sk := by rw [List.length_take]; omega
          have hsl := HSL.out
          clear hws hxr hfx
          go_region_held3 (fun W => W.cell? ⟨bl, ol + i, none⟩ = some (.string s) ∧ W.cell? ⟨fb x, 0, none⟩ = some (.slice Ax yl cx) ∧ W.cell? ⟨fb x, 1, none⟩ = some (.int .i64 (ys : Nat))) (first | go_keep | exact KP.out _ BA.out | exact KP.out _ b4 | exact KP.out _ (Below.alloc b4 b4.size _) | exact KM.out _ _ (Below.alloc b4 b4.size _) hgr6) (
            (refine step_app8 (by rfl) _ _ (by rfl) base _ 0 [] (by rfl) OA.out wr.heap.size Ax sk cx (y.b.take sk) (by rfl) htl (RX.out _ BA.out) (by omega) (Nat.le_trans hwb BA.out.size) ?_; intro A4 c4 w4 hown4 hgr4 hbl4; rw [Nat.zero_add, List.nil_append] at hown4; rw [Nat.zero_add] at hbl4; have b4 := (insStep BA.out hgr4 (Nat.le_refl _) : Below wv.heap.size wv w4); obtain ⟨w6, hmu, hm5, hm6, hgr6, hsz6⟩ := HMU.out (w4.alloc (.cells #[.slice A4 sk c4, .int .i64 (sk : Nat)] 97)) (Below.alloc b4 b4.size _) w4.heap.size))
          have CR := crash_round HX.out HFS.out HFI.out HFR.out HY.out HKE.out (by omega) HM.out.nodup ((HP.out.map (·.2)).nodup_iff.2 (HOK.out.inj _)) HXD.out (fun b hb => (H.out.lo b hb).2) H.out.baseLe hw3s (BV.out.1.trans ((Below.alloc b4 b4.size _).mono (Nat.le_of_eq (by rw [BV.out.2])))) (by have h1 := b4.size; rw [BV.out.2] at h1; exact h1) (Bk.new w4 _ _) (World.ownsRow.alloc hown4 _) (loStep0 hbl4 (Nat.le_of_eq (by rw [BV.out.2])) (by have h1 := BA.out.size; rw [BV.out.2] at h1; exact h1)) hm5 hm6 hgr6 hsz6
          obtain ⟨fs', fb', bvs', c1, c2, c3, c4⟩ := CR
          have C1 := Lib.hid c1
          have C2 := Lib.hid c2
          have C3 := Lib.hid c3
          have C4 := Lib.hid c4
          clear c1 c2 c3 c4 hm5 hm6 hgr6 hsz6 hmu hown4 hgr4 hbl4 b4 KP KM HMU OA BA RX e0 e1 e2
          go_wp2_with fail
          exact ⟨⟨i + 1, fs', fb', bvs', by omega, by go_num, C1, C2, C3, C4⟩, by simp only [intOf]; omega⟩
      · have hil' : ¬ (i : Int) < (l.length : Int) := by omega
        have hFl := H.out.blk.lt
        have hF3 : Bk w3 F 82 (rfC S m) := (HB3.out.block _ hFl).trans H.out.blk
        have hFr : Bk wr F 82 (rfC S m) := (HFR.out.block _ hF3.lt (by simp only [Kis]; omega)).trans hF3
        have z1 : wr.cell? ⟨F, 1, none⟩ = some (maV m.sb) := by rw [hFr.cell 1]; rfl
        have z2 : wr.cell? ⟨F, 2, none⟩ = some m.cv := by rw [hFr.cell 2]; rfl
        have z3 : wr.cell? ⟨F, 3, none⟩ = some (.bool S.off) := by rw [hFr.cell 3]; rfl
        have z4 : wr.cell? ⟨F, 4, none⟩ = some (.int .i64 S.fuse) := by rw [hFr.cell 4]; rfl
        have z5 : wr.cell? ⟨F, 5, none⟩ = some (.int .i64 S.fault) := by rw [hFr.cell 5]; rfl
        have g1 := hFr.frozen 1
        have g2 := hFr.frozen 2
        have g3 := hFr.frozen 3
        have g4 := hFr.frozen 4
        have g5 := hFr.frozen 5
        clear hF3 hFr
        go_wp2_with fail
        go_end0
        have hbw : Below w.heap.size w wr := HB3.out.trans (HFR.out.below HB3.out.size fun b e => by
          simp only [Kis] at e
          omega)
        have hpp := HP.out
        rw [← HK0.out] at hpp
        have hlen2 : (L.map (·.2)).length = l.length := by
          have := congrArg List.length HL1.out
          rw [List.length_map] at this
          rw [List.length_map]
          exact this
        have hfs := HFS.out
        rw [List.take_of_length_le (by omega)] at hfs
        have hdk : Kn K w.heap.size wr.heap.size d := .inr ⟨hdw, HMM.out.lt⟩
        have hV := H.out.crashed hbw (fun b e => .inl e) HFI.out HMM.out hpp hdk
        have hsz : (crashW wr F d).heap.size = wr.heap.size := by simp [World.setCell]
        refine ⟨rfl, L, HL2.out.trans hpp, by rw [HL1.out]; exact HSV.out, ⟨d, .slice none 0 0, fb, bvs, D⟩, ?_, ((FrK.of_below hbw (Nat.le_refl _) (Kis F)).trans (crashW_frK wr F d) fun _ _ e => e).mono fun b _ e => e ▸ H.out.kF⟩
        show Rf base (crashW wr F d) (Kn K w.heap.size (crashW wr F d).heap.size) F (S.crash n keep L) _
        rw [hsz]
        subst hfs
        exact hV
end Go.Proofs.Ytdjmmdhjjdnbdaa

/- Layer 4: the document's file system call by call; both side by side. -/
namespace Go.Proofs.Ytdjmmdhjjdnbdaa
open Go.RowKit

/-- A state behind k calls. -/
structure Sk (S : VSt) (k : Nat) : Prop where
  ok : S.Ok
  few : S.Few k
  ops : S.ops ≤ k
theorem Sk.b3 {S : VSt} {k : Nat} (h : Sk S k) (hk : k ≤ 1000) : S.ops ≤ 4611686018427387904 ∧ S.chg.length ≤ 1000000 ∧ S.fs.length ≤ 1000000 ∧ (∀ x ∈ S.fs, x.b.length ≤ 1000000000) ∧ (0 ≤ S.limit ∧ S.limit ≤ 4611686018427387904) := by
  have h1 := h.ops
  have h2 := h.few.chg
  have h3 := h.few.fs
  have h4 := h.few.lim
  refine ⟨by omega, by omega, by omega, fun x hx => ?_, by omega⟩
  have := h.few.len x hx
  omega
theorem Se.sk {w0 W : World} {K : Nat → Prop} {F k : Nat} {S : VSt} (h : Se w0 W K F S k) : Sk S k := ⟨h.ok, h.few, h.ops⟩
/-- The document's file system, made since w0. -/
def Sr (w0 W : World) (K : Nat → Prop) (F : Nat) (S : VSt) : Prop := ∃ m, Rf w0.heap.size W K F S m
/-- What a call of it comes to. -/
def SrP (w0 W : World) (K : Nat → Prop) (F : Nat) (R : VSt × Nat) (e : Ending) (w' : World) : Prop :=
  e = .returned (.int .i64 (R.2 : Nat)) ∧ Sr w0 w' (Kn K W.heap.size w'.heap.size) F R.1 ∧ FrK W w' K
theorem RPost.sr {w0 W w' : World} {K : Nat → Prop} {F : Nat} {R : VSt × Nat} {e : Ending} (h : RPost w0.heap.size W K F R e w') : SrP w0 W K F R e w' := by
  obtain ⟨h1, m, h2, h3⟩ := h
  exact ⟨h1, ⟨m, h2⟩, h3⟩
section
variable {w0 W W' : World} {K K' : Nat → Prop} {F k : Nat} {S : VSt}
theorem Sr.lo (h : Sr w0 W K F S) {b : Nat} (hb : K b) : w0.heap.size ≤ b ∧ b < W.heap.size := by
  obtain ⟨m, hv⟩ := h
  exact hv.lo b hb
theorem Sr.keep (h : Sr w0 W K F S) (hf : FrK W W' K') (hd : ∀ b, K b → ¬K' b) : Sr w0 W' K F S := by
  obtain ⟨m, hv⟩ := h
  exact ⟨m, hv.keep hf hd⟩
theorem Sr.below (h : Sr w0 W K F S) (hb : Below W.heap.size W W') : Sr w0 W' K F S := by
  obtain ⟨m, hv⟩ := h
  exact ⟨m, hv.below hb⟩
theorem Se.keep (h : Se w0 W K F S k) (hf : FrK W W' K') (hd : ∀ b, K b → ¬K' b) (hl : ∀ b, K' b → w0.heap.size ≤ b) : Se w0 W' K F S k := by
  obtain ⟨m, hv⟩ := h.vf
  exact ⟨⟨m, hv.keep hf hd⟩, h.ok, h.few, h.ops, h.bel.trans (hf.below h.bel.size fun b e => hl b e)⟩
theorem srNew (w0 w : World) (limit : Int) (h : 0 ≤ limit ∧ limit ≤ 1073741824) (hb : w0.heap.size ≤ w.heap.size) :
    Calls Try.prog 28 #[.int .i64 limit] w fun e w' => ∃ F, e = .returned (.tuple #[ptV F, .int .i64 0]) ∧ Sr w0 w' (Kn Kno w.heap.size w'.heap.size) F (VSt.new limit) ∧ FrK w w' Kno := by
  refine (rvNew (base := w0.heap.size) w limit h hb).mono ?_
  rintro e w' ⟨F, rfl, h1, h2⟩
  exact ⟨F, rfl, h1, h2⟩
theorem srCreate (h : Sr w0 W K F S) (hS : Sk S k) (hk : k ≤ 1000) (s : ByteArray) (hs : s.size ≤ 9223372036854775806) :
    Calls Try.prog 52 #[ptV F, .string s] W (SrP w0 W K F (S.create s)) := by
  obtain ⟨m, hv⟩ := h
  obtain ⟨h1, h2, h3, h4, h5⟩ := hS.b3 hk
  exact (rvCreate hv hS.ok h1 h2 s hs).mono fun e w' hp => hp.sr
theorem srSync (h : Sr w0 W K F S) (hS : Sk S k) (hk : k ≤ 1000) (s : ByteArray) (hs : s.size ≤ 9223372036854775806) :
    Calls Try.prog 53 #[ptV F, .string s] W (SrP w0 W K F (S.sync s)) := by
  obtain ⟨m, hv⟩ := h
  obtain ⟨h1, h2, h3, h4, h5⟩ := hS.b3 hk
  exact (rvSync hv hS.ok h1 h2 s hs).mono fun e w' hp => hp.sr
theorem srSyncDir (h : Sr w0 W K F S) (hS : Sk S k) (hk : k ≤ 1000) :
    Calls Try.prog 54 #[ptV F] W (SrP w0 W K F S.syncDir) := by
  obtain ⟨m, hv⟩ := h
  obtain ⟨h1, h2, h3, h4, h5⟩ := hS.b3 hk
  exact (rvSyncDir hv hS.ok h1 h2).mono fun e w' hp => hp.sr
theorem srRename (h : Sr w0 W K F S) (hS : Sk S k) (hk : k ≤ 1000) (s t : ByteArray) (hs : s.size ≤ 9223372036854775806) (ht : t.size ≤ 9223372036854775806) :
    Calls Try.prog 55 #[ptV F, .string s, .string t] W (SrP w0 W K F (S.rename s t)) := by
  obtain ⟨m, hv⟩ := h
  obtain ⟨h1, h2, h3, h4, h5⟩ := hS.b3 hk
  exact (rvRename hv hS.ok h1 h2 s t hs ht).mono fun e w' hp => hp.sr
theorem srRemove (h : Sr w0 W K F S) (hS : Sk S k) (hk : k ≤ 1000) (s : ByteArray) (hs : s.size ≤ 9223372036854775806) :
    Calls Try.prog 56 #[ptV F, .string s] W (SrP w0 W K F (S.remove s)) := by
  obtain ⟨m, hv⟩ := h
  obtain ⟨h1, h2, h3, h4, h5⟩ := hS.b3 hk
  exact (rvRemove hv hS.ok h1 h2 s hs).mono fun e w' hp => hp.sr
theorem srAppend {B n c : Nat} {A : Option Addr} {zs : List Int} (h : Sr w0 W K F S) (hS : Sk S k) (hk : k ≤ 1000) (s : ByteArray) (hs : s.size ≤ 9223372036854775806) (hz : Rb W B A zs) (hAF : zs ≠ [] → ∀ a, A = some a → ¬K a.block) (hzl : zs.length = n) (hB : B ≤ W.heap.size) (hn : n ≤ 300) :
    Calls Try.prog 62 #[ptV F, .string s, .slice A n c] W (SrP w0 W K F (S.append s zs)) := by
  obtain ⟨m, hv⟩ := h
  obtain ⟨h1, h2, h3, h4, h5⟩ := hS.b3 hk
  exact (rvAppend hv hS.ok h1 h2 h3 h4 h5 hz (fun h0 a ha e => hAF h0 a ha (by rw [e]; exact hv.kF)) hzl hB (by omega) s hs).mono fun e w' hp => hp.sr
theorem srFuse (h : Sr w0 W K F S) (n : Int) :
    Calls Try.prog 58 #[ptV F, .int .i64 n] W fun e w' => e = .returned (.tuple #[]) ∧ Sr w0 w' K F (S.setFuse n) ∧ FrK W w' K := by
  obtain ⟨m, hv⟩ := h
  exact (rvFuse hv n).mono fun e w' ⟨h1, h2, h3⟩ => ⟨h1, ⟨m, h2⟩, h3.mono fun b _ e => by rw [show b = F from e]; exact hv.kF⟩
theorem srFault (h : Sr w0 W K F S) (n x : Int) :
    Calls Try.prog 59 #[ptV F, .int .i64 n, .int .i64 x] W (SrP w0 W K F (S.setFault n x)) := by
  obtain ⟨m, hv⟩ := h
  exact (rvFault hv n x).mono fun e w' hp => hp.sr
theorem srTurn (h : Sr w0 W K F S) (hS : Sk S k) (hk : k ≤ 1000) (s : ByteArray) (a b : Int) (hb : 0 ≤ b ∧ b ≤ 255) :
    Calls Try.prog 61 #[ptV F, .string s, .int .i64 a, .int .u8 b] W (SrP w0 W K F (S.turn s a b)) := by
  obtain ⟨m, hv⟩ := h
  obtain ⟨h1, h2, h3, h4, h5⟩ := hS.b3 hk
  exact (rvTurnB hv hS.ok h2 h4 s a b hb).mono fun e w' hp => hp.sr
/-- What Crash comes to. -/
def SrCrash (w0 W : World) (K : Nat → Prop) (F : Nat) (S : VSt) (n : Int) (keep : List Int) (e : Ending) (w' : World) : Prop :=
  e = .returned (.tuple #[]) ∧ ∃ L, L.Perm (S.dirN (VSt.modulo n S.chg.length)) ∧ SortV (L.map (·.1)) ∧ Sr w0 w' (Kn K W.heap.size w'.heap.size) F (S.crash n keep L) ∧ FrK W w' K
theorem srCrash {B nk ck : Nat} {Ak : Option Addr} {keep : List Int} (h : Sr w0 W K F S) (hS : Sk S k) (hk : k ≤ 1000) (n : Int) (hn1 : -9223372036854775808 ≤ n) (hn2 : n ≤ 9223372036854775807)
    (hr : Rd W B Ak (keep.map intV)) (hB : B ≤ W.heap.size) (hkl : keep.length = nk) (hki : ∀ k ∈ keep, -9223372036854775808 ≤ k ∧ k ≤ 9223372036854775807) (hnk : nk ≤ 1000000) :
    Calls Try.prog 60 #[ptV F, .int .i64 n, .slice Ak nk ck] W (SrCrash w0 W K F S n keep) := by
  obtain ⟨m, hv⟩ := h
  obtain ⟨h1, h2, h3, h4, h5⟩ := hS.b3 hk
  refine (rvCrash hv hS.ok h2 h3 h4 n hn1 hn2 hr hB hkl hki hnk).mono ?_
  rintro e w' ⟨h6, L, h7, h8, m', h9, h10⟩
  exact ⟨h6, L, h7, h8, ⟨m', h9⟩, h10⟩
/-- What Read comes to. -/
def SrRead (w0 W : World) (K : Nat → Prop) (F : Nat) (R : VSt × List Int × Nat) (e : Ending) (w' : World) : Prop :=
  ∃ A c, e = .returned (.tuple #[.slice A R.2.1.length c, .int .i64 (R.2.2 : Nat)]) ∧ Rb w' w'.heap.size A R.2.1 ∧ (∀ a, A = some a → W.heap.size ≤ a.block) ∧ Sr w0 w' K F R.1 ∧ FrK W w' K
theorem srRead (h : Sr w0 W K F S) (hS : Sk S k) (hk : k ≤ 1000) (s : ByteArray) (hs : s.size ≤ 9223372036854775806) (a n : Int) (ha : -9223372036854775808 ≤ a ∧ a ≤ 9223372036854775807) (hn : -9223372036854775808 ≤ n ∧ n ≤ 9223372036854775807) :
    Calls Try.prog 57 #[ptV F, .string s, .int .i64 a, .int .i64 n] W (SrRead w0 W K F (S.read s a n)) := by
  obtain ⟨m, hv⟩ := h
  obtain ⟨h1, h2, h3, h4, h5⟩ := hS.b3 hk
  refine (rvRead hv hS.ok h1 h2 h4 s hs a n ha hn).mono ?_
  rintro e w' ⟨A, c, h6, h7, h8, h9, h10⟩
  exact ⟨A, c, h6, h7, h8, ⟨m, h9⟩, h10.mono fun b _ e => by rw [show b = F from e]; exact hv.kF⟩
theorem srSize (h : Sr w0 W K F S) (hS : Sk S k) (hk : k ≤ 1000) (s : ByteArray) : Calls Try.prog 65 #[ptV F, .string s] W fun e w' => e = .returned (.int .i64 (S.size s)) ∧ Below W.heap.size W w' := by
  obtain ⟨m, hv⟩ := h
  obtain ⟨h1, h2, h3, h4, h5⟩ := hS.b3 hk
  exact rvSize hv hS.ok h2 s
theorem srUsed (h : Sr w0 W K F S) (hS : Sk S k) (hk : k ≤ 1000) : Calls Try.prog 64 #[ptV F] W fun e w' => e = .returned (.int .i64 (S.used : Nat)) ∧ Below W.heap.size W w' := by
  obtain ⟨m, hv⟩ := h
  obtain ⟨h1, h2, h3, h4, h5⟩ := hS.b3 hk
  exact rvUsed hv hS.ok h2 h3 h4
theorem srNames (h : Sr w0 W K F S) (hS : Sk S k) (hk : k ≤ 1000) : Calls Try.prog 63 #[ptV F] W (NamesPost W S.now) := by
  obtain ⟨m, hv⟩ := h
  obtain ⟨h1, h2, h3, h4, h5⟩ := hS.b3 hk
  exact rvNames hv hS.ok h2 h3
theorem srOff (h : Sr w0 W K F S) : ∀ W', Below W.heap.size W W' → W'.cell? ⟨F, 3, none⟩ = some (.bool S.off) ∧ W'.cell? ⟨F, 7, none⟩ = some (.int .i64 (S.ops : Nat)) := fun W' hb => by
  obtain ⟨m, hv⟩ := h
  have h2 := hv.below hb
  exact ⟨by rw [h2.blk.cell 3]; rfl, by rw [h2.blk.cell 7]; rfl⟩
end
/-- Both file systems, at the same state, apart. -/
structure Tw (w0 W : World) (K1 K2 : Nat → Prop) (F1 F2 : Nat) (S : VSt) (k : Nat) : Prop where
  se : Se w0 W K1 F1 S k
  sr : Sr w0 W K2 F2 S
  apart : ∀ b, K1 b → ¬K2 b
section
variable {w0 W w1 w2 : World} {K1 K2 K1' K2' : Nat → Prop} {F1 F2 k j : Nat} {S T : VSt}
theorem Tw.below (h : Tw w0 W K1 K2 F1 F2 S k) (hb : Below W.heap.size W w1) : Tw w0 w1 K1 K2 F1 F2 S k := ⟨h.se.below hb, h.sr.below hb, h.apart⟩
theorem Tw.more (h : Tw w0 W K1 K2 F1 F2 S k) (hk : k ≤ j) : Tw w0 W K1 K2 F1 F2 S j := ⟨h.se.more hk, h.sr, h.apart⟩
theorem Tw.of (h : Tw w0 W K1 K2 F1 F2 S k) {a b c d : Nat} (h1 : Se w0 w2 K1' F1 T j) (h2 : Sr w0 w2 K2' F2 T) (q1 : ∀ x, K1' x → K1 x ∨ (a ≤ x ∧ x < b)) (q2 : ∀ x, K2' x → K2 x ∨ (c ≤ x ∧ x < d)) (ha : W.heap.size ≤ a) (hc : W.heap.size ≤ c) (hd : b ≤ c ∨ d ≤ a) :
    Tw w0 w2 K1' K2' F1 F2 T j := by
  refine ⟨h1, h2, fun x e1 e2 => ?_⟩
  have l1 : ∀ x, K1 x → x < W.heap.size := fun x e => (h.se.kLo e).2
  have l2 : ∀ x, K2 x → x < W.heap.size := fun x e => (h.sr.lo e).2
  rcases q1 x e1 with e1 | ⟨e1, e3⟩ <;> rcases q2 x e2 with e2 | ⟨e2, e4⟩
  · exact h.apart x e1 e2
  · have := l1 x e1
    omega
  · have := l2 x e2
    omega
  · omega
/-- The code's call, then the document's. -/
theorem Tw.cr (h : Tw w0 W K1 K2 F1 F2 S k) (f1 : FrK W w1 K1) : Sr w0 w1 K2 F2 S := h.sr.keep f1 fun b e e2 => h.apart b e2 e
theorem Tw.cr2 (h : Tw w0 W K1 K2 F1 F2 S k) (h1 : Se w0 w1 (Kn K1 W.heap.size w1.heap.size) F1 T j) (hs : W.heap.size ≤ w1.heap.size) (h2 : Sr w0 w2 (Kn K2 w1.heap.size w2.heap.size) F2 T) (f2 : FrK w1 w2 K2) :
    Tw w0 w2 (Kn K1 W.heap.size w1.heap.size) (Kn K2 w1.heap.size w2.heap.size) F1 F2 T j := by
  refine h.of (a := W.heap.size) (b := w1.heap.size) (c := w1.heap.size) (d := w2.heap.size) (h1.keep f2 (fun b e e2 => ?_) fun b e => (h.sr.lo e).1) h2 (fun _ e => e) (fun _ e => e) (Nat.le_refl _) hs (.inl (Nat.le_refl _))
  rcases e with e | ⟨e, -⟩
  · exact h.apart b e e2
  · have := (h.sr.lo e2).2
    omega
/-- The document's call, then the code's. -/
theorem Tw.rc (h : Tw w0 W K1 K2 F1 F2 S k) (f1 : FrK W w1 K2) : Se w0 w1 K1 F1 S k := h.se.keep f1 h.apart fun b e => (h.sr.lo e).1
theorem Tw.rc2 (h : Tw w0 W K1 K2 F1 F2 S k) {a b : Nat} (h1 : Sr w0 w1 K2' F2 T) (q2 : ∀ x, K2' x → K2 x ∨ (a ≤ x ∧ x < b)) (ha : W.heap.size ≤ a) (hb : b ≤ w1.heap.size) (hs : W.heap.size ≤ w1.heap.size) (h2 : Se w0 w2 (Kn K1 w1.heap.size w2.heap.size) F1 T j) (f2 : FrK w1 w2 K1) :
    Tw w0 w2 (Kn K1 w1.heap.size w2.heap.size) K2' F1 F2 T j := by
  refine h.of (a := w1.heap.size) (b := w2.heap.size) (c := a) (d := b) h2 (h1.keep f2 fun x e e2 => ?_) (fun _ e => e) q2 hs ha (.inr hb)
  rcases q2 x e with e | ⟨e, -⟩
  · exact h.apart x e2 e
  · have := (h.se.kLo e2).2
    omega
end
/-- The order of the names is one. -/
theorem order_one {D L1 L2 : List (ByteArray × Nat)} (hk : (D.map (·.1)).Nodup) (h1 : L1.Perm D) (h2 : L2.Perm D) (s1 : SortV (L1.map (·.1))) (s2 : SortV (L2.map (·.1))) : L1 = L2 := by
  have e : L1.map (·.1) = L2.map (·.1) := s1.eq s2 ((h1.trans h2.symm).map _)
  have f : ∀ L : List (ByteArray × Nat), L.Perm D → L = (L.map (·.1)).map fun s => (s, (mgGet s D).getD 0) := fun L hL => by
    rw [List.map_map]
    conv => lhs; rw [← List.map_id L]
    refine List.map_congr_left fun p hp => ?_
    simp only [Function.comp_apply, id]
    rw [mgGet_some (v := p.2) hk (hL.mem_iff.1 hp)]
    rfl
  rw [f L1 h1, f L2 h2, e]
end Go.Proofs.Ytdjmmdhjjdnbdaa

/- Layer 4: the examples that each statement asks first: 'lives' answers true. -/
namespace Go.Proofs.Ytdjmmdhjjdnbdaa
open Go.RowKit

theorem conv_const (w : World) (C : Array Value) (n c g : Nat) (hg : g = w.heap.size) :
    (convert 24 24 (.slice (some ⟨g, 0, none⟩) n c)).run Try.prog (w.alloc (.cells C 5)) = .ok (.slice (some ⟨g, 0, none⟩) n c) (w.alloc (.cells C 5 (C.size, C.size + 1))) := by
  subst hg
  exact Lib.run_convert_bytes_const w _ _ C n c Try.underlying24 Try.underlying5
theorem Rd.litm {w : World} {cs : Array Value} {t : TypeId} {fr : Nat × Nat} {g : Nat} (hg : w.heap.size = g) : Rd (w.alloc (.cells cs t fr)) (g + 1) (some ⟨g, 0, none⟩) cs.toList := fun _ => by
  subst hg
  exact ⟨w.heap.size, 0, rfl, by omega, fun j u hu => by
    rw [Nat.zero_add, World.cell?_alloc_mark]
    simpa using hu⟩
theorem SeP.is {w0 W w' : World} {K : Nat → Prop} {F k : Nat} {R : VSt × Nat} {T : VSt} {r : Nat} {x : Int} {e : Ending} (h : SeP w0 W K F k R e w') (hR : R = (T, r)) (hx : (r : Int) = x) : e = .returned (.int .i64 x) ∧ Se w0 w' (Kn K W.heap.size w'.heap.size) F T (k + 1) ∧ FrK W w' K := by
  subst hR
  subst hx
  exact h
theorem Se.new {w0 W : World} {K : Nat → Prop} {F k : Nat} {S : VSt} (h : Se w0 W K F S k) {g : Nat} (hg : W.heap.size = g) : ∀ a, some (⟨g, 0, none⟩ : Addr) = some a → ¬K a.block := fun a ha e => by
  have h1 := (h.kLo e).2
  cases ha
  simp only at h1
  omega
def tA : ByteArray := ⟨#[97]⟩
def tB : ByteArray := ⟨#[98]⟩
def lv0 : VSt := VSt.new 100
def lv1 : VSt := (lv0.create tA).1
def lv2 : VSt := lv1.syncDir.1
def lv3 : VSt := (lv2.append tA [120, 121]).1
def lv4 : VSt := (lv3.sync tA).1
def lv5 : VSt := (lv4.append tA [122]).1
def lv6 : VSt := lv5.crash 0 [1] [(tA, 0)]
def lv7 : VSt := (lv6.read tA 0 9).1
theorem lv_e1 : (lv0.create tA).2 = 0 := by decide +kernel
theorem lv_e2 : lv1.syncDir.2 = 0 := by decide +kernel
theorem lv_e3 : (lv2.append tA [120, 121]).2 = 0 := by decide +kernel
theorem lv_e4 : (lv3.sync tA).2 = 0 := by decide +kernel
theorem lv_e5 : (lv4.append tA [122]).2 = 0 := by decide +kernel
theorem lv_e6 : lv5.dirN (VSt.modulo 0 lv5.chg.length) = [(tA, 0)] := by decide +kernel
theorem lv_e7 : (lv6.read tA 0 9).2 = ([120, 121, 122], 0) := by decide +kernel
theorem lv_e8 : lv7.size tB = -1 := by decide +kernel
theorem lv_e9 : (lv7.create tA).2 = 5 := by decide +kernel
theorem lv_str : strOfNums [120, 121, 122] = ⟨#[120, 121, 122]⟩ := by decide +kernel
theorem pair_eq {α β : Type} {p : α × β} {a : α} {b : β} (h1 : p.1 = a) (h2 : p.2 = b) : p = (a, b) := Prod.ext h1 h2
set_option maxRecDepth 100000 in
set_option maxHeartbeats 4000000 in
theorem vfLives (w : World) : Calls Try.prog 8 #[] w fun e w' => e = .returned (.bool true) ∧ Below w.heap.size w w' := by
  go_enter Try.func8, Try.ntmps8
  go_wp2_with fail
  refine (seNew w 100 (by omega)).mono ?_
  rintro e w1 ⟨F, rfl, s1⟩
  have c1 := (seCreate s1 (by omega) tA (by decide)).mono fun e w' h => h.is (pair_eq (a := lv1) rfl lv_e1) (x := 0) rfl
  have C1 := Lib.hid c1
  clear c1 s1
  go_wp2_with fail
  refine C1.out.mono ?_
  rintro e w2 ⟨rfl, s2, -⟩
  have c2 := (seSyncDir s2 (by omega)).mono fun e w' h => h.is (pair_eq (a := lv2) rfl lv_e2) (x := 0) rfl
  have C2 := Lib.hid c2
  clear c2 s2
  go_wp2_with fail
  refine C2.out.mono ?_
  rintro e w3 ⟨rfl, s3, -⟩
  have cv1 := conv_const w3 #[.int .u8 120, .int .u8 121] 2 2 w3.heap.size rfl
  simp only [List.size_toArray, List.length_cons, List.length_nil, Nat.reduceAdd] at cv1
  have r1 : Rb (w3.alloc (.cells #[.int .u8 120, .int .u8 121] 5 (2, 3))) (w3.heap.size + 1) (some ⟨w3.heap.size, 0, none⟩) [120, 121] := Rd.litm (w := w3) (cs := #[.int .u8 120, .int .u8 121]) (t := 5) rfl
  have c3 := (seAppend (c := 2) (n := 2) (s3.alloc (.cells #[.int .u8 120, .int .u8 121] 5 (2, 3))) (by omega) tA (by decide) r1 (Byt.of rfl) (s3.new rfl) rfl (by simp) (by omega)).mono fun e w' h => h.is (pair_eq (a := lv3) rfl lv_e3) (x := 0) rfl
  have C3 := Lib.hid c3
  clear c3 s3 r1
  go_wp2_with fail
  refine C3.out.mono ?_
  rintro e w4 ⟨rfl, s4, -⟩
  have c4 := (seSync s4 (by omega) tA (by decide)).mono fun e w' h => h.is (pair_eq (a := lv4) rfl lv_e4) (x := 0) rfl
  have C4 := Lib.hid c4
  clear c4 s4 cv1
  go_wp2_with fail
  refine C4.out.mono ?_
  rintro e w5 ⟨rfl, s5, -⟩
  have cv1 := conv_const w5 #[.int .u8 122] 1 1 w5.heap.size rfl
  simp only [List.size_toArray, List.length_cons, List.length_nil, Nat.reduceAdd] at cv1
  have r1 : Rb (w5.alloc (.cells #[.int .u8 122] 5 (1, 2))) (w5.heap.size + 1) (some ⟨w5.heap.size, 0, none⟩) [122] := Rd.litm (w := w5) (cs := #[.int .u8 122]) (t := 5) rfl
  have c5 := (seAppend (c := 1) (n := 1) (s5.alloc (.cells #[.int .u8 122] 5 (1, 2))) (by omega) tA (by decide) r1 (Byt.of rfl) (s5.new rfl) rfl (by simp) (by omega)).mono fun e w' h => h.is (pair_eq (a := lv5) rfl lv_e5) (x := 0) rfl
  have C5 := Lib.hid c5
  clear c5 s5 r1
  go_wp2_with fail
  refine C5.out.mono ?_
  rintro e w6 ⟨rfl, s6, -⟩
  have r2 : Rd (w6.alloc (.cells #[.int .i64 1] 3)) (w6.heap.size + 1) (some ⟨w6.heap.size, 0, none⟩) (([1] : List Int).map intV) := Rd.lit w6 #[.int .i64 1] 3
  have c6 := (seCrash (ck := 1) (nk := 1) (keep := [1]) (s6.alloc (.cells #[.int .i64 1] 3)) (by omega) 0 (by omega) (by omega) r2 (by simp) rfl (s6.new rfl) (fun x hx => by simp at hx; omega) (by omega)).mono fun e w' h => (show ∃ T, T = lv6 ∧ SeP w (w6.alloc (.cells #[.int .i64 1] 3)) _ F _ (T, 0) e w' from by
    obtain ⟨L, h1, -, h2⟩ := h
    rw [lv_e6] at h1
    have h3 := List.perm_singleton.1 h1
    subst h3
    exact ⟨_, rfl, h2⟩)
  have C6 := Lib.hid c6
  clear c6 s6 r2 cv1
  go_wp2_with fail
  refine C6.out.mono ?_
  rintro e w7 ⟨T, rfl, h7⟩
  obtain ⟨rfl, s7, -⟩ := h7.is (T := lv6) (r := 0) (x := 0) rfl rfl
  have c7 := seRead s7 (by omega) tA (by decide) 0 9
  have C7 := Lib.hid c7
  clear c7 s7 h7
  go_wp2_with fail
  refine C7.out.mono ?_
  rintro e w8 ⟨A, c, rfl, hrb, -, s8, -⟩
  rw [lv_e7] at hrb ⊢
  have hst : (convert 24 9 (.slice A 3 c)).run Try.prog w8 = .ok (.string ⟨#[120, 121, 122]⟩) w8 := by
    have := Rb.str (P := Try.prog) hrb Try.underlying24 Try.underlying5 Try.underlying9 c
    rw [lv_str] at this
    exact this
  have c8 := seSize (S := lv7) s8 tB
  rw [lv_e8] at c8
  have c9 := (seCreate (S := lv7) s8 (by omega) tA (by decide)).mono fun e w' h => h.is (pair_eq rfl lv_e9) (x := 5) rfl
  have C8 := Lib.hid c8
  have C9 := Lib.hid c9
  clear c8 c9 s8 hrb
  go_wp2_with fail
  refine C8.out.mono ?_
  rintro e w9 ⟨rfl, rfl⟩
  go_wp2_with fail
  refine C9.out.mono ?_
  rintro e w9 ⟨rfl, s9, -⟩
  go_wp2_with fail
  go_ret
  exact ⟨rfl, s9.bel⟩
end Go.Proofs.Ytdjmmdhjjdnbdaa

/- Layer 4: what comes in: a call (the law's Act), and a list of them. -/
namespace Go.Proofs.Ytdjmmdhjjdnbdaa
open Go.ChangeShapes Go.WideShapes Go.ChangeAt Go.RowKit

theorem open_fBv {H : Type} {enc : TypeId × Value → H} {W : World} {base : Nat} {held : Bool} {v : Value} {fuel : Nat} {x : DataW H × List MemPlace}
    (h : DataW.trod enc Try.prog W base (fun _ => true) held fuel 24 [v] = some x) : ∃ A n c zs, v = .slice A n c ∧ InB W A n c zs := by
  rcases open_ints Try.underlying24 Try.underlying5 (by kernel_rfl) h with ⟨hcs, _⟩ | ⟨a, l, c, zs, hcs, _, hl, hm, hz, _, hcell, hwz⟩
  · simp at hcs
    subst hcs
    obtain ⟨zs, hi⟩ := open_inB (enc := enc) (d := x.1) (p := x.2) ⟨fuel, h⟩
    exact ⟨_, _, _, zs, rfl, hi⟩
  · simp at hcs
    subst hcs
    obtain ⟨zs, hi⟩ := open_inB (enc := enc) (d := x.1) (p := x.2) ⟨fuel, h⟩
    exact ⟨_, _, _, zs, rfl, hi⟩
theorem rd_of_cellsV {w : World} {k : IntKind} {A : Option Addr} {zs : List Int} {L : Nat} (hn : A = none → zs.length = 0) (hc : ∀ a, A = some a → ∀ c, c < zs.length → w.cell? (a.add c) = some (.int k (zs.getD c 0))) : Rd w w.heap.size A ((zs.take L).map (Value.int k)) := by
  intro hne
  have hpos : 0 < zs.length := by
    rcases Nat.eq_zero_or_pos zs.length with h0 | h0
    · rw [List.eq_nil_of_length_eq_zero h0] at hne; simp at hne
    · exact h0
  cases A with
  | none => have := hn rfl; omega
  | some a =>
    obtain ⟨b, off, spot⟩ := a
    have h0 := hc _ rfl 0 hpos
    have hspot : spot = none := by simpa [Addr.add] using World.cell?_spot h0
    subst hspot
    refine ⟨b, off, rfl, World.block_lt_of_cell? w ⟨b, off, none⟩ (by simpa [Addr.add] using h0), fun j u hu => ?_⟩
    rw [List.map_take, List.getElem?_take] at hu
    split at hu
    · have hj : j < zs.length := by
        have := (List.getElem?_eq_some_iff.1 hu).1
        simpa using this
      have h2 := hc _ rfl j hj
      rw [Addr.add_lit] at h2
      rw [h2, ← hu]
      simp [List.getD, hj]
    · cases hu
/-- An int of a machine. -/
def I64 (x : Int) : Prop := -9223372036854775808 ≤ x ∧ x ≤ 9223372036854775807
theorem i64_wf {x : Int} (h : (Lit.int .i64 x).wf = true) : I64 x := by
  unfold I64
  simp [Lit.wf, IntKind.min, IntKind.max, IntKind.signed, IntKind.bits] at h
  omega
/-- A slice of ints that came in. -/
structure InIv (w : World) (A : Option Addr) (n c : Nat) (zs : List Int) : Prop where
  rd : Rd w w.heap.size A (zs.map intV)
  len : zs.length = n
  cap : n ≤ c
  max : c ≤ maxLen
  wf : ∀ x ∈ zs, I64 x
theorem open_fIv {H : Type} {enc : TypeId × Value → H} {W : World} {base : Nat} {held : Bool} {v : Value} {fuel : Nat} {x : DataW H × List MemPlace}
    (h : DataW.trod enc Try.prog W base (fun _ => true) held fuel 34 [v] = some x) : ∃ A n c zs, v = .slice A n c ∧ InIv W A n c zs := by
  rcases open_ints Try.underlying34 Try.underlying3 (by kernel_rfl) h with ⟨hcs, _⟩ | ⟨a, l, c, zs, hcs, _, hl, hm, hz, _, hcell, hwz⟩
  · simp at hcs
    subst hcs
    exact ⟨none, 0, 0, [], rfl, Rd.nil, rfl, Nat.le_refl _, by simp [maxLen], fun x hx => by simp at hx⟩
  · simp at hcs
    subst hcs
    have hz : zs.length = c := by simpa using hz
    exact ⟨_, _, _, zs.take l, rfl, rd_of_cellsV (fun e => by cases e) (fun a e c hc => by cases e; exact hcell c hc), by simp; omega, hl, hm, fun y hy => i64_wf (hwz y (List.mem_of_mem_take hy))⟩
/-- A call of the law's script. -/
structure VAct where
  kind : Int
  a : ByteArray
  c : ByteArray
  b : List Int
  n : Int
  m : Int
  e : Int
  keep : List Int
/-- A call, and where its slices lie. -/
structure VAc where
  x : VAct
  Ab : Option Addr
  cb : Nat
  Ak : Option Addr
  ck : Nat
def acC (z : VAc) : List Value := [.int .i64 z.x.kind, .string z.x.a, .string z.x.c, .slice z.Ab z.x.b.length z.cb, .int .i64 z.x.n, .int .i64 z.x.m, .int .i64 z.x.e, .slice z.Ak z.x.keep.length z.ck]
/-- What is known of a call that came in. -/
structure AcOk (w : World) (B : Nat) (z : VAc) : Prop where
  b : Rb w B z.Ab z.x.b
  byt : Byt z.x.b
  k : Rd w B z.Ak (z.x.keep.map intV)
  kw : ∀ x ∈ z.x.keep, I64 x
  a : z.x.a.size ≤ maxLen
  c : z.x.c.size ≤ maxLen
  kind : I64 z.x.kind
  n : I64 z.x.n
  m : I64 z.x.m
  e : I64 z.x.e
  bl : z.x.b.length ≤ maxLen
  kl : z.x.keep.length ≤ maxLen
  bc : z.x.b.length ≤ z.cb
  kc : z.x.keep.length ≤ z.ck
set_option maxRecDepth 100000 in
theorem open_acCells {H : Type} {enc : TypeId × Value → H} {W : World} {base : Nat} {held : Bool} {v0 v1 v2 v3 v4 v5 v6 v7 : Value} {fuel : Nat} {x : DataW H × List MemPlace}
    (h : DataW.trod enc Try.prog W base (fun _ => true) held fuel 53 [v0, v1, v2, v3, v4, v5, v6, v7] = some x) :
    ∃ z : VAc, [v0, v1, v2, v3, v4, v5, v6, v7] = acC z ∧ AcOk W W.heap.size z := by
  obtain ⟨xs, n, _, hx, hlen, hyl, hf⟩ := DataW.trod_struct Try.underlying53 h
  match xs, hyl with
  | [y0, y1, y2, y3, y4, y5, y6, y7], _ =>
    have cI : Try.prog.cellsOf 3 = 1 := by kernel_rfl
    have cS : Try.prog.cellsOf 9 = 1 := by kernel_rfl
    have cB : Try.prog.cellsOf 24 = 1 := by kernel_rfl
    have cE : Try.prog.cellsOf 26 = 1 := by kernel_rfl
    have cK : Try.prog.cellsOf 34 = 1 := by kernel_rfl
    have h0 : DataW.trod enc Try.prog W base (fun _ => true) held n 3 (([v0, v1, v2, v3, v4, v5, v6, v7].drop 0).take (Try.prog.cellsOf 3)) = some y0 := hf 0 _ rfl
    have h1 : DataW.trod enc Try.prog W base (fun _ => true) held n 9 (([v0, v1, v2, v3, v4, v5, v6, v7].drop 1).take (Try.prog.cellsOf 9)) = some y1 := hf 1 _ rfl
    have h2 : DataW.trod enc Try.prog W base (fun _ => true) held n 9 (([v0, v1, v2, v3, v4, v5, v6, v7].drop 2).take (Try.prog.cellsOf 9)) = some y2 := hf 2 _ rfl
    have h3 : DataW.trod enc Try.prog W base (fun _ => true) held n 24 (([v0, v1, v2, v3, v4, v5, v6, v7].drop 3).take (Try.prog.cellsOf 24)) = some y3 := hf 3 _ rfl
    have h4 : DataW.trod enc Try.prog W base (fun _ => true) held n 3 (([v0, v1, v2, v3, v4, v5, v6, v7].drop 4).take (Try.prog.cellsOf 3)) = some y4 := hf 4 _ rfl
    have h5 : DataW.trod enc Try.prog W base (fun _ => true) held n 3 (([v0, v1, v2, v3, v4, v5, v6, v7].drop 5).take (Try.prog.cellsOf 3)) = some y5 := hf 5 _ rfl
    have h6 : DataW.trod enc Try.prog W base (fun _ => true) held n 26 (([v0, v1, v2, v3, v4, v5, v6, v7].drop 6).take (Try.prog.cellsOf 26)) = some y6 := hf 6 _ rfl
    have h7 : DataW.trod enc Try.prog W base (fun _ => true) held n 34 (([v0, v1, v2, v3, v4, v5, v6, v7].drop 7).take (Try.prog.cellsOf 34)) = some y7 := hf 7 _ rfl
    rw [cI] at h0 h4 h5
    rw [cS] at h1 h2
    rw [cB] at h3
    rw [cE] at h6
    rw [cK] at h7
    simp only [List.drop_zero, List.drop_succ_cons, List.take_succ_cons, List.take_zero] at h0 h1 h2 h3 h4 h5 h6 h7
    obtain ⟨k0, e0, -, w0⟩ := DataW.trod_int Try.underlying3 h0
    obtain ⟨k1, e1, -, w1⟩ := DataW.trod_string Try.underlying9 h1
    obtain ⟨k2, e2, -, w2⟩ := DataW.trod_string Try.underlying9 h2
    obtain ⟨A3, n3, c3, z3, e3, i3⟩ := open_fBv h3
    obtain ⟨k4, e4, -, w4⟩ := DataW.trod_int Try.underlying3 h4
    obtain ⟨k5, e5, -, w5⟩ := DataW.trod_int Try.underlying3 h5
    obtain ⟨k6, e6, -, w6⟩ := DataW.trod_int (k := .i64) (by kernel_rfl) h6
    obtain ⟨A7, n7, c7, z7, e7, i7⟩ := open_fIv h7
    simp at e0 e1 e2 e4 e5 e6
    subst e0 e1 e2 e3 e4 e5 e6 e7
    have l3 := i3.len
    have l7 := i7.len
    have q3 := i3.cap
    have q7 := i7.cap
    have m3 := i3.max
    have m7 := i7.max
    refine ⟨⟨⟨k0, k1, k2, z3, k4, k5, k6, z7⟩, A3, c3, A7, c7⟩, by rw [acC]; simp only [l3, l7], ⟨i3.rd, i3.byt, i7.rd, i7.wf, w1, w2, i64_wf w0, i64_wf w4, i64_wf w5, i64_wf w6, by show z3.length ≤ _; omega, by show z7.length ≤ _; omega, by show z3.length ≤ c3; omega, by show z7.length ≤ c7; omega⟩⟩
theorem eight {v : Array Value} (h : v.size = 8) : ∃ v0 v1 v2 v3 v4 v5 v6 v7, v = #[v0, v1, v2, v3, v4, v5, v6, v7] := by
  obtain ⟨l⟩ := v
  simp at h
  match l, h with
  | [v0, v1, v2, v3, v4, v5, v6, v7], _ => exact ⟨v0, v1, v2, v3, v4, v5, v6, v7, rfl⟩
/-- A call as a value. -/
def acV (z : VAc) : Value := .agg (acC z).toArray
set_option maxRecDepth 100000 in
theorem open_inAct {H : Type} {enc : TypeId × Value → H} {W : World} {base b0 : Nat} {r : Reach} {held : Bool} {v : Value} {d : DataW H} {p : List MemPlace} (hv : Value.okWide Try.prog W r b0 53 v)
    (h : DataW.Trod enc Try.prog W base (fun _ => true) held 53 v d p) : ∃ z : VAc, v = acV z ∧ AcOk W W.heap.size z := by
  obtain ⟨cs, rfl, hsz⟩ := okWide_struct Try.underlying53 hv
  obtain ⟨v0, v1, v2, v3, v4, v5, v6, v7, rfl⟩ := eight (hsz.trans (by kernel_rfl))
  obtain ⟨fuel, hf⟩ := h
  have h8 : DataW.trod enc Try.prog W base (fun _ => true) held fuel 53 [v0, v1, v2, v3, v4, v5, v6, v7] = some (d, p) := hf
  obtain ⟨z, hz, hok⟩ := open_acCells h8
  exact ⟨z, by rw [acV, ← hz], hok⟩
end Go.Proofs.Ytdjmmdhjjdnbdaa
