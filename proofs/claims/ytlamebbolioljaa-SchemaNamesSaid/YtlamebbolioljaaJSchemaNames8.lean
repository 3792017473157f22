/- Texts of the proof of SchemaNamesSaid, joined: ByM ScTp ScNm ScT SrH RfA Stw SrB. -/
import Derived.Test.YtlamebbolioljaaJSchemaNames7
import Derived.Test.YtlamebbolioljaaJSchemaNames4
import Derived.Deep.Cut
import Derived.Deep.CutRange
import Derived.Deep.RegionHeld3
import Derived.Test.YtlamebbolioljaaJSchemaNames3
import Derived.Test.YtlamebbolioljaaJSchemaNames6
import Derived.Test.YtlamebbolioljaaJSchemaNames2
import Derived.Test.YtlamebbolioljaaJSchemaNames5
/- A byte slice that a call has made: what is known of it. -/
namespace Go.Proofs.Ytlamebbolioljaa
open Go.RowKit

/-- A byte slice that a call has made. -/
structure BytNew (w : World) (zs : List Int) (A : Option Addr) (c : Nat) (w' : World) : Prop where
  rd : Rb w' w'.heap.size A zs
  bel : Below w.heap.size w w'
  cap : zs.length ≤ c
  nil : A = none → c = 0
  new : ∀ a, A = some a → w.heap.size ≤ a.block
def BytMade (w : World) (zs : List Int) (e : Ending) (w' : World) : Prop := ∃ A c, e = .returned (.slice A zs.length c) ∧ BytNew w zs A c w'
theorem BytNew.of {w w' : World} {zs : List Int} {A : Option Addr} {c : Nat} (h : AppT w.heap.size 5 1 w (.slice none 0 0) w' (.slice A zs.length c) zs.length (bv zs)) : BytNew w zs A c w' := by
  have hb : Below w.heap.size w w' := h.below (Nat.le_refl _) (fun k hk => by cases hk)
  refine ⟨h.own.rd, hb, ?_, ?_, ?_⟩
  · rcases h.own.2 with ⟨h1, h2⟩ | ⟨g, cap, cur, fz, h1, _, _, _, h2, _⟩
    · omega
    · injection h1 with _ _ h3; omega
  · intro e
    subst e
    rcases h.own.2 with ⟨h1, h2⟩ | ⟨g, cap, cur, fz, h1, _⟩
    · injection h1
    · injection h1 with h1; cases h1
  · intro a e
    subst e
    exact (h.own.lt a.block rfl).1
theorem BytMade.ofT {w : World} {zs : List Int} {P : Option Addr → Prop} {e : Ending} {w' : World} (h : RetAppT w.heap.size 5 1 w (.slice none 0 0) zs.length (bv zs) P e w') : BytMade w zs e w' := by
  obtain ⟨A, c, rfl, h, -⟩ := h
  exact ⟨A, c, rfl, .of h⟩
theorem BytMade.ofN {w : World} {zs : List Int} {P : Option Addr → Prop} {e : Ending} {w' : World} (h : RetNew 5 1 w zs.length (bv zs) P e w') : BytMade w zs e w' := by
  obtain ⟨A, c, rfl, h, -⟩ := h
  exact ⟨A, c, rfl, .of ⟨ownsT.of h.own, h.grown, h.block⟩⟩
end Go.Proofs.Ytlamebbolioljaa

/- What Writes answers: the accounts that its loops keep. Plain. -/
namespace Go.Proofs.Ytlamebbolioljaa
open Go.RowKit

/-- A span that was told to be fine. -/
structure AE.Fine (e : AE) : Prop where
  tm : e.Tm
  tags : e.a.s.tags.length ≤ 16
  sum : e.a.s.start + e.a.s.length ≤ 4611686018427387903
theorem AE.fine {e : AE} (h : adChk e.a = 0) : e.Fine := by
  unfold adChk at h
  have hs : spChk e.a.s = 0 := by
    by_cases h1 : spChk e.a.s ≠ 0
    · rw [if_pos h1] at h; exact absurd h h1
    · exact Decidable.not_not.1 h1
  unfold spChk at hs
  by_cases h1 : longB e.a.s = true
  · rw [if_pos h1] at hs; omega
  rw [if_neg h1] at hs
  cases h2 : (headB e.a.s && tagsOk e.a.s.tags e.a.s.tags.length) with
  | false => rw [h2] at hs; simp at hs
  | true =>
  rw [Bool.and_eq_true] at h2
  have hh := h2.1
  unfold headB at hh
  simp only [Bool.and_eq_true, decide_eq_true_eq] at hh
  obtain ⟨⟨⟨⟨-, b1⟩, b2⟩, b3⟩, b4⟩ := hh
  simp only [longB, Bool.or_eq_true, decide_eq_true_eq, not_or, Bool.not_eq_true] at h1
  obtain ⟨⟨⟨c1, c2⟩, c3⟩, c4⟩ := h1
  exact ⟨⟨b1, by omega, b2, by omega⟩, by omega, by omega⟩
theorem keysOf_u64 {s : Sp} (hu : s.U64) (h0 : 0 ≤ s.length) (h1 : s.length < 4611686018427387904) : ∀ k ∈ keysOf s, k.U64 := by
  obtain ⟨u1, u2, u3, u4⟩ := hu
  intro k hk
  simp only [keysOf, keys5, List.mem_append, List.mem_cons, List.not_mem_nil, or_false, List.mem_map] at hk
  rcases hk with (rfl | rfl | rfl | rfl | rfl) | ⟨t, -, rfl⟩
  · exact ⟨u1, u2, u3, by simp⟩
  · exact ⟨u1, u2, u3, by simp [kyW]⟩
  · exact ⟨u1, u2, u3, by simp [kyW]⟩
  · exact ⟨u1, u2, u3, by show s.length.toNat < _; omega⟩
  · exact ⟨by simp, by simp, by simp, by simp⟩
  · exact ⟨u1, u2, u3, by simp [kyT, kyW]⟩
theorem keysOf_len (s : Sp) : (keysOf s).length = 5 + s.tags.length := by simp [keysOf, keys5]; omega
theorem wrKeys_snoc (zs : List Int) (k : Ky) : ∀ (ks : List Ky) (i : Nat) (acc : List Wr), wrKeys zs (ks ++ [k]) i acc = putW (wrKeys zs ks i acc) k (if i + ks.length = 0 then zs else [])
  | [], i, acc => by simp [wrKeys]
  | x :: ks, i, acc => by
    rw [List.cons_append, wrKeys, wrKeys_snoc zs k ks (i + 1), wrKeys, List.length_cons, show i + 1 + ks.length = i + (ks.length + 1) by omega]
theorem wrKeys_take {zs : List Int} {ks : List Ky} {acc : List Wr} {q : Nat} {k : Ky} (h : ks[q]? = some k) : wrKeys zs (ks.take (q + 1)) 0 acc = putW (wrKeys zs (ks.take q) 0 acc) k (if q = 0 then zs else []) := by
  have hq := (List.getElem?_eq_some_iff.1 h).1
  rw [take_snoc h, wrKeys_snoc, List.length_take, Nat.min_eq_left (by omega), Nat.zero_add]
/-- The first write. -/
def wrHead (l : List AE) : List Wr :=
  match l with
  | [] => []
  | e :: l => putW [] (trKey e) (recEnc (l.length + 1) (bnds (e :: l)).1.toNat (bnds (e :: l)).2.toNat)
/-- The writes of the first p spans. -/
def wrTo (l : List AE) (p : Nat) : List Wr := (l.take p).foldl wrSpan (wrHead l)
theorem wrTo_snoc {l : List AE} {p : Nat} {x : AE} (h : l[p]? = some x) : wrTo l (p + 1) = wrSpan (wrTo l p) x := by
  rw [wrTo, take_snoc h, List.foldl_append]
  rfl
theorem wrTo_all {l : List AE} (h : l ≠ []) : wrTo l l.length = wrAll l := by
  cases l with
  | nil => exact absurd rfl h
  | cons e l => rw [wrTo, List.take_of_length_le (Nat.le_refl _)]; rfl
theorem wrHead_eq {l : List AE} {h : AE} (hh : l[0]? = some h) : wrHead l = putW [] (trKey h) (recEnc l.length (bnds l).1.toNat (bnds l).2.toNat) := by
  cases l with
  | nil => cases hh
  | cons e l => injection hh with hh; subst hh; rfl
theorem wrTo_len {l : List AE} (hf : ∀ e ∈ l, e.Fine) : ∀ p, p ≤ l.length → (wrTo l p).length ≤ 1 + p * 21
  | 0, _ => by
    rw [wrTo, List.take_zero, List.foldl_nil]
    cases l with
    | nil => simp [wrHead]
    | cons e l => exact putW_len _ _ _
  | p + 1, h => by
    obtain ⟨x, hx⟩ : ∃ x, l[p]? = some x := ⟨_, List.getElem?_eq_getElem (by omega)⟩
    have ih := wrTo_len hf p (by omega)
    rw [wrTo_snoc hx, wrSpan]
    have h1 := wrKeys_len (adEnc x.a) (keysOf x.a.s) 0 (wrTo l p)
    have h2 := (hf x (List.mem_of_getElem? hx)).tags
    rw [keysOf_len] at h1
    omega
theorem bnds_fine {l : List AE} (hf : ∀ e ∈ l, e.Fine) : 0 ≤ (bnds l).1 ∧ (bnds l).1 ≤ 4611686018427387903 ∧ 0 ≤ (bnds l).2 ∧ (bnds l).2 ≤ 4611686018427387903 := by
  have step : ∀ (l : List AE) (b : Int × Int), (∀ e ∈ l, e.Fine) → 0 ≤ b.1 ∧ b.1 ≤ 4611686018427387903 ∧ 0 ≤ b.2 ∧ b.2 ≤ 4611686018427387903 →
      0 ≤ (l.foldl bndStep b).1 ∧ (l.foldl bndStep b).1 ≤ 4611686018427387903 ∧ 0 ≤ (l.foldl bndStep b).2 ∧ (l.foldl bndStep b).2 ≤ 4611686018427387903 := by
    intro l
    induction l with
    | nil => intro b _ h; exact h
    | cons e l ih =>
      intro b hf h
      refine ih _ (fun x hx => hf x (by simp [hx])) ?_
      have he := hf e (by simp)
      obtain ⟨⟨a1, a2, a3, a4⟩, -, a5⟩ := he
      simp only [bndStep]
      omega
  cases l with
  | nil => simp [bnds]
  | cons e l =>
    have he := hf e (by simp)
    obtain ⟨⟨a1, a2, a3, a4⟩, -, a5⟩ := he
    exact step _ _ hf (by simp only; omega)
/-- A value of the row, wherever the row was kept. -/
theorem VsM.at {e : TypeId} {W0 W : World} {lo : Nat} {A : Option Addr} {j c : Nat} {acc : List (List Int)} {hs : List Value} (h : VsM e W0 lo A j c acc hs) (hb : Below W0.heap.size W0 W) {i : Nat} {x : List Int} (hi : acc[i]? = some x) :
    ∃ b o A1 c1, A = some ⟨b, o, none⟩ ∧ b < W0.heap.size ∧ W.cell? ⟨b, o + i, none⟩ = some (.slice A1 x.length c1) ∧ x.length ≤ c1 ∧ Rb W W0.heap.size A1 x ∧ (A1 = none → c1 = 0) ∧ (x ≠ [] → ∀ a, A1 = some a → a.block < W0.heap.size) := by
  obtain ⟨b, o, A1, c1, h1, h2, h3, h4, h5, h6⟩ := h.get hi
  refine ⟨b, o, A1, c1, h1, h2, (hb.cell h2).trans h3, h4, Rd.below h5 hb, h6, fun hz a ha => ?_⟩
  obtain ⟨b', o', e', hb', -⟩ := h5 (by simpa [bv] using hz)
  rw [ha] at e'
  cases e'
  exact hb'
theorem Rd.keepBlock {w w' : World} {B : Nat} {A : Option Addr} {xs : List Value} (h : Rd w B A xs) (hk : ∀ a, A = some a → w'.heap[a.block]? = w.heap[a.block]?) : Rd w' B A xs := fun hn => by
  obtain ⟨b, o, rfl, hb, hc⟩ := h hn
  exact ⟨b, o, rfl, hb, fun j u hu => (World.cell?_of_block (a := ⟨b, o + j, none⟩) (show w'.heap[b]? = w.heap[b]? from hk ⟨b, o, none⟩ rfl)).trans (hc j u hu)⟩
theorem own_cap {w : World} {base n c size : Nat} {e : TypeId} {A : Option Addr} {xs : List Value} (h : w.ownsRow base e size (.slice A n c) n xs) : n ≤ c := by
  rcases (ownsT.of h).2 with ⟨h1, h2⟩ | ⟨g, cap, cur, fz, h1, _, _, _, h2, _⟩
  · omega
  · injection h1 with _ _ h3; omega
set_option maxRecDepth 100000 in
theorem loadK_kyR {w : World} {b o i : Nat} {k : Ky} (h : ∀ j, j < 9 → w.cell? ⟨b, o + (i * 9 + j), none⟩ = (kyL k)[j]?) : (loadK 26 ⟨b, o + i * 9, none⟩).run Try.prog w = .ok (kyV k) w :=
  run_loadVar_cellsK w _ _ ⟨b, o + i * 9, none⟩ (kyL k) Try.underlying26 rfl (by rfl) (fun j v hv => by
    have hj : j < 9 := by have := (List.getElem?_eq_some_iff.1 hv).1; rwa [kyL_length] at this
    rw [Addr.add_lit, Nat.add_assoc, h j hj, hv])
end Go.Proofs.Ytlamebbolioljaa

/- SchemaNames: what the examples come to. Plain. -/
namespace Go.Proofs.Ytlamebbolioljaa
open Go.RowKit

def trK : Ky := ⟨116, 1, 2, 0, ⟨#[]⟩, ⟨#[]⟩, ⟨#[]⟩, 0, 0⟩
theorem trK_pack : packOf trK = ([116, 0, 0, 0, 0, 0, 0, 0, 1, 0, 0, 0, 0, 0, 0, 0, 2], 0) := by decide +kernel
theorem nameK_first : firstOf nameK 1 = ([110, 97, 0, 1], 0) := by decide +kernel
theorem na_unp : unpOf [110, 97] = (zeroKy, 12) := by decide +kernel
def nmA : Ad := ⟨⟨0, 1, 1, 0, ⟨#[97]⟩, ⟨#[120]⟩, 0, 0, 0, false, []⟩, 0, 0, 0⟩
def nmE : AE := ⟨nmA, none, 0, 0⟩
theorem nm_err : (wrOut [nmE]).2 = 0 := by decide +kernel
theorem nm_firsts : ((wrOut [nmE]).1.map fun x => x.key.take 1) = [[116], [115], [105], [111], [100], [110]] := by decide +kernel
end Go.Proofs.Ytlamebbolioljaa

/- schema.Writes: the walk (its answer: wrOut). -/
namespace Go.Proofs.Ytlamebbolioljaa
open Go.RowKit
theorem loadAd_shutT (a : Addr) : loadVar 45 a = loadK 45 a := rfl
attribute [local go_sem ↓] loadAd_shutT
theorem loadSp_shutT (a : Addr) : loadVar 43 a = loadK 43 a := rfl
attribute [local go_sem ↓] loadSp_shutT
theorem loadKy_shutT (a : Addr) : loadVar 26 a = loadK 26 a := rfl
attribute [local go_sem ↓] loadKy_shutT
theorem wrErr_snoc (x : AE) : ∀ (l : List AE), wrErr (l ++ [x]) = if wrErr l ≠ 0 then wrErr l else adChk x.a
  | [] => by
    by_cases h : adChk x.a = 0 <;> simp [wrErr, h]
  | y :: l => by
    have ih := wrErr_snoc x l
    by_cases h : adChk y.a = 0
    · simp [wrErr, h, ih]
    · simp [wrErr, h]
theorem wrErr_app (b : List AE) : ∀ (a : List AE), wrErr (a ++ b) = if wrErr a ≠ 0 then wrErr a else wrErr b
  | [] => rfl
  | y :: l => by
    have ih := wrErr_app b l
    by_cases h : adChk y.a = 0
    · simp [wrErr, h, ih]
    · simp [wrErr, h]
set_option maxRecDepth 100000 in
set_option maxHeartbeats 4000000 in
theorem scWrites {A : Option Addr} {n c B : Nat} (l : List AE) (w : World) (h : RbA w B A l) (hn : l.length = n) (hB : B ≤ w.heap.size) (h0 : 0 < n) (h32 : n ≤ 32) :
    Calls Try.prog 18 #[.slice A n c] w (WrsPost w (wrOut l)) := by
  have d0 : ((n : Int) == 0) = false := by simp; omega
  have d1 : decide ((32 : Int) < (n : Int)) = false := by simp; omega
  have HN := Lib.hid hn
  have HH := Lib.hid h
  clear hn h
  go_enter Try.func18, Try.ntmps18
  go_wp2_with fail
  go_loopw [4, 30] (fun v iv_ wr => ∃ (j : Nat) (Av : Option Addr) (cv : Nat) (vs : List Value), j ≤ n ∧ iv_ = .int .i64 j ∧ v = .slice Av j cv ∧ wrErr (l.take j) = 0 ∧ VsM 27 wr w.heap.size Av j cv ((l.take j).map fun e => adEnc e.a) vs ∧ Below w.heap.size w wr) (fun _ i _ => n - (intOf i).toNat)
  case atStart => exact ⟨0, none, 0, [], by omega, rfl, rfl, rfl, VsM.nil _ _ (Nat.le_refl _), Below.refl _ _⟩
  case round =>
    obtain ⟨j, Av, cv, vs, hj, rfl, rfl, he, hvs, hbr⟩ := hrel
    by_cases hlt : j < n
    · have hlt' : (j : Int) < (n : Int) := by omega
      obtain ⟨x, hx⟩ : ∃ x, l[j]? = some x := ⟨_, List.getElem?_eq_getElem (by rw [HN.out]; exact hlt)⟩
      obtain ⟨b, o, e', hbb, hc, hok⟩ := RbA.get (HH.out.below (hbr.mono hB)) hx
      cases e'
      have la := loadK_ae (e := x) hc
      have HX := Lib.hid hx
      have la2 := loadK_ad (Bk.new wr 45 (adC x.a x.A x.n x.c))
      have hcs := scSpan (At := x.A) (ct := x.c) (B := B) x.a (wr.alloc (.cells (adC x.a x.A x.n x.c) 45)) (Rd.alloc hok.rd (Nat.le_trans hB hbr.size) _) (by have := hbr.size; simp; omega) hok.len hok.max hok.ok
      have HC := Lib.hid hcs
      clear hc hx hcs
      go_wp2_with fail
      refine HC.out.mono ?_
      rintro e w3 ⟨A3, c3, rfl, hr3, hb3, hl3, hz3, hk3⟩
      have hbb : Below wr.heap.size wr w3 := ((Below.refl _ wr).alloc (Nat.le_refl _) _).trans (hb3.mono (by simp))
      have vs3 := hvs.below hbb
      have hbr3 := hbr.trans (hbb.mono hbr.size)
      by_cases hq : adChk x.a = 0
      · have ho : adOut x.a = (adEnc x.a, 0) := by rw [adOut, if_pos hq]
        rw [ho] at hr3 hl3 hz3 ⊢
        have hlo3 := vs3.hlo
        have hal : Below w3.heap.size w3 (w3.alloc (.cells #[.slice A3 (adEnc x.a).length c3] 27)) := (Below.refl _ w3).alloc (Nat.le_refl _) _
        have vsa := vs3.below hal
        go_wp2_with (at_builtin; go_loud (refine wpList_appV _ rfl (.tmp 42) (.tmp 44) rfl w.heap.size _ j vs rfl vsa.own (w3.heap.size + 1) (some ⟨w3.heap.size, 0, none⟩) 1 [.slice A3 (adEnc x.a).length c3] rfl rfl (Rd.lit w3 #[.slice A3 (adEnc x.a).length c3] _) (by simp [Value.oneCell']) (by omega) (by simp; omega) ?_); intro A6 c6 w6 happ)
        have hpush := vsa.push (x := adEnc x.a) happ (hr3.belowS hal) hl3 (fun _ a ha => by
          have h1 := hk3 a ha
          have h2 := hbr.size
          simp at h1
          refine ⟨by omega, fun e => ?_⟩
          have h3 := (hvs.own.lt a.block e).2
          omega) (fun e => (hz3 e).2)
        have hrow : ∀ b, (Value.slice Av j cv).ownBlock = some b → w.heap.size ≤ b := fun b e => (hvs.own.lt b e).1
        have hb6 : Below w.heap.size w w6 := (hbr3.trans (hal.mono hbr3.size)).trans (grown_below happ.grown (by simp; omega) hrow)
        have hm : (l.take (j + 1)).map (fun e => adEnc e.a) = (l.take j).map (fun e => adEnc e.a) ++ [adEnc x.a] := by rw [take_snoc HX.out, List.map_append]; rfl
        refine ⟨⟨j + 1, A6, c6, _, by omega, by simp, rfl, ?_, by rw [hm]; exact hpush, hb6⟩, by simp only [intOf]; omega⟩
        rw [take_snoc HX.out, wrErr_snoc, he, hq]
        rfl
      · have ho : adOut x.a = ([], adChk x.a) := by rw [adOut, if_neg hq]
        rw [ho] at hr3 hl3 hz3 ⊢
        have hwo : wrOut l = ([], adChk x.a) := by
          have e1 : wrErr l = adChk x.a := by
            have h := wrErr_app (l.drop (j + 1)) (l.take (j + 1))
            rw [List.take_append_drop, take_snoc HX.out, wrErr_snoc, he] at h
            simpa [hq] using h
          rw [wrOut, if_neg (by rw [HN.out]; omega), if_neg (by rw [HN.out]; omega), e1, if_pos hq]
        have d3 : ((adChk x.a : Int) == 0) = false := by simp; omega
        go_wp2_with fail
        rw [hwo]
        go_ret2
        exact WrsPost.no hbr3
    · have hjn : j = n := by omega
      subst hjn
      have htk : l.take j = l := List.take_of_length_le (by rw [HN.out]; exact Nat.le_refl _)
      rw [htk] at he hvs
      go_wp2_with fail
      go_loopw [49] (fun iv_ w4 => ∃ i : Nat, i ≤ j ∧ iv_ = .int .i64 i ∧ (List.range i).any (badAt l) = false ∧ VsM 27 w4 w.heap.size Av j cv (l.map fun e => adEnc e.a) vs ∧ Below w.heap.size w w4) (fun i _ => j - (intOf i).toNat)
      case atStart => exact ⟨0, by omega, rfl, rfl, hvs, hbr⟩
      case round =>
        obtain ⟨i, hi, rfl, hgood, hvs4, hbr4⟩ := hrel
        by_cases hlt : i < j
        · have hlt' : (i : Int) < (j : Int) := by omega
          obtain ⟨x, hx⟩ : ∃ x, l[i]? = some x := ⟨_, List.getElem?_eq_getElem (by rw [HN.out]; exact hlt)⟩
          obtain ⟨y, hy⟩ : ∃ y, l[0]? = some y := ⟨_, List.getElem?_eq_getElem (by rw [HN.out]; omega)⟩
          have hrb := HH.out.below (hbr4.mono hB)
          obtain ⟨b, o, e', hbb, hc, hok⟩ := RbA.get hrb hx
          cases e'
          obtain ⟨b', o', e', -, hd, -⟩ := RbA.get hrb hy
          cases e'
          have la := loadK_ae (e := x) hc
          have hbw : b < wr.heap.size := by have := hbr4.size; omega
          have bk := Bk.new wr 45 (adC x.a x.A x.n x.c)
          have hal : Below wr.heap.size wr (wr.alloc (.cells (adC x.a x.A x.n x.c) 45)) := (Below.refl _ wr).alloc (Nat.le_refl _) _
          obtain ⟨w5, hw5⟩ : ∃ w5, wr.alloc (.cells (adC x.a x.A x.n x.c) 45) = w5 := ⟨_, rfl⟩
          rw [hw5] at bk hal
          have vs5 := hvs4.below hal
          have hbr5 := hbr4.trans (hal.mono hbr4.size)
          have d0 : w5.cell? ⟨b, o, none⟩ = some (.int .u64 y.a.s.hi) := (hal.cell hbw).trans (hd 0 (by omega))
          have d1 : w5.cell? ⟨b, o + 1, none⟩ = some (.int .u64 y.a.s.lo) := (hal.cell hbw).trans (hd 1 (by omega))
          have HW5 := Lib.hid hw5
          obtain ⟨g, hg⟩ : ∃ g, wr.heap.size = g := ⟨_, rfl⟩
          rw [hg] at bk
          have HG := Lib.hid hg
          have k0 : w5.cell? ⟨g, 0, none⟩ = some (.int .u64 x.a.s.hi) := bk.cell 0
          have k1 : w5.cell? ⟨g, 1, none⟩ = some (.int .u64 x.a.s.lo) := bk.cell 1
          have k2 : w5.cell? ⟨g, 2, none⟩ = some (.int .u64 x.a.s.id) := bk.cell 2
          clear hw5 hg hc hd bk
          have hbad : badAt l i = (!(decide (x.a.s.hi = y.a.s.hi) && decide (x.a.s.lo = y.a.s.lo)) || (decide (0 < i) && (match l[i - 1]? with | some p => decide (x.a.s.id ≤ p.a.s.id) | none => false))) := by unfold badAt; rw [hy, hx]; rfl
          have HBAD := Lib.hid hbad
          have HX := Lib.hid hx
          have HRB := Lib.hid hrb
          have HAL := Lib.hid hal
          clear hbad hx hy hrb hvs4 hal
          by_cases htr : x.a.s.hi = y.a.s.hi ∧ x.a.s.lo = y.a.s.lo
          case neg =>
            have hbt : badAt l i = true := by rw [HBAD.out]; simp; omega
            have HBT := Lib.hid hbt
            clear hbt
            have hwo : wrOut l = ([], 2) := by
              have h1 : wrBad l = true := List.any_eq_true.2 ⟨i, List.mem_range.2 (by rw [HN.out]; exact hlt), HBT.out⟩
              rw [wrOut, if_neg (by rw [HN.out]; omega), if_neg (by rw [HN.out]; omega), if_neg (by rw [he]; simp), if_pos h1]
            have HWO := Lib.hid hwo
            clear hwo
            by_cases hhi : x.a.s.hi = y.a.s.hi
            · have hne : ¬ ((x.a.s.lo : Int) = (y.a.s.lo : Int)) := by omega
              rw [← hhi] at d0
              clear htr hhi
              go_upto_region 17 with fail
              rw [HW5.out, HG.out]
              go_region
              all_goals go_wp2_with fail
              all_goals rw [HWO.out]
              all_goals go_ret2
              all_goals exact WrsPost.no (below_drewN hbr5 _)
            · have hne : ¬ ((x.a.s.hi : Int) = (y.a.s.hi : Int)) := by omega
              clear htr hhi
              go_upto_region 17 with fail
              rw [HW5.out, HG.out]
              go_region
              all_goals go_wp2_with fail
              all_goals rw [HWO.out]
              all_goals go_ret2
              all_goals exact WrsPost.no (below_drewN hbr5 _)
          case pos =>
            obtain ⟨t1, t2⟩ := htr
            rw [← t1] at d0
            rw [← t2] at d1
            have hsn : (List.range (i + 1)).any (badAt l) = badAt l i := by rw [List.range_succ, List.any_append, hgood]; simp
            have HSN := Lib.hid hsn
            clear hsn hgood
            cases i with
            | zero =>
              have hbf : badAt l 0 = false := by rw [HBAD.out]; simp [t1, t2]
              have HBF := Lib.hid hbf
              clear t1 t2 hbf
              simp only [Nat.zero_mul, Nat.add_zero] at la
              go_upto_region 17 with fail
              rw [HW5.out, HG.out]
              go_region
              all_goals go_wp2_with fail
              all_goals exact ⟨⟨1, by omega, rfl, by rw [HSN.out, HBF.out], vs5.below (below_drewN (Below.refl _ _) _), below_drewN hbr5 _⟩, by simp only [intOf]; omega⟩
            | succ k =>
              obtain ⟨p, hp⟩ : ∃ p, l[k]? = some p := ⟨_, List.getElem?_eq_getElem (by rw [HN.out]; omega)⟩
              obtain ⟨b', o', e', -, hd, -⟩ := RbA.get HRB.out hp
              cases e'
              have d2 : w5.cell? ⟨b, o + k * 14 + 2, none⟩ = some (.int .u64 p.a.s.id) := (HAL.out.cell hbw).trans (hd 2 (by omega))
              have hbe : badAt l (k + 1) = decide (x.a.s.id ≤ p.a.s.id) := by rw [HBAD.out, Nat.add_sub_cancel, hp]; simp [t1, t2]
              have HBE := Lib.hid hbe
              clear t1 t2 hbe hp hd
              by_cases hle : x.a.s.id ≤ p.a.s.id
              · have hwo : wrOut l = ([], 2) := by
                  have h1 : wrBad l = true := List.any_eq_true.2 ⟨k + 1, List.mem_range.2 (by rw [HN.out]; exact hlt), by rw [HBE.out, decide_eq_true hle]⟩
                  rw [wrOut, if_neg (by rw [HN.out]; omega), if_neg (by rw [HN.out]; omega), if_neg (by rw [he]; simp), if_pos h1]
                have HWO := Lib.hid hwo
                have hd : decide ((x.a.s.id : Int) ≤ (p.a.s.id : Int)) = true := by simp; omega
                clear hwo
                go_upto_region 17 with fail
                rw [HW5.out, HG.out]
                go_region
                all_goals go_wp2_with fail
                all_goals rw [HWO.out]
                all_goals go_ret2
                all_goals exact WrsPost.no (below_drewN hbr5 _)
              · have hd : decide ((x.a.s.id : Int) ≤ (p.a.s.id : Int)) = false := by simp; omega
                have HLE := Lib.hid hle
                go_upto_region 17 with fail
                rw [HW5.out, HG.out]
                go_region
                all_goals go_wp2_with fail
                all_goals exact ⟨⟨k + 1 + 1, by omega, by simp, by rw [HSN.out, HBE.out, decide_eq_false HLE.out], vs5.below (below_drewN (Below.refl _ _) _), below_drewN hbr5 _⟩, by simp only [intOf]; omega⟩
        · have hij : i = j := by omega
          subst hij
          obtain ⟨u0, hu0⟩ : ∃ u0, u0 = wr := ⟨_, rfl⟩
          subst hu0
          have hmm := @run_makeMap Try.prog
          have hfine : ∀ e ∈ l, e.Fine := fun e h => AE.fine (wrErr_zero he e h)
          have hgw : wrBad l = false := by rw [wrBad, HN.out]; exact hgood
          have hne : l ≠ [] := fun e => by have := HN.out; rw [e] at this; simp at this; omega
          have hwo : wrOut l = if 1024 < (wrAll l).length then ([], 3) else (wrAll l, 0) := by
            rw [wrOut, if_neg (by rw [HN.out]; omega), if_neg (by rw [HN.out]; omega), if_neg (by rw [he]; simp), if_neg (by rw [hgw]; simp)]
          have HWO := Lib.hid hwo
          have HNE := Lib.hid hne
          have HF := Lib.hid hfine
          have HV := Lib.hid hvs4
          have HRB := Lib.hid (HH.out.below (hbr4.mono hB))
          have hB4 : B ≤ u0.heap.size := Nat.le_trans hB hbr4.size
          have HBR := Lib.hid hbr4
          obtain ⟨y, hy⟩ : ∃ y, l[0]? = some y := ⟨_, List.getElem?_eq_getElem (by rw [HN.out]; omega)⟩
          have HY := Lib.hid hy
          have pum : PuM u0 (((u0.alloc (.cells #[.slice none 0 0] 38)).alloc (.map #[] 0)).alloc (.cells #[.map (some (u0.heap.size + 1))] 55)) (u0.heap.size + 1 + 1) (u0.heap.size + 1) u0.heap.size (u0.heap.size + 1 + 1 + 1) none 0 0 [] [] := by
            refine ⟨?_, ?_, ((Bk.new u0 38 #[.slice none 0 0]).alloc _).alloc _, WsU.nil _ _ (by simp), (((Below.refl _ u0).alloc (Nat.le_refl _) _).alloc (by simp) _).alloc (by simp; omega) _, by omega, by omega, by omega⟩
            · simpa using Bk.new ((u0.alloc (.cells #[.slice none 0 0] 38)).alloc (.map #[] 0)) 55 #[.map (some (u0.heap.size + 1))]
            · simpa [keyStrs] using (MpS.new (u0.alloc (.cells #[.slice none 0 0] 38))).alloc (.cells #[.map (some (u0.heap.size + 1))] 55)
          obtain ⟨W0, hW0⟩ : ∃ W0, ((u0.alloc (.cells #[.slice none 0 0] 38)).alloc (.map #[] 0)).alloc (.cells #[.map (some (u0.heap.size + 1))] 55) = W0 := ⟨_, rfl⟩
          rw [hW0] at pum
          obtain ⟨gx, hgx⟩ : ∃ gx, u0.heap.size = gx := ⟨_, rfl⟩
          rw [hgx] at pum
          obtain ⟨lo, hlo⟩ : ∃ lo, gx + 1 + 1 + 1 = lo := ⟨_, rfl⟩
          rw [hlo] at pum
          have HW0 := Lib.hid hW0
          have HGX := Lib.hid hgx
          have HLO := Lib.hid hlo
          have hBW0 : B ≤ W0.heap.size := Nat.le_trans hB4 pum.bel.size
          have cbnd := scBounds (c := c) l W0 (HRB.out.below (pum.bel.mono hB4)) HN.out hBW0 (by omega) (fun e he => (hfine e he).tm)
          have CB := Lib.hid cbnd
          have HPU := Lib.hid pum
          clear hfine hgw hne hwo hvs4 hbr4 hy pum hW0 hgx hlo cbnd hgood he htk hlt hi
          go_upto_region 23 with fail
          rw [HW0.out, HGX.out]
          go_upto_region 24 with (go_at_call 43; refine CB.out.mono ?_; rintro e W1 ⟨rfl, hb1⟩)
          have hbf := bnds_fine HF.out
          have h0i : (0 : Int) < (i : Int) := by omega
          obtain ⟨f, hf⟩ : ∃ f : Nat, (bnds l).1 = (f : Int) := ⟨(bnds l).1.toNat, by omega⟩
          obtain ⟨t, ht⟩ : ∃ t : Nat, (bnds l).2 = (t : Int) := ⟨(bnds l).2.toNat, by omega⟩
          have hf1 : f < 9223372036854775808 := by omega
          have ht1 : t < 9223372036854775808 := by omega
          have hto0 : wrTo l 0 = putW [] (trKey y) (recEnc i f t) := by
            rw [wrTo, List.take_zero, List.foldl_nil, wrHead_eq HY.out, hf, ht, HN.out]
            rfl
          have HT0 := Lib.hid hto0
          rw [hf, ht]
          have pu1 := HPU.out.below hb1
          have pu1d : PuM u0 W1.drew (gx + 1 + 1) (gx + 1) gx lo none 0 0 [] [] := pu1.below (below_drewN (Below.refl _ _) 1)
          obtain ⟨b, o, e', hbB, hd, hyok⟩ := RbA.get HRB.out HY.out
          cases e'
          have CE : Hid (∀ W, Below u0.heap.size u0 W → W.cell? ⟨b, o, none⟩ = some (.int .u64 y.a.s.hi) ∧ W.cell? ⟨b, o + 1, none⟩ = some (.int .u64 y.a.s.lo)) := Lib.hid fun W h => ⟨(h.cell (show b < _ by omega)).trans (hd 0 (by omega)), (h.cell (show b < _ by omega)).trans (hd 1 (by omega))⟩
          obtain ⟨s0, s1⟩ := CE.out W1.drew pu1d.bel
          have huk : (trKey y).U64 := ⟨hyok.ok.1.1, hyok.ok.1.2.1, by simp [trKey], by simp [trKey]⟩
          have crec := (scRecord i f t W1.drew (by omega) hf1 ht1).mono (fun e w' => BytMade.ofN)
          have CR := Lib.hid crec
          have PU1 := Lib.hid pu1d
          have hlo1 := pu1d.ws.hlo
          clear crec hto0 hf ht hbf hd hyok pu1 pu1d hb1
          go_region_held3 (fun w' => w'.cell? ⟨b, o, none⟩ = some (.int .u64 y.a.s.hi) ∧ w'.cell? ⟨b, o + 1, none⟩ = some (.int .u64 y.a.s.lo)) (go_keep)
            (first
              | (go_at_call 44
                 refine CR.out.mono ?_
                 rintro e W2 ⟨A2, c2, rfl, hn2⟩
                 have pu2 := PU1.out.below hn2.bel
                 obtain ⟨q0, q1⟩ := CE.out _ pu2.bel
                 have cput := scPut (w0 := u0) (trKey y) (recEnc i f t) pu2 huk (by omega) hn2.rd rfl hn2.cap (fun _ a ha => ⟨.inr (Nat.le_trans hlo1 (hn2.new a ha)), fun e => by cases e⟩) hn2.nil
                 have CP := Lib.hid cput
                 clear cput)
              | (go_at_call 42
                 refine CP.out.mono ?_
                 rintro e W3 ⟨⟨v, rfl⟩, A3, j3, c3, hs3, pu3, hj3, -⟩
                 obtain ⟨v0, v1⟩ := CE.out _ pu3.bel)
              | fail)
          rw [← HT0.out] at pu3
          go_wp2_with fail
          go_loopw [104] (fun iv_ wp => ∃ (p : Nat) (A4 : Option Addr) (j4 c4 : Nat) (hs4 : List Value), p ≤ i ∧ iv_ = .int .i64 p ∧ PuM u0 wp (gx + 1 + 1) (gx + 1) gx lo A4 j4 c4 (wrTo l p) hs4) (fun i_ _ => i - (intOf i_).toNat)
          case atStart => exact ⟨0, A3, j3, c3, hs3, by omega, rfl, pu3⟩
          case round =>
            obtain ⟨p, A4, j4, c4, hs4, hp, rfl, pu4⟩ := hrel
            obtain ⟨wp, hwp⟩ : ∃ wp, wp = wr := ⟨_, rfl⟩
            subst hwp
            by_cases hlt : p < i
            · have hlt' : (p : Int) < (i : Int) := by omega
              obtain ⟨x, hx⟩ : ∃ x, l[p]? = some x := ⟨_, List.getElem?_eq_getElem (by rw [HN.out]; exact hlt)⟩
              obtain ⟨b', o', e', hbb, hc, hok⟩ := RbA.get (HRB.out.below (pu4.bel.mono hB4)) hx
              cases e'
              have hfx := HF.out x (List.mem_of_getElem? hx)
              have la := loadK_ae (e := x) hc
              have bk5 := Bk.new wp 45 (adC x.a x.A x.n x.c)
              have hal5 : Below wp.heap.size wp (wp.alloc (.cells (adC x.a x.A x.n x.c) 45)) := (Below.refl _ wp).alloc (Nat.le_refl _) _
              have hok5 := (hok.more (Nat.le_trans hB4 pu4.bel.size)).below hal5
              obtain ⟨W5, hW5⟩ : ∃ W5, wp.alloc (.cells (adC x.a x.A x.n x.c) 45) = W5 := ⟨_, rfl⟩
              rw [hW5] at bk5 hal5 hok5
              obtain ⟨g5, hg5⟩ : ∃ g5, wp.heap.size = g5 := ⟨_, rfl⟩
              rw [hg5] at bk5
              have la5 := loadK_adSp bk5
              have pu5 := pu4.below hal5
              have hown4 : ∀ k, (Value.slice A4 j4 c4).ownBlock = some k → k < W5.heap.size := fun k e => Nat.lt_of_lt_of_le (pu4.ws.own.lt k e).2 hal5.size
              have hlo5 := pu5.ws.hlo
              have ck := scKeys (c := x.c) (B := wp.heap.size) x.a.s W5 hok5.rd hok5.len hal5.size (by have := hfx.tm; unfold AE.Tm at this; omega) (by have := hfx.tm; unfold AE.Tm at this; omega) (by have := hfx.tags; have := hok5.len; omega)
              obtain ⟨ks, hks⟩ : ∃ ks, keysOf x.a.s = ks := ⟨_, rfl⟩
              have hkl : ks.length = 5 + x.n := by rw [← hks, keysOf_len, hok5.len]
              have hx16 : x.n ≤ 16 := by have := hfx.tags; have := hok5.len; omega
              have hku : ∀ k ∈ ks, k.U64 := by rw [← hks]; exact keysOf_u64 hok.ok.1 (by have := hfx.tm; unfold AE.Tm at this; omega) (by have := hfx.tm; unfold AE.Tm at this; omega)
              rw [hks] at ck
              have hto : wrTo l (p + 1) = wrKeys (adEnc x.a) (ks.take ks.length) 0 (wrTo l p) := by rw [wrTo_snoc hx, wrSpan, hks, List.take_of_length_le (Nat.le_refl _)]
              have hwl := wrTo_len HF.out p (by rw [HN.out]; omega)
              obtain ⟨K, hK⟩ : ∃ K, ks.length = K := ⟨_, rfl⟩
              rw [hK] at hto hkl
              have hk5 : 5 ≤ K ∧ K ≤ 21 := by omega
              have hvx : (l.map fun e => adEnc e.a)[p]? = some (adEnc x.a) := by rw [List.getElem?_map, hx]; rfl
              have CK := Lib.hid ck
              have HW5 := Lib.hid hW5
              have HG5 := Lib.hid hg5
              have HTO := Lib.hid hto
              have HK := Lib.hid hK
              have HKU := Lib.hid hku
              have HVX := Lib.hid hvx
              have HOW := Lib.hid hown4
              have HPU5 := Lib.hid pu5
              have hbig : ∀ q, (wrKeys (adEnc x.a) (ks.take q) 0 (wrTo l p)).length ≤ 10000 := fun q => by
                have h1 := wrKeys_len (adEnc x.a) (ks.take q) 0 (wrTo l p)
                have h2 : (ks.take q).length ≤ 21 := by rw [List.length_take, hK]; omega
                omega
              have HBG := Lib.hid hbig
              clear hW5 hg5 ck hks hto hK hku hvx hown4 hc hok hok5 hfx hal5 pu4 pu5 bk5 hbb hx hbig hwl hkl
              go_upto_region 28 with fail
              rw [HW5.out, HG5.out]
              go_upto_region 29 with (go_at_call 45; refine CK.out.mono ?_; rintro e W6 ⟨A6, c6, rfl, hr6, hb6, hk6⟩)
              rw [HK.out]
              have pu6 := HPU5.out.below hb6
              have hs56 := hb6.size
              obtain ⟨kz, hkz⟩ : ∃ k, ks[0]? = some k := ⟨_, List.getElem?_eq_getElem (by rw [HK.out]; omega)⟩
              obtain ⟨kb, ko, e', hkb, -⟩ := flatR_at kyL_length (by omega) hr6 hkz
              cases e'
              have hkb0 : W5.heap.size ≤ kb := hk6 _ rfl
              have hkown : (Value.slice A4 j4 c4).ownBlock ≠ some kb := fun e => by have := HOW.out kb e; omega
              have HR6 := Lib.hid hr6
              clear hr6 hk6 hkz hb6
              go_wp2_with fail
              go_loopw [113] (fun iv_ wq => ∃ (q : Nat) (A7 : Option Addr) (j7 c7 : Nat) (hs7 : List Value), q ≤ K ∧ iv_ = .int .i64 q ∧ PuM u0 wq (gx + 1 + 1) (gx + 1) gx lo A7 j7 c7 (wrKeys (adEnc x.a) (ks.take q) 0 (wrTo l p)) hs7 ∧ wq.heap[kb]? = W6.heap[kb]? ∧ W6.heap.size ≤ wq.heap.size ∧ (Value.slice A7 j7 c7).ownBlock ≠ some kb) (fun i_ _ => K - (intOf i_).toNat)
              case atStart => exact ⟨0, A4, j4, c4, hs4, by omega, rfl, by simpa [wrKeys] using pu6, rfl, Nat.le_refl _, hkown⟩
              case round =>
                obtain ⟨q, A7, j7, c7, hs7, hq, rfl, pu7, hkq, hsz7, hown7⟩ := hrel
                obtain ⟨wq, hwq⟩ : ∃ wq, wq = wr := ⟨_, rfl⟩
                subst hwq
                by_cases hlt2 : q < K
                · have hlt2' : (q : Int) < (K : Int) := by omega
                  obtain ⟨k, hk⟩ : ∃ k, ks[q]? = some k := ⟨_, List.getElem?_eq_getElem (by rw [HK.out]; exact hlt2)⟩
                  have hr7 : Rd wq W6.heap.size (some ⟨kb, ko, none⟩) (flatR kyL ks) := Rd.keepBlock HR6.out (fun a e => by cases e; exact hkq)
                  obtain ⟨b2, o2, e', -, hkc⟩ := flatR_at kyL_length (by omega) hr7 hk
                  cases e'
                  have lk := loadK_kyR hkc
                  have bk8 := Bk.new wq 26 (kyC k)
                  have hal8 : Below wq.heap.size wq (wq.alloc (.cells (kyC k) 26)) := (Below.refl _ wq).alloc (Nat.le_refl _) _
                  have hs8 : (wq.alloc (.cells (kyC k) 26)).heap.size = wq.heap.size + 1 := by simp
                  obtain ⟨W8, hW8⟩ : ∃ W8, wq.alloc (.cells (kyC k) 26) = W8 := ⟨_, rfl⟩
                  rw [hW8] at bk8 hal8 hs8
                  obtain ⟨g8, hg8⟩ : ∃ g8, wq.heap.size = g8 := ⟨_, rfl⟩
                  rw [hg8] at bk8 hs8
                  have lk8 := loadK_ky bk8
                  have lk8d := loadK_ky bk8.drew
                  have pu8 := pu7.below hal8
                  have hj7 : j7 ≤ 10000 := by have := HBG.out q; have := pu7.ws.len; omega
                  have hku := HKU.out k (List.mem_of_getElem? hk)
                  have HTK := Lib.hid (wrKeys_take (zs := adEnc x.a) (acc := wrTo l p) hk)
                  have hkb8 : W8.heap[kb]? = W6.heap[kb]? := (hal8.block kb (by omega)).trans hkq
                  have hne1 : kb ≠ gx + 1 ∧ kb ≠ gx := by have := HLO.out; omega
                  have HFR : Hid (∀ {W9 : World} {A10 : Option Addr} {j10 c10 : Nat}, PuF W8 W9 (gx + 1) gx (.slice A7 j7 c7) (.slice A10 j10 c10) → W9.heap[kb]? = W6.heap[kb]? ∧ W6.heap.size ≤ W9.heap.size ∧ (Value.slice A10 j10 c10).ownBlock ≠ some kb) := Lib.hid fun h => by
                    refine ⟨(h.2.1 kb (by omega) hne1.1 hne1.2 hown7).trans hkb8, by have := h.1; omega, fun e => ?_⟩
                    rcases h.2.2 with h1 | ⟨b, h1, h2⟩
                    · exact hown7 (h1.symm.trans e)
                    · rw [h1] at e
                      cases e
                      omega
                  have HW8 := Lib.hid hW8
                  have HG8 := Lib.hid hg8
                  have hs8' : g8 < W8.heap.size := by omega
                  by_cases hq0 : q = 0
                  · have hd0 : ((q : Int) == 0) = true := by simp; omega
                    have HQ0 := Lib.hid hq0
                    obtain ⟨vb, vo, A9, c9, e', hvb, hvc, hvl, hvr, hvz⟩ := HV.out.get HVX.out
                    cases e'
                    have pu8d : PuM u0 W8.drew (gx + 1 + 1) (gx + 1) gx lo A7 j7 c7 (wrKeys (adEnc x.a) (ks.take q) 0 (wrTo l p)) hs7 := pu8.below (below_drewN (Below.refl _ _) 1)
                    have CV : Hid (∀ W, Below u0.heap.size u0 W → W.cell? ⟨vb, vo + p, none⟩ = some (.slice A9 (adEnc x.a).length c9)) := Lib.hid fun W h => (h.cell hvb).trans hvc
                    have v8 := CV.out _ pu8d.bel
                    have hvblk : adEnc x.a ≠ [] → ∀ a, A9 = some a → (a.block < u0.heap.size ∨ lo ≤ a.block) ∧ (Value.slice A7 j7 c7).ownBlock ≠ some a.block := fun hz a ha => by
                      obtain ⟨b9, o9, e9, hb9, -⟩ := hvr (by simpa [bv] using hz)
                      rw [ha] at e9
                      cases e9
                      refine ⟨.inl hb9, fun e => ?_⟩
                      have h1 : lo ≤ b9 := (pu7.ws.own.lt _ e).1
                      have h2 := HLO.out
                      have h3 := HGX.out
                      omega
                    have cput := scPut (w0 := u0) k (adEnc x.a) pu8d hku hj7 ((Rd.below hvr pu8d.bel).more pu8d.bel.size) rfl hvl hvblk hvz
                    have CP := Lib.hid cput
                    have HLK : Hid (∀ {W9 : World} {A10 : Option Addr} {j10 c10 : Nat}, PuF W8.drew W9 (gx + 1) gx (.slice A7 j7 c7) (.slice A10 j10 c10) → Bk W9 g8 26 (kyC k)) := Lib.hid fun h => by
                      have h1 := HLO.out
                      have h2 : lo ≤ wq.heap.size := pu7.ws.hlo
                      exact (h.2.1 g8 (by show g8 < W8.heap.size; omega) (by omega) (by omega) (fun e => by have := (pu7.ws.own.lt g8 e).2; omega)).trans bk8
                    have hvi : vo + p = vo + p := rfl
                    clear hq0 hW8 hg8 pu7 bk8 hal8 hkc hr7 hkq hown7 hkb8 hku hk cput hne1 pu8 hvr hvblk hvc pu8d hvi
                    go_upto_region 32 with fail
                    rw [HW8.out, HG8.out]
                    go_region_held3 (fun w' => (loadK 26 ⟨g8, 0, none⟩).run Try.prog w' = .ok (kyV k) w' ∧ w'.cell? ⟨vb, vo + p, none⟩ = some (.slice A9 (adEnc x.a).length c9)) (go_keep)
                      (first
                        | (go_at_call 42
                           refine CP.out.mono ?_
                           rintro e W9 ⟨⟨v, rfl⟩, A10, j10, c10, hs10, pu10, hj10, hf10⟩
                           have v9 := CV.out _ pu10.bel
                           have lk9 := loadK_ky (HLK.out hf10))
                        | fail)
                    obtain ⟨f1', f2', f3'⟩ := HFR.out hf10
                    go_wp2_with fail
                    exact ⟨⟨q + 1, A10, j10, c10, hs10, by omega, by simp, by rw [HTK.out, if_pos HQ0.out]; exact pu10, f1', f2', f3'⟩, by simp only [intOf]; omega⟩
                  · have hd0 : ((q : Int) == 0) = false := by simp; omega
                    have HQ0 := Lib.hid hq0
                    have cput := scPut (w0 := u0) (Va := none) (nv := 0) (cv := 0) k [] pu8 hku hj7 Rd.nil rfl (Nat.le_refl _) (fun h => absurd rfl h) (fun _ => rfl)
                    have CP := Lib.hid cput
                    clear hq0 hW8 hg8 pu7 bk8 hal8 hkc hr7 hkq hown7 hkb8 hku hk cput lk8d hne1 pu8
                    go_upto_region 31 with fail
                    rw [HW8.out, HG8.out]
                    go_upto_region 34 with (go_at_call 42; refine CP.out.mono ?_; rintro e W9 ⟨⟨v, rfl⟩, A10, j10, c10, hs10, pu10, hj10, hf10⟩)
                    obtain ⟨f1', f2', f3'⟩ := HFR.out hf10
                    go_wp2_with fail
                    exact ⟨⟨q + 1, A10, j10, c10, hs10, by omega, by simp, by rw [HTK.out, if_neg HQ0.out]; exact pu10, f1', f2', f3'⟩, by simp only [intOf]; omega⟩
                · have hqK : q = K := by omega
                  subst hqK
                  clear hkq hsz7 hown7
                  go_wp2_with fail
                  exact ⟨⟨p + 1, A7, j7, c7, hs7, by omega, by simp, by rw [HTO.out]; exact pu7⟩, by simp only [intOf]; omega⟩
            · have hpi : p = i := by omega
              subst hpi
              have hall : wrTo l p = wrAll l := by have := wrTo_all HNE.out; rwa [HN.out] at this
              rw [hall] at pu4
              have hlen := pu4.ws.len
              have k4 := pu4.bx.cell 0
              have k4' : wp.cell? ⟨gx, 0, none⟩ = some (.slice A4 j4 c4) := k4
              have HP4 := Lib.hid pu4
              have HL4 := Lib.hid hlen
              have hwx : Below w.heap.size w wp := HBR.out.trans (pu4.bel.mono HBR.out.size)
              by_cases hbig : 1024 < j4
              · have hd : decide ((1024 : Int) < (j4 : Int)) = true := by simp; omega
                have HBIG := Lib.hid hbig
                clear hall pu4 hlen k4 hbig
                go_wp2_with fail
                rw [HWO.out, if_pos (by rw [HL4.out]; exact HBIG.out)]
                go_ret2
                exact WrsPost.no hwx
              · have hd : decide ((1024 : Int) < (j4 : Int)) = false := by simp; omega
                have HBIG := Lib.hid hbig
                clear hall pu4 hlen k4 hbig
                go_wp2_with fail
                rw [HWO.out, if_neg (by rw [HL4.out]; exact HBIG.out)]
                go_ret2
                exact ⟨A4, c4, by rw [HL4.out]; rfl, HP4.out.ws.rbw, hwx, by rw [HL4.out]; exact own_cap HP4.out.ws.own⟩
end Go.Proofs.Ytlamebbolioljaa

/- The document's answer's writers, onto a row whose block bears a mark: bootprintref01.Number, Piece, bootprintref17.eight. -/
namespace Go.Proofs.Ytlamebbolioljaa
open Go.RowKit

set_option maxHeartbeats 400000 in
theorem refNumberT {base A c n x} {xs : List Int} (w : World) (ho : ownsT w base 5 1 (.slice A n c) n (bv xs)) (hb : base ≤ w.heap.size) (hx : x < 18446744073709551616) (hn : n + 10 ≤ 140737488355328) :
    Calls Try.prog 69 #[.slice A n c, .int .u64 (x : Nat)] w (RetAppT base 5 1 w (.slice A n c) (n + (numEnc x).length) (bv (xs ++ numEnc x)) (· ≠ none)) := by
  have hl10 := numEnc_u64 hx
  go_enter Try.func69, Try.ntmps69
  go_wp2
  go_loopw [0, 1] (fun v y wr => ∃ (A' : Option Addr) (c' m y' : Nat) (ys : List Int), v = .slice A' m c' ∧ y = .int .u64 (y' : Nat) ∧ y' < 18446744073709551616 ∧ AppT base 5 1 w (.slice A n c) wr (.slice A' m c') m (bv ys) ∧ m + (numEnc y').length = n + (numEnc x).length ∧ ys ++ numEnc y' = xs ++ numEnc x) (fun _ y _ => (intOf y).toNat)
  case atStart => exact ⟨A, c, n, x, xs, rfl, rfl, hx, AppT.refl ho, rfl, rfl⟩
  case round =>
    obtain ⟨A', c', m, y, ys, rfl, rfl, hy, happ, hm, hys⟩ := hrel
    have HM := Lib.hid hm
    have HY := Lib.hid hys
    have hpos := numEnc_pos y
    have hmb : m + 1 ≤ 140737488355328 := by omega
    clear hm hys
    by_cases hlt : y < 128
    · have hlt' : ¬ ((128 : Int) ≤ (y : Int)) := by omega
      go_wp2_with (at_builtin; go_loud (refine wpList_appbT _ rfl (.tmp 16) (.tmp 19) rfl base _ m ys rfl (happ.own.alloc _) _ _ 1 1 [(y : Int)] rfl rfl (Rd.lit _ _ _) hmb (by have := happ.heap; simp; omega) ?_))
      intro A2 c2 w2 h2 hne
      go_wp2
      go_ret
      have e1 : m + 1 = n + (numEnc x).length := by rw [← HM.out, numEnc_lt hlt]; rfl
      have e2 : ys ++ [(y : Int)] = xs ++ numEnc x := by rw [← HY.out, numEnc_lt hlt]
      exact ⟨A2, c2, by rw [← e1]; rfl, by rw [← e1, ← e2]; exact (happ.alloc _).trans h2, hne⟩
    · have hge : ((128 : Int) ≤ (y : Int)) := by omega
      obtain ⟨z, hz⟩ : ∃ z : Int, z = ((y % 128 + 128 : Nat) : Int) := ⟨_, rfl⟩
      have hor : (y : Int) % 128 + 128 = z := by rw [hz]; omega
      have HZ := Lib.hid hz
      clear hz
      go_wp2_with (at_builtin; go_loud (refine wpList_appbT _ rfl (.tmp 7) (.tmp 12) rfl base _ m ys rfl (happ.own.alloc _) _ _ 1 1 [z] rfl rfl (Rd.lit _ _ _) hmb (by have := happ.heap; simp; omega) ?_))
      intro A2 c2 w2 h2 hne
      go_wp2
      go_roundw
      case rel =>
        exact ⟨A2, c2, m + 1, y / 128, ys ++ [z], rfl, by go_num, by omega, (happ.alloc _).trans h2, by rw [← HM.out, numEnc_ge (x := y) (by omega)]; simp; omega, by rw [← HY.out, numEnc_ge (x := y) (by omega), HZ.out]; simp⟩
      case measure => simp [intOf]; omega


set_option maxHeartbeats 400000 in
theorem refPieceT {base A c n A1 c1 B m} {xs zs : List Int} (w : World) (ho : ownsT w base 5 1 (.slice A n c) n (bv xs)) (hb : base ≤ w.heap.size) (hr : Rb w B A1 zs) (hB : B ≤ w.heap.size) (hs : zs = [] ∨ Sep A A1) (hn : n + 1048592 ≤ 140737488355328) (hz : zs.length ≤ 1048576) (hm : zs.length = m) :
    Calls Try.prog 85 #[.slice A n c, .slice A1 m c1] w fun e w' => ∃ A' c', e = .returned (.tuple #[.slice A' (n + (numEnc zs.length).length + zs.length) c', .int .i64 0]) ∧ AppT base 5 1 w (.slice A n c) w' (.slice A' (n + (numEnc zs.length).length + zs.length) c') (n + (numEnc zs.length).length + zs.length) (bv (xs ++ (numEnc zs.length ++ zs))) := by
  subst hm
  have hx : zs.length < 18446744073709551616 := by omega
  have hl := numEnc_u64 hx
  go_enter Try.func85, Try.ntmps85
  go_wp2_with fail
  refine (refNumberT w ho hb hx (by omega)).mono ?_
  rintro e w1 ⟨A', c', rfl, happ, hne⟩
  have hr1 : Rb w1 B A1 zs := by
    rcases hs with h0 | hs
    · rw [h0]; exact Rd.nil
    · exact hr.apart hB happ.grown hs
  go_wp2_with (at_builtin; go_loud (refine wpList_appbT _ rfl (.tmp 13) (.tmp 14) rfl base _ _ _ rfl happ.own B A1 zs.length c1 zs rfl rfl hr1 (by omega) (by have := happ.heap; omega) ?_))
  intro A2 c2 w2 h2 hne2
  go_wp2
  go_ret2
  exact ⟨A2, c2, rfl, happ.trans h2⟩


set_option maxHeartbeats 400000 in
theorem dEight {base A c n x} {xs : List Int} (w : World) (ho : ownsT w base 5 1 (.slice A n c) n (bv xs)) (hb : base ≤ w.heap.size) (hx : x < 18446744073709551616) (hn : n + 10 ≤ 140737488355328) :
    Calls Try.prog 84 #[.slice A n c, .int .u64 (x : Nat)] w (RetAppT base 5 1 w (.slice A n c) (n + 8) (bv (xs ++ ordEnc x)) (fun _ => True)) := by
  go_enter Try.func84, Try.ntmps84
  go_wp2
  go_loopw [0, 5] (fun v i wr => ∃ (A' : Option Addr) (c' m k : Nat) (j : Int) (ys : List Int), k ≤ 8 ∧ v = .slice A' m c' ∧ i = .int .i64 j ∧ (k : Int) - 1 ≤ j ∧ j ≤ (k : Int) - 1 ∧ AppT base 5 1 w (.slice A n c) wr (.slice A' m c') m (bv ys) ∧ m + k = n + 8 ∧ ys ++ ordTo x k = xs ++ ordEnc x) (fun _ i _ => (intOf i + 8).toNat)
  case atStart => exact ⟨A, c, n, 8, _, xs, by omega, rfl, rfl, by omega, by omega, AppT.refl ho, rfl, rfl⟩
  case round =>
    obtain ⟨A', c', m, k, j, ys, hk, rfl, rfl, hj1, hj2, happ, hm, hys⟩ := hrel
    have HM := Lib.hid hm
    have HY := Lib.hid hys
    have hmb : m + 1 ≤ 140737488355328 ∨ k = 0 := by omega
    clear hm hys
    cases k with
    | zero =>
      have hj : j < 0 := by omega
      go_wp2
      go_ret
      have e1 : m = n + 8 := HM.out
      have e2 : ys = xs ++ ordEnc x := by rw [← HY.out]; simp [ordTo]
      exact ⟨A', c', by rw [← e1]; rfl, by rw [← e1, ← e2]; exact happ, trivial⟩
    | succ k =>
      have hj : 0 ≤ j := by omega
      have hmb' : m + 1 ≤ 140737488355328 := by omega
      clear hmb
      obtain ⟨z, hz⟩ : ∃ z : Int, z = ((x / 256 ^ k % 256 : Nat) : Int) := ⟨_, rfl⟩
      have hval : (x : Int) / 2 ^ (8 * j).toNat % 256 = z := by rw [hz]; exact shr_byte k (by omega)
      have HZ := Lib.hid hz
      clear hz
      go_wp2_with (at_builtin; go_loud (refine wpList_appbT _ rfl (.tmp 10) (.tmp 17) rfl base _ m ys rfl (happ.own.alloc _) _ _ 1 1 [z] rfl rfl (Rd.lit _ _ _) hmb' (by have := happ.heap; simp; omega) ?_))
      intro A2 c2 w2 h2 hne
      go_wp2
      go_roundw
      case rel =>
        exact ⟨A2, c2, m + 1, k, j - 1, ys ++ [z], by omega, rfl, by go_num, by omega, by omega, (happ.alloc _).trans h2, by have := HM.out; omega, by rw [← HY.out, HZ.out]; simp [ordTo]⟩
      case measure => simp [intOf]; omega



/-- A text put behind bytes. -/
theorem pieceS {base A c n A' c' m ca : _} {w wr : World} {ys : List Int} {D : Array Value} {F : Nat × Nat} (s : ByteArray) (h : AppT base 5 1 w (.slice A n c) wr (.slice A' m c') m (bv ys)) (hD : ∀ (j : Nat) (u : Value), (bv (nums s))[j]? = some u → D[j]? = some u)
    (hs : s.size ≤ 128) (hm : m ≤ 1099511700000) (hbase : base ≤ w.heap.size) :
    Calls Try.prog 85 #[.slice A' m c', .slice (some ⟨wr.heap.size, 0, none⟩) s.size ca] (wr.alloc (.cells D 5 F)).drew fun e w' => ∃ A5 c5, e = .returned (.tuple #[.slice A5 (m + (pie s).length) c5, .int .i64 0]) ∧ AppT base 5 1 w (.slice A n c) w' (.slice A5 (m + (pie s).length) c5) (m + (pie s).length) (bv (ys ++ pie s)) := by
  have h2 := (h.alloc (.cells D 5 F)).drew
  have hr2 := Rd.drew (Rd.of_alloc (w := wr) (t := 5) (fr := F) hD)
  have hsep : Sep A' (some ⟨wr.heap.size, 0, none⟩) := fun a1 a2 q1 q2 e => by
    subst q1
    have h3 := (h.own.lt a1.block rfl).2
    have e' : a1.block = wr.heap.size := by rw [e, ← Option.some.inj q2]
    omega
  refine (refPieceT (m := s.size) _ h2.own (by have := h.heap; show _ ≤ (wr.alloc _).heap.size; simp; omega) hr2 (by show _ ≤ (wr.alloc _).heap.size; simp) (.inr hsep) (by omega) (by rw [nums_len]; omega) (nums_len s)).mono ?_
  rintro e w5 ⟨A5, c5, rfl, happ5⟩
  have h5 := h2.trans happ5
  have e2 : m + (numEnc (nums s).length).length + (nums s).length = m + (pie s).length := by
    rw [pie, List.length_append, nums_len]
    omega
  have e3 : numEnc (nums s).length ++ nums s = pie s := by rw [pie, nums_len]
  rw [e2, e3] at h5
  exact ⟨A5, c5, by rw [e2], h5⟩
end Go.Proofs.Ytlamebbolioljaa

/- The document's span value and record: bootprintref23.Span, Record. -/
namespace Go.Proofs.Ytlamebbolioljaa
open Go.RowKit
theorem loadSp_shutR (a : Addr) : loadVar 43 a = loadK 43 a := rfl
attribute [local go_sem ↓] loadSp_shutR

set_option maxHeartbeats 400000 in
theorem refOrderedT {base A c n x} {xs : List Int} (w : World) (ho : ownsT w base 5 1 (.slice A n c) n (bv xs)) (hb : base ≤ w.heap.size) (hx : x < 18446744073709551616) (hn : n + 10 ≤ 140737488355328) :
    Calls Try.prog 58 #[.slice A n c, .int .u64 (x : Nat)] w (RetAppT base 5 1 w (.slice A n c) (n + 8) (bv (xs ++ ordEnc x)) (fun _ => True)) := by
  go_enter Try.func58, Try.ntmps58
  go_wp2
  go_loopw [0, 5] (fun v i wr => ∃ (A' : Option Addr) (c' m k : Nat) (j : Int) (ys : List Int), k ≤ 8 ∧ v = .slice A' m c' ∧ i = .int .i64 j ∧ (k : Int) - 1 ≤ j ∧ j ≤ (k : Int) - 1 ∧ AppT base 5 1 w (.slice A n c) wr (.slice A' m c') m (bv ys) ∧ m + k = n + 8 ∧ ys ++ ordTo x k = xs ++ ordEnc x) (fun _ i _ => (intOf i + 8).toNat)
  case atStart => exact ⟨A, c, n, 8, _, xs, by omega, rfl, rfl, by omega, by omega, AppT.refl ho, rfl, rfl⟩
  case round =>
    obtain ⟨A', c', m, k, j, ys, hk, rfl, rfl, hj1, hj2, happ, hm, hys⟩ := hrel
    have HM := Lib.hid hm
    have HY := Lib.hid hys
    have hmb : m + 1 ≤ 140737488355328 ∨ k = 0 := by omega
    clear hm hys
    cases k with
    | zero =>
      have hj : j < 0 := by omega
      go_wp2
      go_ret
      have e1 : m = n + 8 := HM.out
      have e2 : ys = xs ++ ordEnc x := by rw [← HY.out]; simp [ordTo]
      exact ⟨A', c', by rw [← e1]; rfl, by rw [← e1, ← e2]; exact happ, trivial⟩
    | succ k =>
      have hj : 0 ≤ j := by omega
      have hmb' : m + 1 ≤ 140737488355328 := by omega
      clear hmb
      obtain ⟨z, hz⟩ : ∃ z : Int, z = ((x / 256 ^ k % 256 : Nat) : Int) := ⟨_, rfl⟩
      have hval : (x : Int) / 2 ^ (8 * j).toNat % 256 = z := by rw [hz]; exact shr_byte k (by omega)
      have HZ := Lib.hid hz
      clear hz
      go_wp2_with (at_builtin; go_loud (refine wpList_appbT _ rfl (.tmp 10) (.tmp 17) rfl base _ m ys rfl (happ.own.alloc _) _ _ 1 1 [z] rfl rfl (Rd.lit _ _ _) hmb' (by have := happ.heap; simp; omega) ?_))
      intro A2 c2 w2 h2 hne
      go_wp2
      go_roundw
      case rel =>
        exact ⟨A2, c2, m + 1, k, j - 1, ys ++ [z], by omega, rfl, by go_num, by omega, by omega, (happ.alloc _).trans h2, by have := HM.out; omega, by rw [← HY.out, HZ.out]; simp [ordTo]⟩
      case measure => simp [intOf]; omega

set_option maxRecDepth 100000 in
set_option maxHeartbeats 2000000 in
theorem rRecord (n f t : Nat) (w : World) (hn : n < 9223372036854775808) (hf : f < 9223372036854775808) (ht : t < 9223372036854775808) :
    Calls Try.prog 49 #[.agg #[.int .i64 n, .int .i64 f, .int .i64 t]] w (RetAppT w.heap.size 5 1 w (.slice none 0 0) (recEnc n f t).length (bv (recEnc n f t)) (fun _ => True)) := by
  have bk := Bk.new w 90 #[.int .i64 n, .int .i64 f, .int .i64 t]
  have hb0 : Below w.heap.size w (w.alloc (.cells #[.int .i64 n, .int .i64 f, .int .i64 t] 90)) := (Below.refl _ w).alloc (Nat.le_refl _) _
  obtain ⟨w1, hw1⟩ : ∃ w1, w.alloc (.cells #[.int .i64 n, .int .i64 f, .int .i64 t] 90) = w1 := ⟨_, rfl⟩
  rw [hw1] at bk hb0
  obtain ⟨g, hg⟩ : ∃ g, w.heap.size = g := ⟨_, rfl⟩
  rw [hg] at bk
  have HW := Lib.hid hw1
  have HG := Lib.hid hg
  have HB0 := Lib.hid hb0
  have hgl := bk.lt
  have k0 : w1.drew.cell? ⟨g, 0, none⟩ = some (.int .i64 n) := bk.drew.cell 0
  have k1 : w1.drew.cell? ⟨g, 1, none⟩ = some (.int .i64 f) := bk.drew.cell 1
  have k2 : w1.drew.cell? ⟨g, 2, none⟩ = some (.int .i64 t) := bk.drew.cell 2
  have r0 : IntKind.u64.wrap (n : Int) = (n : Int) := IntWalk.u64_in _ ⟨by omega, by omega⟩
  have r1 : IntKind.u64.wrap (f : Int) = (f : Int) := IntWalk.u64_in _ ⟨by omega, by omega⟩
  have r2 : IntKind.u64.wrap (t : Int) = (t : Int) := IntWalk.u64_in _ ⟨by omega, by omega⟩
  have l0 := numEnc_u64 (x := n) (by omega)
  have l1 := numEnc_u64 (x := f) (by omega)
  have l2 := numEnc_u64 (x := t) (by omega)
  have cells : ∀ W : World, Bk W g 90 #[.int .i64 n, .int .i64 f, .int .i64 t] → W.cell? ⟨g, 0, none⟩ = some (.int .i64 n) ∧ W.cell? ⟨g, 1, none⟩ = some (.int .i64 f) ∧ W.cell? ⟨g, 2, none⟩ = some (.int .i64 t) := fun W h => ⟨h.cell 0, h.cell 1, h.cell 2⟩
  have CE := Lib.hid cells
  obtain ⟨e1, he1⟩ : ∃ e1, numEnc n = e1 := ⟨_, rfl⟩
  obtain ⟨e2, he2⟩ : ∃ e2, e1 ++ numEnc f = e2 := ⟨_, rfl⟩
  obtain ⟨e3, he3⟩ : ∃ e3, e2 ++ numEnc t = e3 := ⟨_, rfl⟩
  have hrec : recEnc n f t = e3 := by rw [recEnc, he1, he2, he3]
  rw [hrec]
  have q1 : e1.length ≤ 10 := by rw [← he1]; exact l0
  have q2 : e2.length ≤ 20 := by rw [← he2, List.length_append]; omega
  have q2e : e2.length = e1.length + (numEnc f).length := by rw [← he2, List.length_append]
  have q3e : e3.length = e2.length + (numEnc t).length := by rw [← he3, List.length_append]
  have c1 := refNumberT (base := w.heap.size) (A := none) (c := 0) (n := 0) (x := n) (xs := []) w1.drew (ownsT.of (World.ownsRow_nil _ _ _ _)) hb0.size (by omega) (by omega)
  rw [List.nil_append, he1, Nat.zero_add] at c1
  have HC1 := Lib.hid c1
  have HQ2 := Lib.hid q2e
  have HQ3 := Lib.hid q3e
  have HE2 := Lib.hid he2
  have HE3 := Lib.hid he3
  have HWD : Hid (w.grownBy w1.drew none) := Lib.hid ⟨hb0.os, hb0.tape, hb0.output, hb0.size, fun k hk _ => hb0.block k hk⟩
  clear hw1 hg hb0 cells he1 he2 he3 hrec c1 q2e q3e
  go_enter Try.func49, Try.ntmps49
  go_upto_region 1 with fail
  rw [HW.out, HG.out]
  go_region_held3 (fun w' => w'.cell? ⟨g, 0, none⟩ = some (.int .i64 n) ∧ w'.cell? ⟨g, 1, none⟩ = some (.int .i64 f) ∧ w'.cell? ⟨g, 2, none⟩ = some (.int .i64 t)) (go_keep)
    (first
      | (go_at_call_of 69 (Value.int IntKind.u64 (n : Int))
         (refine HC1.out.mono ?_)
         rintro e wa ⟨A1, a1, rfl, h1, -⟩
         have bka := bk.drew.grown h1.grown (fun e => by cases e)
         obtain ⟨s0, s1, s2⟩ := CE.out wa bka
         have c2 := refNumberT (x := f) wa h1.own (Nat.le_trans HB0.out.size h1.heap) (by omega) (by omega)
         rw [HE2.out, ← HQ2.out] at c2
         have HC2 := Lib.hid c2
         clear c2)
      | (go_at_call_of 69 (Value.int IntKind.u64 (f : Int))
         refine HC2.out.mono ?_
         rintro e wb ⟨A2, a2, rfl, h2, -⟩
         have h12 := h1.trans h2
         have bkb := bk.drew.grown h12.grown (fun e => by cases e)
         obtain ⟨t0, t1, t2⟩ := CE.out wb bkb
         have c3 := refNumberT (x := t) wb h12.own (Nat.le_trans HB0.out.size h12.heap) (by omega) (by omega)
         rw [HE3.out, ← HQ3.out] at c3
         have HC3 := Lib.hid c3
         clear c3)
      | (go_at_call_of 69 (Value.int IntKind.u64 (t : Int))
         refine HC3.out.mono ?_
         rintro e wd ⟨A3, a3, rfl, h3, -⟩
         have h13 := h12.trans h3
         have bkd := bk.drew.grown h13.grown (fun e => by cases e)
         obtain ⟨v0, v1, v2⟩ := CE.out wd bkd)
      | fail)
  go_wp2
  go_ret
  exact ⟨A3, a3, rfl, ⟨h13.own, grown_row HWD.out h13.grown (.inl rfl), h13.block.imp id fun ⟨k, x, y⟩ => ⟨k, x, Nat.le_trans HB0.out.size y⟩⟩, trivial⟩
end Go.Proofs.Ytlamebbolioljaa

/- Numbers and strings stand in one of three ways. -/
namespace Go.Proofs.Ytlamebbolioljaa
open Go.RowKit

def cmpI (x y : Int) : Int := if x < y then -1 else if y < x then 1 else 0
theorem strEq_of' {s t : ByteArray} : (s.toList == t.toList) = decide (s = t) := by
  rw [ByteArray.toList_eq, ByteArray.toList_eq, Bool.eq_iff_iff, beq_iff_eq, decide_eq_true_iff]
  exact ⟨fun h => ByteArray.ext (Array.ext' h), fun h => by rw [h]⟩
def cmpS (s t : ByteArray) : Int := if strLt s t = true then -1 else if s = t then 0 else 1
theorem stw_ltb (s t : ByteArray) : strLt s t = ltb (nums s) (nums t) := by
  have := ltb_str (nums_byt s) (nums_byt t)
  rw [strOf_nums, strOf_nums] at this
  exact this
theorem stw_irr : ∀ (a : List Int), ltb a a = false
  | [] => rfl
  | x :: a => by rw [ltb, stw_irr a]; simp
theorem stw_tr : ∀ (a b c : List Int), ltb a b = true → ltb b c = true → ltb a c = true
  | a, [], _, h, _ => by simp [ltb] at h
  | _, y :: b, [], _, h => by simp [ltb] at h
  | [], _ :: _, _ :: _, _, _ => rfl
  | x :: a, y :: b, z :: c, h1, h2 => by
    simp only [ltb, Bool.or_eq_true, Bool.and_eq_true, decide_eq_true_eq] at h1 h2 ⊢
    rcases h1 with h1 | ⟨h1, h1'⟩
    · rcases h2 with h2 | ⟨h2, _⟩ <;> exact .inl (by omega)
    · rcases h2 with h2 | ⟨h2, h2'⟩
      · exact .inl (by omega)
      · exact .inr ⟨by omega, stw_tr a b c h1' h2'⟩
theorem stw_tri : ∀ (a b : List Int), ltb a b = false → ltb b a = false → a = b
  | [], [], _, _ => rfl
  | [], _ :: _, h, _ => by cases h
  | _ :: _, [], _, h => by cases h
  | x :: a, y :: b, h1, h2 => by
    simp only [ltb, Bool.or_eq_false_iff, Bool.and_eq_false_iff, decide_eq_false_iff_not] at h1 h2
    have hxy : x = y := by omega
    subst hxy
    rw [stw_tri a b (by rcases h1.2 with h | h; · exact absurd rfl h
                        · exact h) (by rcases h2.2 with h | h; · exact absurd rfl h
                                       · exact h)]
theorem strLt_ways (s t : ByteArray) : (strLt s t = true ∧ cmpS s t = -1) ∨ (strLt s t = false ∧ strLt t s = true ∧ cmpS s t = 1) ∨ (strLt s t = false ∧ strLt t s = false ∧ cmpS s t = 0) := by
  cases h1 : strLt s t with
  | true => exact .inl ⟨rfl, by rw [cmpS, if_pos h1]⟩
  | false =>
    cases h2 : strLt t s with
    | true =>
      refine .inr (.inl ⟨rfl, rfl, ?_⟩)
      have hne : s ≠ t := fun e => by subst e; rw [h1] at h2; cases h2
      rw [cmpS, h1, if_neg hne]
      simp
    | false =>
      refine .inr (.inr ⟨rfl, rfl, ?_⟩)
      rw [stw_ltb] at h1 h2
      have := nums_inj (stw_tri _ _ h1 h2)
      subst this
      rw [cmpS, stw_ltb, h1]
      simp
end Go.Proofs.Ytlamebbolioljaa

/- Spans, the document's answer: Check. -/
namespace Go.Proofs.Ytlamebbolioljaa
open Go.RowKit

set_option maxRecDepth 100000 in
set_option maxHeartbeats 8000000 in
/-- Check. -/
theorem rSpCheck {A : Option Addr} {c n B : Nat} (s : Sp) (w : World) (hf : RbT w B A s.tags) (hn : s.tags.length = n) (hB : B ≤ w.heap.size) (hnl : n ≤ 9223372036854775807) :
    Calls Try.prog 50 #[spV s A n c] w fun e w' => e = .returned (.int .i64 (spChk s)) ∧ Below w.heap.size w w' := by
  have hb0 : Below w.heap.size w (w.alloc (.cells (spC s A n c) 43)) := (Below.refl _ w).alloc (Nat.le_refl _) _
  have hf1 := Rd.alloc hf hB (.cells (spC s A n c) 43)
  have bk := Bk.new w 43 (spC s A n c)
  obtain ⟨w1, hw1⟩ : ∃ w1, w.alloc (.cells (spC s A n c) 43) = w1 := ⟨_, rfl⟩
  rw [hw1] at hb0 hf1 bk
  have HW := Lib.hid hw1
  obtain ⟨g, hg⟩ : ∃ g, w.heap.size = g := ⟨_, rfl⟩
  rw [hg] at bk
  have HG := Lib.hid hg
  obtain ⟨q, hq⟩ : ∃ q, spChk s = q := ⟨_, rfl⟩
  rw [hq]
  have HQ := Lib.hid hq
  have HN := Lib.hid hn
  have HB0 := Lib.hid hb0
  have HF1 := Lib.hid hf1
  have k0 : w1.cell? ⟨g, 0, none⟩ = some (.int .u64 s.hi) := bk.cell 0
  have k1 : w1.cell? ⟨g, 1, none⟩ = some (.int .u64 s.lo) := bk.cell 1
  have k2 : w1.cell? ⟨g, 2, none⟩ = some (.int .u64 s.id) := bk.cell 2
  have k4 : w1.cell? ⟨g, 4, none⟩ = some (.string s.service) := bk.cell 4
  have k5 : w1.cell? ⟨g, 5, none⟩ = some (.string s.name) := bk.cell 5
  have k6 : w1.cell? ⟨g, 6, none⟩ = some (.int .i64 s.kind) := bk.cell 6
  have k7 : w1.cell? ⟨g, 7, none⟩ = some (.int .i64 s.start) := bk.cell 7
  have k8 : w1.cell? ⟨g, 8, none⟩ = some (.int .i64 s.length) := bk.cell 8
  have k10 : w1.cell? ⟨g, 10, none⟩ = some (.slice A n c) := bk.cell 10
  obtain ⟨h0, hh0⟩ : ∃ h0, (decide (128 < s.service.size) || decide (128 < s.name.size) || decide (16 < n)) = h0 := ⟨_, rfl⟩
  have hlb : longB s = (h0 || s.tags.any tgLong) := by rw [longB, hn, hh0]
  have HLB := Lib.hid hlb
  have HH0 := Lib.hid hh0
  have HKK := Lib.hid (And.intro k0 (And.intro k1 (And.intro k2 (And.intro k4 (And.intro k5 (And.intro k6 (And.intro k7 k8)))))))
  have hsplit : (128 < s.service.size ∧ h0 = true) ∨ (s.service.size ≤ 128 ∧ 128 < s.name.size ∧ h0 = true) ∨ (s.service.size ≤ 128 ∧ s.name.size ≤ 128 ∧ 16 < n ∧ h0 = true) ∨ (s.service.size ≤ 128 ∧ s.name.size ≤ 128 ∧ n ≤ 16 ∧ h0 = false) := by
    rw [← hh0]
    by_cases a1 : 128 < s.service.size
    · exact .inl ⟨a1, by simp [a1]⟩
    by_cases a2 : 128 < s.name.size
    · exact .inr (.inl ⟨by omega, a2, by simp [a2]⟩)
    by_cases a3 : 16 < n
    · exact .inr (.inr (.inl ⟨by omega, by omega, a3, by simp [a3]⟩))
    · exact .inr (.inr (.inr ⟨by omega, by omega, by omega, by simp; omega⟩))
  clear hw1 hg hq hn hb0 hf1 hf bk hh0 hlb k0 k1 k2 k6 k7 k8
  rcases hsplit with ⟨a1, a0⟩ | ⟨a1, a2, a0⟩ | ⟨a1, a2, a3, a0⟩ | ⟨a1, a2, a3, a0⟩
  case inr.inr.inr =>
    subst a0
    have b1 : decide ((128 : Int) < (s.service.size : Int)) = false := by simp; omega
    have b2 : decide ((128 : Int) < (s.name.size : Int)) = false := by simp; omega
    have b3 : decide ((16 : Int) < (n : Int)) = false := by simp; omega
    go_enter Try.func50, Try.ntmps50
    go_upto_region 1 with fail
    rw [HW.out, HG.out]
    go_wp2
    go_loop [3, 4] (fun lv_ iv_ => ∃ j : Nat, j ≤ n ∧ iv_ = .int .i64 j ∧ lv_ = .bool ((s.tags.take j).any tgLong)) (fun _ i => n - (intOf i).toNat)
    case atStart => exact ⟨0, by omega, rfl, rfl⟩
    case round =>
      obtain ⟨j, hj, rfl, rfl⟩ := hrel
      obtain ⟨f, hf⟩ : ∃ f, (s.tags.take j).any tgLong = f := ⟨_, rfl⟩
      rw [hf]
      have HF := Lib.hid hf
      clear hf
      by_cases hlt : j < n
      · have hlt' : (j : Int) < (n : Int) := by omega
        obtain ⟨x, hx⟩ : ∃ x, s.tags[j]? = some x := ⟨_, List.getElem?_eq_getElem (by rw [HN.out]; exact hlt)⟩
        obtain ⟨b, o, rfl, hbb, c1, c2⟩ := RbT.get HF1.out hx
        have hst : (s.tags.take (j + 1)).any tgLong = (f || tgLong x) := by rw [take_snoc hx, List.any_append, HF.out]; simp
        clear hx
        cases f with
        | true =>
          have h9 : (s.tags.take (j + 1)).any tgLong = true := by rw [hst]; rfl
          have HST := Lib.hid h9
          clear hst h9
          go_wp2
          go_round
          case rel => exact ⟨j + 1, by omega, by go_num, by rw [HST.out]⟩
          case measure => simp [intOf]; omega
        | false =>
          by_cases e1 : 128 < x.key.size
          · have e1' : (128 : Int) < (x.key.size : Int) := by omega
            have h9 : (s.tags.take (j + 1)).any tgLong = true := by rw [hst, tgLong, decide_eq_true e1]; simp
            have HST := Lib.hid h9
            clear hst h9
            go_wp2
            go_round
            case rel => exact ⟨j + 1, by omega, by go_num, by rw [HST.out]⟩
            case measure => simp [intOf]; omega
          have e1' : decide ((128 : Int) < (x.key.size : Int)) = false := by simp; omega
          by_cases e2 : 128 < x.val.size
          · have e2' : (128 : Int) < (x.val.size : Int) := by omega
            have h9 : (s.tags.take (j + 1)).any tgLong = true := by rw [hst, tgLong, decide_eq_true e2]; simp
            have HST := Lib.hid h9
            clear hst h9
            go_wp2
            go_round
            case rel => exact ⟨j + 1, by omega, by go_num, by rw [HST.out]⟩
            case measure => simp [intOf]; omega
          have e2' : decide ((128 : Int) < (x.val.size : Int)) = false := by simp; omega
          have h9 : (s.tags.take (j + 1)).any tgLong = false := by rw [hst, tgLong, decide_eq_false e1, decide_eq_false e2]; rfl
          have HST := Lib.hid h9
          clear hst h9
          go_wp2
          go_round
          case rel => exact ⟨j + 1, by omega, by go_num, by rw [HST.out]⟩
          case measure => simp [intOf]; omega
      · have hlt' : decide ((j : Int) < (n : Int)) = false := by simp; omega
        obtain rfl : j = n := by omega
        have hf := HF.out
        rw [List.take_of_length_le (by rw [HN.out]; omega)] at hf
        have hlb : longB s = f := by rw [HLB.out, hf]; rfl
        clear HF
        cases f with
        | true =>
          have hq3 : q = 3 := by rw [← HQ.out, spChk, if_pos hlb]
          have HQ3 := Lib.hid hq3
          clear hlb hq3 hf
          go_wp2
          go_ret
          exact ⟨by rw [HQ3.out]; rfl, HB0.out⟩
        | false =>
          obtain ⟨k0, k1, k2, k4', k5', k6, k7, k8⟩ := HKK.out
          have hq2 : q = if headB s && tagsOk s.tags j then 0 else 2 := by rw [← HQ.out, spChk, if_neg (by rw [hlb]; simp), HN.out]
          have HQ2 := Lib.hid hq2
          have hw := headWays s a1 a2
          clear hlb hq2
          rcases hw with ⟨hh, hw⟩ | ⟨hh, a0, a1', a2', a3', a4, a5, a6, a7, a8, a9, a10, a11⟩
          · have hq2 : q = 2 := by rw [HQ2.out, hh]; rfl
            have HQ3 := Lib.hid hq2
            clear hh hq2 HQ2 hf
            rcases hw with ⟨a0, a0'⟩ | ⟨a0, a1' | ⟨a1', a2' | ⟨a2', a3' | ⟨a3', a4 | ⟨a4, a5 | ⟨a5, a6 | ⟨a6, a7 | ⟨a7, a8 | ⟨a8, a9 | ⟨a9, a10 | ⟨a10, a11⟩⟩⟩⟩⟩⟩⟩⟩⟩⟩⟩
            all_goals first
              | (have d1 : ((s.id : Int) == 0) = false := by rw [beq_eq_false_iff_ne]; omega)
              | (have d1 : ((s.id : Int) == 0) = true := by rw [a1']; rfl)
              | skip
            all_goals first
              | (have d2 : (s.service.toList == []) = false := by rw [str_empty, decide_eq_false_iff_not]; omega)
              | (have d2 : (s.service.toList == []) = true := by rw [str_empty, decide_eq_true_iff]; omega)
              | skip
            all_goals first
              | (have d3 : (s.name.toList == []) = false := by rw [str_empty, decide_eq_false_iff_not]; omega)
              | (have d3 : (s.name.toList == []) = true := by rw [str_empty, decide_eq_true_iff]; omega)
              | skip
            all_goals
              go_wp2_with (go_at_call 61; refine (rPlain _ _ (by omega)).mono ?_; rintro e w' ⟨rfl, hw⟩; rw [hw]; clear hw w'; first | rw [a4] | rw [a5])
              all_goals go_ret
              all_goals exact ⟨by rw [HQ3.out]; rfl, HB0.out⟩
          · have hq2 : q = if tagsOk s.tags j = true then 0 else 2 := by rw [HQ2.out, hh]; rfl
            have HQ3 := Lib.hid hq2
            have hlg : ∀ x ∈ s.tags, x.key.size ≤ 128 ∧ x.val.size ≤ 128 := fun x hx => by
              have := List.any_eq_false.1 hf x hx
              simp only [tgLong, Bool.or_eq_true, decide_eq_true_eq, not_or] at this
              omega
            have HLG := Lib.hid hlg
            have d1 : ((s.id : Int) == 0) = false := by rw [beq_eq_false_iff_ne]; omega
            have d2 : (s.service.toList == []) = false := by rw [str_empty, decide_eq_false_iff_not]; omega
            have d3 : (s.name.toList == []) = false := by rw [str_empty, decide_eq_false_iff_not]; omega
            clear hh hq2 HQ2 hlg hf
            go_wp2_with (go_at_call 61; refine (rPlain _ _ (by omega)).mono ?_; rintro e w' ⟨rfl, hw⟩; rw [hw]; clear hw w'; first | rw [a4] | rw [a5])
            all_goals
              clear k0 k1 k2 k4 k5 k6 k7 k8 k4' k5' d1 d2 d3 a0 a1' a2' a3' a4 a5 a6 a7 a8 a9 a10 a11
              go_loopw [5] (fun iv_ wr => ∃ i : Nat, i ≤ j ∧ iv_ = .int .i64 i ∧ tagsOk s.tags i = true ∧ ∃ d, wr = w1.drewN d) (fun i _ => j - (intOf i).toNat)
              case atStart => exact ⟨0, by omega, rfl, rfl, 0, rfl⟩
              case round =>
                obtain ⟨i, hi, rfl, hall, d, rfl⟩ := hrel
                have HA := Lib.hid hall
                clear hall
                have k10' : (w1.drewN d).cell? ⟨g, 10, none⟩ = some (.slice A j c) := k10
                by_cases hlt : i < j
                · have hlt' : (i : Int) < (j : Int) := by omega
                  obtain ⟨x, hx⟩ : ∃ x, s.tags[i]? = some x := ⟨_, List.getElem?_eq_getElem (by rw [HN.out]; exact hlt)⟩
                  obtain ⟨b, o, rfl, hbb, c1, c2⟩ := RbT.get HF1.out hx
                  have c1' : (w1.drewN d).cell? ⟨b, o + i * 2, none⟩ = some (.string x.key) := c1
                  have c2' : (w1.drewN d).cell? ⟨b, o + i * 2 + 1, none⟩ = some (.string x.val) := c2
                  go_wp2_with fail
                  have hlg := HLG.out x (List.mem_of_getElem? hx)
                  have hat := tagOk_at hx
                  have hsucc := tagsOk_succ s.tags i
                  rw [HA.out, hat] at hsucc
                  have hbad : tagOk s.tags i = false → q = 2 := fun h => by rw [HQ3.out, tagsOk_false h hlt]; rfl
                  rw [hat] at hbad
                  have en : nameB x.key = (decide (0 < x.key.size) && plainB x.key) := by simp [nameB, txtB, hlg.1]
                  have et : txtB x.val = plainB x.val := by simp [txtB, hlg.2]
                  rw [en, et] at hsucc hbad
                  clear hat en et
                  have hlg1 := hlg.1
                  have hlg2 := hlg.2
                  by_cases z0 : x.key.size = 0
                  · have d2 : (x.key.toList == []) = true := by rw [str_empty, decide_eq_true_iff]; omega
                    have hq2 := hbad (by rw [decide_eq_false (by omega)]; rfl)
                    have HQ4 := Lib.hid hq2
                    clear hq2 hbad hsucc hx hlg z0
                    go_quiet (fail)
                    go_wp2
                    go_ret
                    exact ⟨by rw [HQ4.out]; rfl, below_drewN (below_drewN HB0.out d) _⟩
                  have d2 : (x.key.toList == []) = false := by rw [str_empty, decide_eq_false_iff_not]; omega
                  rw [decide_eq_true (show 0 < x.key.size by omega), Bool.true_and] at hsucc hbad
                  obtain ⟨n1, hn1⟩ : ∃ n1, plainB x.key = n1 := ⟨_, rfl⟩
                  have cN : ∀ W', Calls Try.prog 61 #[.string x.key] W' fun e w' => e = .returned (.bool n1) ∧ w' = W' := by intro W'; have := rPlain W' x.key (by omega); rwa [hn1] at this
                  obtain ⟨n2, hn2⟩ : ∃ n2, plainB x.val = n2 := ⟨_, rfl⟩
                  have cT : ∀ W', Calls Try.prog 61 #[.string x.val] W' fun e w' => e = .returned (.bool n2) ∧ w' = W' := by intro W'; have := rPlain W' x.val (by omega); rwa [hn2] at this
                  rw [hn1, hn2] at hsucc hbad
                  clear hn1 hn2
                  cases n1 with
                  | false =>
                    have hq2 := hbad rfl
                    have HQ4 := Lib.hid hq2
                    clear hq2 hbad hsucc hx hlg z0
                    go_quiet ((go_at_call_of 61 (Value.string x.key); go_loud (exact (cN _).mono (fun _ _ h => ⟨h.1, _, h.2⟩))))
                    go_wp2
                    go_ret
                    exact ⟨by rw [HQ4.out]; rfl, below_drewN (below_drewN HB0.out d) _⟩
                  | true =>
                  cases n2 with
                  | false =>
                    have hq2 := hbad rfl
                    have HQ4 := Lib.hid hq2
                    clear hq2 hbad hsucc hx hlg z0
                    go_quiet (first
                      | (go_at_call_of 61 (Value.string x.key); go_loud (exact (cN _).mono (fun _ _ h => ⟨h.1, _, h.2⟩)))
                      | (go_at_call_of 61 (Value.string x.val); go_loud (exact (cT _).mono (fun _ _ h => ⟨h.1, _, h.2⟩))))
                    go_wp2
                    go_ret
                    exact ⟨by rw [HQ4.out]; rfl, below_drewN (below_drewN HB0.out d) _⟩
                  | true =>
                  cases i with
                  | zero =>
                    have HST := Lib.hid (show tagsOk s.tags (0 + 1) = true from hsucc)
                    have z1 : (0 : Int) < (j : Int) := by omega
                    have z2 : 0 < j := by omega
                    have c3 : w1.cell? ⟨b, o, none⟩ = some (.string x.key) := by simpa using c1
                    have c4 : w1.cell? ⟨b, o + 1, none⟩ = some (.string x.val) := by simpa using c2
                    have c3' : (w1.drewN d).cell? ⟨b, o, none⟩ = some (.string x.key) := c3
                    have c4' : (w1.drewN d).cell? ⟨b, o + 1, none⟩ = some (.string x.val) := c4
                    clear hbad hsucc hx hlg z0
                    go_quiet (first
                      | (go_at_call_of 61 (Value.string x.key); go_loud (exact (cN _).mono (fun _ _ h => ⟨h.1, _, h.2⟩)))
                      | (go_at_call_of 61 (Value.string x.val); go_loud (exact (cT _).mono (fun _ _ h => ⟨h.1, _, h.2⟩))))
                    go_wp2
                    go_roundw
                    case rel => exact ⟨0 + 1, by omega, by go_num, HST.out, _, rfl⟩
                    case measure => simp [intOf]; omega
                  | succ k =>
                    obtain ⟨u, hu⟩ : ∃ u, s.tags[k]? = some u := ⟨_, List.getElem?_eq_getElem (by rw [HN.out]; omega)⟩
                    obtain ⟨b', o', e', _, p1, _⟩ := RbT.get HF1.out hu
                    cases e'
                    have p1' : (w1.drewN d).cell? ⟨b, o + k * 2, none⟩ = some (.string u.key) := p1
                    have e1 : (k : Int) + 1 - 1 = (k : Int) := by omega
                    have e2 : ((k : Int) + 1 == 0) = false := by rw [beq_eq_false_iff_ne]; omega
                    have e3 : (0 : Int) < (k : Int) + 1 := by omega
                    have hkn : (k : Int) < (j : Int) := by omega
                    have hkn' : k < j := by omega
                    rw [show k + 1 - 1 = k from rfl, hu] at hsucc hbad
                    have hway := strLt_ways x.key u.key
                    clear hu hlg z0 hx
                    rcases hway with ⟨l1, -⟩ | ⟨l1, l2, -⟩ | ⟨l1, l2, -⟩
                    · have l2 : strLt u.key x.key = false := by
                        cases h2 : strLt u.key x.key with
                        | false => rfl
                        | true =>
                          rw [stw_ltb] at l1 h2
                          have := stw_tr _ _ _ l1 h2
                          rw [stw_irr] at this
                          cases this
                      have hq2 := hbad (by simp [l2])
                      have l3 : (x.key.toList == u.key.toList) = false := by
                        rw [strEq_of', decide_eq_false_iff_not]
                        intro e
                        rw [e] at l1
                        rw [e, l1] at l2
                        cases l2
                      unfold strLt at l1
                      clear l2
                      have HQ4 := Lib.hid hq2
                      clear hq2 hbad hsucc
                      go_quiet (first
                        | (go_at_call_of 61 (Value.string x.key); go_loud (exact (cN _).mono (fun _ _ h => ⟨h.1, _, h.2⟩)))
                        | (go_at_call_of 61 (Value.string x.val); go_loud (exact (cT _).mono (fun _ _ h => ⟨h.1, _, h.2⟩))))
                      go_wp2
                      go_ret
                      exact ⟨by rw [HQ4.out]; rfl, below_drewN (below_drewN HB0.out d) _⟩
                    · have l3 : (x.key.toList == u.key.toList) = false := by
                        rw [strEq_of', decide_eq_false_iff_not]
                        intro e
                        rw [e] at l1 l2
                        rw [l1] at l2
                        cases l2
                      have HST := Lib.hid (show tagsOk s.tags (k + 1 + 1) = true by rw [hsucc]; simp [l2])
                      unfold strLt at l1
                      clear hbad hsucc l2
                      go_quiet (first
                        | (go_at_call_of 61 (Value.string x.key); go_loud (exact (cN _).mono (fun _ _ h => ⟨h.1, _, h.2⟩)))
                        | (go_at_call_of 61 (Value.string x.val); go_loud (exact (cT _).mono (fun _ _ h => ⟨h.1, _, h.2⟩))))
                      go_wp2
                      go_roundw
                      case rel => exact ⟨k + 1 + 1, by omega, by go_num, HST.out, _, rfl⟩
                      case measure => simp [intOf]; omega
                    · have hq2 := hbad (by simp [l2])
                      have l3 : (x.key.toList == u.key.toList) = true := by
                        rw [strEq_of', decide_eq_true_iff]
                        rw [stw_ltb] at l1 l2
                        exact nums_inj (stw_tri _ _ l1 l2)
                      unfold strLt at l1
                      clear l2
                      have HQ4 := Lib.hid hq2
                      clear hq2 hbad hsucc
                      go_quiet (first
                        | (go_at_call_of 61 (Value.string x.key); go_loud (exact (cN _).mono (fun _ _ h => ⟨h.1, _, h.2⟩)))
                        | (go_at_call_of 61 (Value.string x.val); go_loud (exact (cT _).mono (fun _ _ h => ⟨h.1, _, h.2⟩))))
                      go_wp2
                      go_ret
                      exact ⟨by rw [HQ4.out]; rfl, below_drewN (below_drewN HB0.out d) _⟩
                · have hlt' : decide ((i : Int) < (j : Int)) = false := by simp; omega
                  obtain rfl : i = j := by omega
                  go_wp2
                  go_ret
                  exact ⟨by rw [HQ3.out, if_pos HA.out]; rfl, below_drewN HB0.out _⟩
  all_goals
    subst a0
    have hq3 : q = 3 := by rw [← HQ.out, spChk, if_pos (by rw [HLB.out]; rfl)]
    first
      | (have e1 : (128 : Int) < (s.service.size : Int) := by omega)
      | (have e1 : decide ((128 : Int) < (s.service.size : Int)) = false := by simp; omega)
    first
      | (have e2 : (128 : Int) < (s.name.size : Int) := by omega)
      | (have e2 : decide ((128 : Int) < (s.name.size : Int)) = false := by simp; omega)
      | skip
    first
      | (have e3 : (16 : Int) < (n : Int) := by omega)
      | skip
    have HQ3 := Lib.hid hq3
    clear hq3
    go_enter Try.func50, Try.ntmps50
    go_upto_region 1 with fail
    rw [HW.out, HG.out]
    go_wp2
    go_loop [3, 4] (fun lv_ iv_ => ∃ j : Nat, j ≤ n ∧ iv_ = .int .i64 j ∧ lv_ = .bool true) (fun _ i => n - (intOf i).toNat)
    case atStart => exact ⟨0, by omega, rfl, rfl⟩
    case round =>
      obtain ⟨j, hj, rfl, rfl⟩ := hrel
      by_cases hlt : j < n
      · have hlt' : (j : Int) < (n : Int) := by omega
        go_wp2
        go_round
        case rel => exact ⟨j + 1, by omega, by go_num, rfl⟩
        case measure => simp [intOf]; omega
      · have hlt' : decide ((j : Int) < (n : Int)) = false := by simp; omega
        go_wp2
        go_ret
        exact ⟨by rw [HQ3.out]; rfl, HB0.out⟩
end Go.Proofs.Ytlamebbolioljaa
