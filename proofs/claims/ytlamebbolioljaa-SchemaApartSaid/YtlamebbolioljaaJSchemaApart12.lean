/- Texts of the proof of SchemaApartSaid, joined: ApP Qb ScM ScT Open SpO SsO SchemaApart. -/
import Derived.Test.YtlamebbolioljaaJSchemaApart4
import Derived.Test.YtlamebbolioljaaJSchemaApart8
import Derived.Test.YtlamebbolioljaaJSchemaApart11
import Derived.Deep.QuietTactic
import Derived.BigQuiet
import Derived.Test.YtlamebbolioljaaJSchemaApart1
import Derived.Test.YtlamebbolioljaaJSchemaApart5
import Derived.Deep.Cut
import Derived.Deep.CutRange
import Derived.Deep.RegionHeld3
import Derived.Test.YtlamebbolioljaaRows
import Derived.ProofKit
import Derived.OpenShut
import Derived.ShutString
import Derived.ChangeOld
import Derived.Deep.Slices
import Derived.Lib.SmallJoins
import Derived.Test.YtlamebbolioljaaJSchemaApart9
import Derived.BigRegion
/- SchemaApart, plain: the keys of two traces. -/
namespace Go.Proofs.Ytlamebbolioljaa
open Go.RowKit

/-- A span that may be, in parts. -/
structure SpFine (s : Sp) : Prop where
  tr : s.hi ≠ 0 ∨ s.lo ≠ 0
  id : s.id ≠ 0
  sv : 0 < s.service.size
  svt : txtB s.service = true
  nm : 0 < s.name.size
  nmt : txtB s.name = true
  st0 : 0 ≤ s.start
  st1 : s.start ≤ 4611686018427387903
  ln0 : 0 ≤ s.length
  ln1 : s.length ≤ 4611686018427387903
  svl : s.service.size ≤ 128
  nml : s.name.size ≤ 128
  tgk : ∀ t ∈ s.tags, 0 < t.key.size ∧ txtB t.key = true ∧ txtB t.val = true ∧ t.key.size ≤ 128 ∧ t.val.size ≤ 128
theorem spFine_of {s : Sp} (h : spChk s = 0) : SpFine s := by
  unfold spChk at h
  by_cases hl : longB s = true
  · rw [if_pos hl] at h; omega
  rw [if_neg hl] at h
  cases h2 : (headB s && tagsOk s.tags s.tags.length) with
  | false => rw [h2] at h; simp at h
  | true =>
    rw [Bool.and_eq_true] at h2
    have hh := h2.1
    unfold headB nameB at hh
    simp only [Bool.and_eq_true, Bool.or_eq_true, decide_eq_true_eq] at hh
    obtain ⟨⟨⟨⟨⟨⟨⟨⟨⟨a1, a2⟩, a3, a3'⟩, a4, a4'⟩, a5⟩, a6⟩, a7⟩, a8⟩, a9⟩, a10⟩ := hh
    simp only [longB, Bool.or_eq_true, decide_eq_true_eq, not_or, Bool.not_eq_true] at hl
    obtain ⟨⟨⟨c1, c2⟩, c3⟩, c4⟩ := hl
    refine ⟨a1, a2, a3, a3', a4, a4', a7, a9, a8, by omega, by omega, by omega, fun t ht => ?_⟩
    obtain ⟨i, hi⟩ := List.getElem?_of_mem ht
    have hil := (List.getElem?_eq_some_iff.1 hi).1
    have h3 := List.all_eq_true.1 h2.2 i (List.mem_range.2 hil)
    unfold tagOk at h3
    rw [hi] at h3
    simp only [Bool.and_eq_true, nameB, decide_eq_true_eq] at h3
    have h4 := List.any_eq_false.1 c4 t ht
    simp only [tgLong, Bool.or_eq_true, decide_eq_true_eq, not_or] at h4
    exact ⟨h3.1.1.1, h3.1.1.2, h3.1.2, by omega, by omega⟩
theorem txtB_nil : txtB ⟨#[]⟩ = true := by decide +kernel
theorem kyChk_zero {k : Ky} {l : List Int} (h1 : k.service.size ≤ 128) (h2 : k.name.size ≤ 128) (h3 : k.value.size ≤ 128) (hp : partsOf k.kind = some l) (hf : kyFine k l = true) : kyChk k = 0 := by
  have e : kyLong k = false := by simp [kyLong]; omega
  unfold kyChk
  rw [e, hp]
  simp [hf]
theorem trc_ne {k : Ky} (h : k.hi ≠ 0 ∨ k.lo ≠ 0) : trc0 k = false := by
  unfold trc0 trcB
  simp
  omega
theorem p115 : partsOf 115 = some [0, 1, 2] := by decide
theorem p116 : partsOf 116 = some [0, 1] := by decide
theorem p105 : partsOf 105 = some [3, 6, 0, 1, 2] := by decide
theorem p111 : partsOf 111 = some [3, 4, 6, 0, 1, 2] := by decide
theorem p103 : partsOf 103 = some [3, 4, 5, 6, 0, 1, 2] := by decide
theorem p100 : partsOf 100 = some [3, 7, 6, 0, 1, 2] := by decide
theorem p110 : partsOf 110 = some [3, 4] := by decide
theorem e0 : (⟨#[]⟩ : ByteArray).size = 0 := rfl
theorem keys_chk {s : Sp} (h : SpFine s) : ∀ k ∈ keysOf s, kyChk k = 0 := by
  have hi0 : s.hi = 0 → ¬ s.lo = 0 := fun e => by
    rcases h.tr with q | q
    · exact absurd e q
    · exact q
  have hi2 : decide (s.hi = 0) = false ∨ decide (s.lo = 0) = false := by
    rcases h.tr with q | q
    · exact .inl (decide_eq_false q)
    · exact .inr (decide_eq_false q)
  intro k hk
  simp only [keysOf, keys5, List.mem_append, List.mem_cons, List.not_mem_nil, or_false, List.mem_map] at hk
  have g1 := h.sv
  have g2 := h.nm
  have g3 := h.id
  have g4 := h.st0
  have g5 := h.st1
  have g6 := h.ln0
  have g7 := h.ln1
  have g8 := h.svl
  have g9 := h.nml
  have n1 : ¬ s.service.size = 0 := by omega
  have n2 : ¬ s.name.size = 0 := by omega
  rcases hk with (rfl | rfl | rfl | rfl | rfl) | ⟨t, htm, rfl⟩
  · refine kyChk_zero (by show (0 : Nat) ≤ _; omega) (by show (0 : Nat) ≤ _; omega) (by show (0 : Nat) ≤ _; omega) p115 ?_
    simp [kyFine, hasI, trc0, trcB, txtB_nil, e0, g3]
    first | exact hi0 | exact h.tr | exact hi2 | exact ⟨hi2, g7⟩
  · refine kyChk_zero g8 (by show (0 : Nat) ≤ _; omega) (by show (0 : Nat) ≤ _; omega) p105 ?_
    simp [kyFine, hasI, kyW, trc0, trcB, h.svt, txtB_nil, e0, g3, n1, g4, g5]
    first | exact hi0 | exact h.tr | exact hi2 | exact ⟨hi2, g7⟩
  · refine kyChk_zero g8 g9 (by show (0 : Nat) ≤ _; omega) p111 ?_
    simp [kyFine, hasI, kyW, trc0, trcB, h.svt, h.nmt, txtB_nil, e0, g3, n1, n2, g4, g5]
    first | exact hi0 | exact h.tr | exact hi2 | exact ⟨hi2, g7⟩
  · refine kyChk_zero g8 (by show (0 : Nat) ≤ _; omega) (by show (0 : Nat) ≤ _; omega) p100 ?_
    simp [kyFine, hasI, kyW, trc0, trcB, h.svt, txtB_nil, e0, g3, n1, g4, g5]
    first | exact hi0 | exact h.tr | exact hi2 | exact ⟨hi2, g7⟩
  · refine kyChk_zero g8 g9 (by show (0 : Nat) ≤ _; omega) p110 ?_
    simp [kyFine, hasI, trc0, trcB, h.svt, h.nmt, txtB_nil, e0, n1, n2]
  · obtain ⟨q1, q2, q3, q4, q5⟩ := h.tgk t htm
    have n3 : ¬ t.key.size = 0 := by omega
    refine kyChk_zero g8 q4 q5 p103 ?_
    simp [kyFine, hasI, kyT, kyW, trc0, trcB, h.svt, q2, q3, e0, g3, n1, n3, g4, g5]
    first | exact hi0 | exact h.tr | exact hi2 | exact ⟨hi2, g7⟩
theorem trKey_chk {e : AE} (h : SpFine e.a.s) : kyChk (trKey e) = 0 := by
  refine kyChk_zero (by show (0 : Nat) ≤ _; omega) (by show (0 : Nat) ≤ _; omega) (by show (0 : Nat) ≤ _; omega) p116 ?_
  simp [kyFine, hasI, trKey, trc0, trcB, txtB_nil, e0]
  have hi2 : decide (e.a.s.hi = 0) = false ∨ decide (e.a.s.lo = 0) = false := by
    rcases h.tr with q | q
    · exact .inl (decide_eq_false q)
    · exact .inr (decide_eq_false q)
  have hi0 : e.a.s.hi = 0 → ¬ e.a.s.lo = 0 := fun q1 => by
    rcases h.tr with q | q
    · exact absurd q1 q
    · exact q
  first | exact hi0 | exact h.tr | exact hi2
theorem pack_of {k : Ky} (h : kyChk k = 0) : packOf k = (keyTo k (kyParts k), 0) := by
  unfold packOf firstOf
  rw [if_neg (by rw [h]; simp), if_neg (by omega), Int.toNat_natCast, List.take_length]
theorem key_one {a b : Ky} (ha : a.U64) (hb : b.U64) (ca : kyChk a = 0) (cb : kyChk b = 0) (h : (packOf a).1 = (packOf b).1) : a = b := by
  rw [pack_of ca, pack_of cb] at h
  have h1 := unp_pack ha ca
  have h2 := unp_pack hb cb
  simp only at h
  rw [h, h2] at h1
  exact (congrArg Prod.fst h1).symm
theorem key_head (k : Ky) (h : kyChk k = 0) : (packOf k).1[0]? = some (k.kind % 256) := by
  rw [pack_of h]
  rfl
/-- Where a key comes from: the trace's, or a span's. -/
def KeyOf (l : List AE) (k : Ky) : Prop := ∃ e ∈ l, k = trKey e ∨ k ∈ keysOf e.a.s
/-- What writes are: keys of spans, none twice. -/
structure WrsFine (l : List AE) (acc : List Wr) : Prop where
  src : ∀ x ∈ acc, ∃ k, KeyOf l k ∧ x.key = (packOf k).1
  one : (keyStrs acc).Nodup
theorem WrsFine.nil (l : List AE) : WrsFine l [] := ⟨fun x h => (by cases h), List.nodup_nil⟩
theorem WrsFine.put {l : List AE} {acc : List Wr} (h : WrsFine l acc) {k : Ky} (hk : KeyOf l k) (v : List Int) : WrsFine l (putW acc k v) := by
  unfold putW
  by_cases hs : hasS (keyStrs acc) (strOfNums (packOf k).1) = true
  · rw [if_pos hs]; exact h
  · rw [if_neg hs]
    refine ⟨fun x hx => ?_, ?_⟩
    · rcases List.mem_append.1 hx with hx | hx
      · exact h.src x hx
      · rw [List.mem_singleton] at hx
        subst hx
        exact ⟨k, hk, rfl⟩
    · have e : keyStrs (acc ++ [⟨1, (packOf k).1, v⟩]) = keyStrs acc ++ [strOfNums (packOf k).1] := by simp [keyStrs]
      rw [e, List.nodup_append]
      refine ⟨h.one, by simp, fun a ha b hb e2 => ?_⟩
      rw [List.mem_singleton] at hb
      subst hb e2
      exact hs (hasS_iff.2 ha)
theorem WrsFine.keys {l : List AE} (zs : List Int) : ∀ (ks : List Ky) (i : Nat) (acc : List Wr), WrsFine l acc → (∀ k ∈ ks, KeyOf l k) → WrsFine l (wrKeys zs ks i acc)
  | [], _, _, h, _ => h
  | k :: ks, i, acc, h, hk => WrsFine.keys zs ks (i + 1) _ (h.put (hk k (by simp)) _) fun q hq => hk q (by simp [hq])
theorem wrs_fold {l : List AE} : ∀ (m : List AE) (acc : List Wr), (∀ e ∈ m, e ∈ l) → WrsFine l acc → WrsFine l (m.foldl wrSpan acc)
  | [], _, _, h => h
  | e :: m, acc, hm, h => wrs_fold m _ (fun x hx => hm x (by simp [hx])) (WrsFine.keys _ _ _ _ h fun k hk => ⟨e, hm e (by simp), .inr hk⟩)
theorem wrAll_fine (l : List AE) : WrsFine l (wrAll l) := by
  cases l with
  | nil => exact WrsFine.nil _
  | cons e l => exact wrs_fold _ _ (fun x hx => hx) ((WrsFine.nil _).put ⟨e, by simp, .inl rfl⟩ _)
/-- A key of a trace's spans, but a name's, bears the trace. -/
theorem key_trace {l : List AE} {k : Ky} {hi lo : Nat} (hk : KeyOf l k) (ht : ∀ e ∈ l, e.a.s.hi = hi ∧ e.a.s.lo = lo) (hn : k.kind ≠ 110) : k.hi = hi ∧ k.lo = lo := by
  obtain ⟨e, he, hk⟩ := hk
  obtain ⟨t1, t2⟩ := ht e he
  rcases hk with rfl | hk
  · exact ⟨t1, t2⟩
  · simp only [keysOf, keys5, List.mem_append, List.mem_cons, List.not_mem_nil, or_false, List.mem_map] at hk
    rcases hk with (rfl | rfl | rfl | rfl | rfl) | ⟨t, htm, rfl⟩
    · exact ⟨t1, t2⟩
    · exact ⟨t1, t2⟩
    · exact ⟨t1, t2⟩
    · exact ⟨t1, t2⟩
    · exact absurd rfl hn
    · exact ⟨t1, t2⟩
theorem keyOf_fine {l : List AE} {k : Ky} (hk : KeyOf l k) (hc : ∀ e ∈ l, adChk e.a = 0) (hu : ∀ e ∈ l, e.a.s.U64) : kyChk k = 0 ∧ k.U64 := by
  obtain ⟨e, he, hk⟩ := hk
  have h1 := hc e he
  have hs : spChk e.a.s = 0 := by
    unfold adChk at h1
    by_cases h2 : spChk e.a.s ≠ 0
    · rw [if_pos h2] at h1; exact absurd h1 h2
    · exact Decidable.not_not.1 h2
  have hf := spFine_of hs
  have hu1 := hu e he
  rcases hk with rfl | hk
  · refine ⟨trKey_chk hf, hu1.1, hu1.2.1, ?_, ?_⟩
    · show (0 : Nat) < _; omega
    · show (0 : Nat) < _; omega
  · exact ⟨keys_chk hf k hk, keysOf_u64 hu1 hf.ln0 (by have := hf.ln1; omega) k hk⟩
/-- Keys of two traces that are the same are names' keys. -/
theorem keys_apart {x y : List AE} {h1 l1 h2 l2 : Nat} (hx : ∀ e ∈ x, e.a.s.hi = h1 ∧ e.a.s.lo = l1) (hy : ∀ e ∈ y, e.a.s.hi = h2 ∧ e.a.s.lo = l2) (cx : ∀ e ∈ x, adChk e.a = 0) (cy : ∀ e ∈ y, adChk e.a = 0) (ux : ∀ e ∈ x, e.a.s.U64) (uy : ∀ e ∈ y, e.a.s.U64)
    (hne : ¬ (h1 = h2 ∧ l1 = l2)) {a b : Wr} (ha : a ∈ wrAll x) (hb : b ∈ wrAll y) (hk : a.key = b.key) : b.key[0]? = some 110 := by
  obtain ⟨k1, s1, e1⟩ := (wrAll_fine x).src a ha
  obtain ⟨k2, s2, e2⟩ := (wrAll_fine y).src b hb
  obtain ⟨f1, u1⟩ := keyOf_fine s1 cx ux
  obtain ⟨f2, u2⟩ := keyOf_fine s2 cy uy
  have h3 := key_one u1 u2 f1 f2 (by rw [← e1, ← e2, hk])
  subst h3
  by_cases hn : k1.kind = 110
  · rw [e2, key_head _ f2, hn]
    rfl
  · obtain ⟨t1, t2⟩ := key_trace s1 hx hn
    obtain ⟨t3, t4⟩ := key_trace s2 hy hn
    exact absurd ⟨by rw [← t1, ← t3], by rw [← t2, ← t4]⟩ hne
/-- Each write's key has a first byte. -/
theorem key_some {y : List AE} (cy : ∀ e ∈ y, adChk e.a = 0) (uy : ∀ e ∈ y, e.a.s.U64) {b : Wr} (hb : b ∈ wrAll y) : 1 ≤ b.key.length := by
  obtain ⟨k2, s2, e2⟩ := (wrAll_fine y).src b hb
  have h1 := key_head _ (keyOf_fine s2 cy uy).1
  rw [← e2] at h1
  have := (List.getElem?_eq_some_iff.1 h1).1
  omega
theorem wrErr_all : ∀ {l : List AE}, (∀ e ∈ l, adChk e.a = 0) → wrErr l = 0
  | [], _ => rfl
  | e :: l, h => by
    rw [wrErr, if_neg (by rw [h e (by simp)]; simp)]
    exact wrErr_all fun x hx => h x (by simp [hx])
/-- Writes of what Adjust answered: they are, or are too many. -/
theorem wrOut_adj {l : List Sp} {x : List AE} (h : AdjFine l (x.map (·.a))) : wrOut x = (wrAll x, 0) ∨ wrOut x = ([], 3) := by
  have hne : x ≠ [] := fun e => h.ne (by rw [e]; rfl)
  have hb : wrBad x = false := by
    unfold wrBad
    rw [List.any_eq_false]
    intro i hi
    have hil := List.mem_range.1 hi
    obtain ⟨e, he⟩ : ∃ e, x[i]? = some e := ⟨_, List.getElem?_eq_getElem hil⟩
    obtain ⟨z, hz⟩ : ∃ z, x[0]? = some z := ⟨_, List.getElem?_eq_getElem (by omega)⟩
    have ht := h.tr e.a (List.mem_map.2 ⟨e, List.mem_of_getElem? he, rfl⟩) z.a (List.mem_map.2 ⟨z, List.mem_of_getElem? hz, rfl⟩)
    unfold badAt
    rw [hz, he]
    simp only [ht.1, ht.2, decide_true, Bool.and_self, Bool.not_true, Bool.false_or]
    by_cases h0 : 0 < i
    · obtain ⟨p, hp⟩ : ∃ p, x[i - 1]? = some p := ⟨_, List.getElem?_eq_getElem (by omega)⟩
      have hr := h.ris (i - 1) p.a e.a (by simp [hp]) (by rw [show i - 1 + 1 = i from by omega]; simp [he])
      rw [hp]
      simp
      omega
    · simp [h0]
  unfold wrOut
  rw [if_neg (fun e => hne (List.eq_nil_of_length_eq_zero e))]
  by_cases h1 : 32 < x.length
  · rw [if_pos h1]; exact .inr rfl
  rw [if_neg h1, if_neg (by rw [wrErr_all (fun e he => h.chk e.a (List.mem_map.2 ⟨e, he, rfl⟩))]; simp), if_neg (by rw [hb]; simp)]
  by_cases h2 : 1024 < (wrAll x).length
  · rw [if_pos h2]; exact .inr rfl
  · rw [if_neg h2]; exact .inl rfl
end Go.Proofs.Ytlamebbolioljaa

/- A region that draws its order, whose callees make memory, walked once. -/
namespace Go.Proofs.Ytlamebbolioljaa
open Go.RowKit

/-- A world behind W, what lay there as it was. -/
structure BelowBy (W : World) where
  w : World
  h : Below W.heap.size W w
instance (W : World) : Inhabited (BelowBy W) := ⟨⟨W, Below.refl _ _⟩⟩
theorem wp_region_quiet_below {P : Program} {id : Nat} {Q : Exit → Act → World → Prop} {a : Act} {w : World} {l : List Oper} (hm : P.follows .mixedOrders = true) (hB : Region.lexB .any l.toArray = true)
    (h : wpQuiet P l.toArray (fun w' => ∃ p : BelowBy w, w' = p.w) (fun a' => ∀ w', (∃ p : BelowBy w, w' = p.w) → Q .normal a' w') l a) : (Code.region id l.toArray true).wp P Q a w :=
  wp_region_quiet (C := fun w' => ∃ p : BelowBy w, w' = p.w) hm hB ⟨⟨w.drew, below_drewN (Below.refl _ w) 1⟩, rfl⟩ (by simpa using h)
theorem calls_belowBy {P : Program} {f : FuncId} {args : Array Value} {W : World} {v : Value} (p : BelowBy W) (h : Calls P f args p.w fun e w' => e = .returned v ∧ Below p.w.heap.size p.w w') :
    Calls P f args p.w fun e w'' => e = .returned v ∧ ∃ p' : BelowBy W, w'' = p'.w := h.mono fun _ w' ⟨he, hb⟩ => ⟨he, ⟨w', p.h.trans (hb.mono p.h.size)⟩, rfl⟩
end Go.Proofs.Ytlamebbolioljaa

/- Keys: the law's own words, and the examples that each statement of layer 23 asks first. -/
namespace Go.Proofs.Ytlamebbolioljaa
open Go.RowKit
theorem loadKy_shut5 (a : Addr) : loadVar 26 a = loadK 26 a := rfl
attribute [local go_sem ↓] loadKy_shut5

theorem scUnpack {A0 : Option Addr} {c0 B n : Nat} {zs : List Int} (w : World) (ha : Rb w B A0 zs) (hB : B ≤ w.heap.size) (hz : Byt zs) (hl : n ≤ 1000000) (hn : zs.length = n) (hc : n ≤ c0) :
    Calls Try.prog 12 #[.slice A0 n c0] w (UnPost w (unpOf zs)) := by
  cases zs with
  | nil => subst hn; exact scUnpack0 w
  | cons c rest => exact scUnpack1 w ha hB hz hl hn hc
set_option maxRecDepth 100000 in
theorem eqlKy (k : Ky) (W : World) : (binOp .eql 26 (kyV k) (kyV k)).run Try.prog W = .ok (.bool true) W := by
  go_simp
def smallK (k : Ky) : Bool := decide (k.service.size ≤ 2000) && decide (k.name.size ≤ 2000) && decide (k.value.size ≤ 2000)
set_option maxRecDepth 100000 in
theorem lawSmallK (k : Ky) (w : World) : Calls Try.prog 9 #[kyV k] w fun e w' => e = .returned (.bool (smallK k)) ∧ Below w.heap.size w w' := by
  have hcs : (k.service.size ≤ 2000 ∧ k.name.size ≤ 2000 ∧ k.value.size ≤ 2000 ∧ smallK k = true) ∨ (k.service.size ≤ 2000 ∧ k.name.size ≤ 2000 ∧ 2000 < k.value.size ∧ smallK k = false) ∨ (k.service.size ≤ 2000 ∧ 2000 < k.name.size ∧ smallK k = false) ∨ (2000 < k.service.size ∧ smallK k = false) := by
    unfold smallK
    by_cases a1 : k.service.size ≤ 2000
    · by_cases a2 : k.name.size ≤ 2000
      · by_cases a3 : k.value.size ≤ 2000
        · exact .inl ⟨a1, a2, a3, by simp [a1, a2, a3]⟩
        · exact .inr (.inl ⟨a1, a2, by omega, by simp [a3]⟩)
      · exact .inr (.inr (.inl ⟨a1, by omega, by simp [a2]⟩))
    · exact .inr (.inr (.inr ⟨by omega, by simp [a1]⟩))
  rcases hcs with ⟨a1, a2, a3, a0⟩ | ⟨a1, a2, a3, a0⟩ | ⟨a1, a2, a0⟩ | ⟨a1, a0⟩
  all_goals
    rw [a0]
    clear a0
    first
      | (have d1 : decide ((k.service.size : Int) ≤ 2000) = true := by simp; omega)
      | (have d1 : decide ((k.service.size : Int) ≤ 2000) = false := by simp; omega)
    first
      | (have d2 : decide ((k.name.size : Int) ≤ 2000) = true := by simp; omega)
      | (have d2 : decide ((k.name.size : Int) ≤ 2000) = false := by simp; omega)
      | skip
    first
      | (have d3 : decide ((k.value.size : Int) ≤ 2000) = true := by simp; omega)
      | (have d3 : decide ((k.value.size : Int) ≤ 2000) = false := by simp; omega)
      | skip
    go_enter Try.func9, Try.ntmps9
    go_wp2
    go_ret
    exact ⟨rfl, (Below.refl _ w).alloc (Nat.le_refl _) _⟩

def nameK : Ky := ⟨110, 0, 0, 0, ⟨#[97]⟩, ⟨#[98]⟩, ⟨#[]⟩, 0, 0⟩
theorem nameK_pack : packOf nameK = ([110, 97, 0, 1, 98, 0, 1], 0) := by decide +kernel
theorem nameK_unp : unpOf [110, 97, 0, 1, 98, 0, 1] = (nameK, 0) := by decide +kernel
theorem badK_unp : unpOf [120] = (zeroKy, 4) := by decide +kernel
set_option maxRecDepth 100000 in
set_option maxHeartbeats 4000000 in
theorem scLives (w : World) : Calls Try.prog 8 #[] w fun e w' => e = .returned (.bool true) ∧ Below w.heap.size w w' := by
  have bk := Bk.new w 26 (kyC nameK)
  have hb0 : Below w.heap.size w (w.alloc (.cells (kyC nameK) 26)) := (Below.refl _ w).alloc (Nat.le_refl _) _
  obtain ⟨w1, hw1⟩ : ∃ w1, w.alloc (.cells #[.int .i64 110, .int .u64 0, .int .u64 0, .int .u64 0, .string ⟨#[97]⟩, .string ⟨#[98]⟩, .string ⟨#[]⟩, .int .u64 0, .int .i64 0] 26) = w1 := ⟨_, rfl⟩
  have hw1' : w.alloc (.cells (kyC nameK) 26) = w1 := hw1
  rw [hw1'] at bk hb0
  obtain ⟨g, hg⟩ : ∃ g, w.heap.size = g := ⟨_, rfl⟩
  rw [hg] at bk
  have HW := Lib.hid hw1
  have HG := Lib.hid hg
  have la := loadK_ky bk
  have cp := scPackK nameK w1 (by unfold Ky.U64 nameK; simp)
  rw [nameK_pack] at cp
  have CP := Lib.hid cp
  clear hw1 hw1' hg cp
  go_enter Try.func8, Try.ntmps8
  go_upto_region 2 with fail
  rw [HW.out, HG.out]
  go_upto_region 3 with (go_at_call 10; refine CP.out.mono ?_; rintro e w2 ⟨A, c, rfl, hr, hb2, hc, -, -⟩)
  have bk2 := bk.bS hb2
  have hbl := hb0.trans (hb2.mono hb0.size)
  have cu := scUnpack (c0 := c) (n := 7) w2 hr (Nat.le_refl _) (by intro x hx; simp at hx; omega) (by omega) rfl hc
  rw [nameK_unp] at cu
  have CU := Lib.hid cu
  clear la cu hb2
  go_wp2_with fail
  refine CU.out.mono ?_
  rintro e w3 ⟨rfl, hb3⟩
  have hr3 : Rb w3 w3.heap.size A [110, 97, 0, 1, 98, 0, 1] := hr.belowS hb3
  have bk3 := bk2.bS hb3
  have hbl3 := hbl.trans (hb3.mono hbl.size)
  clear hr bk2 hb3 hbl
  go_wp2_with fail
  refine (scUnpack (zs := [120]) (B := w3.heap.size + 1 + 1) (n := 1) (c0 := 1) _ (Rd.lit' (by simp)) (by simp) (by intro x hx; simp at hx; omega) (by omega) rfl (by omega)).mono ?_
  rw [badK_unp]
  rintro e w5 ⟨rfl, hb5⟩
  have hbA : Below w3.heap.size w3 ((w3.alloc (.cells (kyC nameK) 26)).alloc (.cells (bv [120]).toArray 5)) := ((Below.refl _ w3).alloc (Nat.le_refl _) _).alloc (by simp) _
  have hb35 : Below w3.heap.size w3 w5 := hbA.trans (hb5.mono hbA.size)
  have bk4 : Bk w5 w3.heap.size 26 (kyC nameK) := ((Bk.new w3 _ (kyC nameK)).alloc _).bS hb5
  have hb6 : Below w3.heap.size w3 (w5.alloc (.cells (kyC zeroKy) 26)) := hb35.alloc hb35.size _
  have bk46 := bk4.alloc (.cells (kyC zeroKy) 26)
  clear hb5 hbA hb35 bk4
  go_upto_region 5 with fail
  obtain ⟨w6, h6⟩ : ∃ w6, w5.alloc (.cells (kyC zeroKy) 26) = w6 := ⟨_, rfl⟩
  rw [h6] at hb6 bk46 ⊢
  have bk6 := bk3.bS hb6
  have hr6 : Rb w6 w6.heap.size A [110, 97, 0, 1, 98, 0, 1] := hr3.belowS hb6
  have la1 := loadK_ky bk6
  have la4 := loadK_ky bk46
  have he := eqlKy nameK w6
  have hcv : (convert 27 9 (.slice A 7 c)).run Try.prog w6 = .ok (.string ⟨#[110, 97, 0, 1, 98, 0, 1]⟩) w6 := by
    have h := hr6.str (P := Try.prog) Try.underlying27 Try.underlying5 Try.underlying9 c
    rwa [show strOfNums [110, 97, 0, 1, 98, 0, 1] = ⟨#[110, 97, 0, 1, 98, 0, 1]⟩ from by decide +kernel] at h
  clear h6 bk3 bk46
  go_wp2
  go_ret
  exact ⟨rfl, hbl3.trans (hb6.mono hbl3.size)⟩
end Go.Proofs.Ytlamebbolioljaa

/- schema.Writes: the walk (its answer: wrOut). -/
namespace Go.Proofs.Ytlamebbolioljaa
open Go.RowKit
theorem loadAd_shutT (a : Addr) : loadVar 45 a = loadK 45 a := rfl
attribute [local go_sem ↓] loadAd_shutT
theorem loadSp_shutT (a : Addr) : loadVar 43 a = loadK 43 a := rfl
attribute [local go_sem ↓] loadSp_shutT
theorem loadKy_shutT (a : Addr) : loadVar 26 a = loadK 26 a := rfl
attribute [local go_sem ↓] loadKy_shutT
theorem wrErr_snoc (x : AE) : ∀ (l : List AE), wrErr (l ++ [x]) = if wrErr l ≠ 0 then wrErr l else adChk x.a
  | [] => by
    by_cases h : adChk x.a = 0 <;> simp [wrErr, h]
  | y :: l => by
    have ih := wrErr_snoc x l
    by_cases h : adChk y.a = 0
    · simp [wrErr, h, ih]
    · simp [wrErr, h]
theorem wrErr_app (b : List AE) : ∀ (a : List AE), wrErr (a ++ b) = if wrErr a ≠ 0 then wrErr a else wrErr b
  | [] => rfl
  | y :: l => by
    have ih := wrErr_app b l
    by_cases h : adChk y.a = 0
    · simp [wrErr, h, ih]
    · simp [wrErr, h]
set_option maxRecDepth 100000 in
set_option maxHeartbeats 4000000 in
theorem scWrites {A : Option Addr} {n c B : Nat} (l : List AE) (w : World) (h : RbA w B A l) (hn : l.length = n) (hB : B ≤ w.heap.size) (h0 : 0 < n) (h32 : n ≤ 32) :
    Calls Try.prog 18 #[.slice A n c] w (WrsPost w (wrOut l)) := by
  have d0 : ((n : Int) == 0) = false := by simp; omega
  have d1 : decide ((32 : Int) < (n : Int)) = false := by simp; omega
  have HN := Lib.hid hn
  have HH := Lib.hid h
  clear hn h
  go_enter Try.func18, Try.ntmps18
  go_wp2_with fail
  go_loopw [4, 30] (fun v iv_ wr => ∃ (j : Nat) (Av : Option Addr) (cv : Nat) (vs : List Value), j ≤ n ∧ iv_ = .int .i64 j ∧ v = .slice Av j cv ∧ wrErr (l.take j) = 0 ∧ VsM 27 wr w.heap.size Av j cv ((l.take j).map fun e => adEnc e.a) vs ∧ Below w.heap.size w wr) (fun _ i _ => n - (intOf i).toNat)
  case atStart => exact ⟨0, none, 0, [], by omega, rfl, rfl, rfl, VsM.nil _ _ (Nat.le_refl _), Below.refl _ _⟩
  case round =>
    obtain ⟨j, Av, cv, vs, hj, rfl, rfl, he, hvs, hbr⟩ := hrel
    by_cases hlt : j < n
    · have hlt' : (j : Int) < (n : Int) := by omega
      obtain ⟨x, hx⟩ : ∃ x, l[j]? = some x := ⟨_, List.getElem?_eq_getElem (by rw [HN.out]; exact hlt)⟩
      obtain ⟨b, o, e', hbb, hc, hok⟩ := RbA.get (HH.out.below (hbr.mono hB)) hx
      cases e'
      have la := loadK_ae (e := x) hc
      have HX := Lib.hid hx
      have la2 := loadK_ad (Bk.new wr 45 (adC x.a x.A x.n x.c))
      have hcs := scSpan (At := x.A) (ct := x.c) (B := B) x.a (wr.alloc (.cells (adC x.a x.A x.n x.c) 45)) (Rd.alloc hok.rd (Nat.le_trans hB hbr.size) _) (by have := hbr.size; simp; omega) hok.len hok.max hok.ok
      have HC := Lib.hid hcs
      clear hc hx hcs
      go_wp2_with fail
      refine HC.out.mono ?_
      rintro e w3 ⟨A3, c3, rfl, hr3, hb3, hl3, hz3, hk3⟩
      have hbb : Below wr.heap.size wr w3 := ((Below.refl _ wr).alloc (Nat.le_refl _) _).trans (hb3.mono (by simp))
      have vs3 := hvs.below hbb
      have hbr3 := hbr.trans (hbb.mono hbr.size)
      by_cases hq : adChk x.a = 0
      · have ho : adOut x.a = (adEnc x.a, 0) := by rw [adOut, if_pos hq]
        rw [ho] at hr3 hl3 hz3 ⊢
        have hlo3 := vs3.hlo
        have hal : Below w3.heap.size w3 (w3.alloc (.cells #[.slice A3 (adEnc x.a).length c3] 27)) := (Below.refl _ w3).alloc (Nat.le_refl _) _
        have vsa := vs3.below hal
        go_wp2_with (at_builtin; go_loud (refine wpList_appV _ rfl (.tmp 42) (.tmp 44) rfl w.heap.size _ j vs rfl vsa.own (w3.heap.size + 1) (some ⟨w3.heap.size, 0, none⟩) 1 [.slice A3 (adEnc x.a).length c3] rfl rfl (Rd.lit w3 #[.slice A3 (adEnc x.a).length c3] _) (by simp [Value.oneCell']) (by omega) (by simp; omega) ?_); intro A6 c6 w6 happ)
        have hpush := vsa.push (x := adEnc x.a) happ (hr3.belowS hal) hl3 (fun _ a ha => by
          have h1 := hk3 a ha
          have h2 := hbr.size
          simp at h1
          refine ⟨by omega, fun e => ?_⟩
          have h3 := (hvs.own.lt a.block e).2
          omega) (fun e => (hz3 e).2)
        have hrow : ∀ b, (Value.slice Av j cv).ownBlock = some b → w.heap.size ≤ b := fun b e => (hvs.own.lt b e).1
        have hb6 : Below w.heap.size w w6 := (hbr3.trans (hal.mono hbr3.size)).trans (grown_below happ.grown (by simp; omega) hrow)
        have hm : (l.take (j + 1)).map (fun e => adEnc e.a) = (l.take j).map (fun e => adEnc e.a) ++ [adEnc x.a] := by rw [take_snoc HX.out, List.map_append]; rfl
        refine ⟨⟨j + 1, A6, c6, _, by omega, by simp, rfl, ?_, by rw [hm]; exact hpush, hb6⟩, by simp only [intOf]; omega⟩
        rw [take_snoc HX.out, wrErr_snoc, he, hq]
        rfl
      · have ho : adOut x.a = ([], adChk x.a) := by rw [adOut, if_neg hq]
        rw [ho] at hr3 hl3 hz3 ⊢
        have hwo : wrOut l = ([], adChk x.a) := by
          have e1 : wrErr l = adChk x.a := by
            have h := wrErr_app (l.drop (j + 1)) (l.take (j + 1))
            rw [List.take_append_drop, take_snoc HX.out, wrErr_snoc, he] at h
            simpa [hq] using h
          rw [wrOut, if_neg (by rw [HN.out]; omega), if_neg (by rw [HN.out]; omega), e1, if_pos hq]
        have d3 : ((adChk x.a : Int) == 0) = false := by simp; omega
        go_wp2_with fail
        rw [hwo]
        go_ret2
        exact WrsPost.no hbr3
    · have hjn : j = n := by omega
      subst hjn
      have htk : l.take j = l := List.take_of_length_le (by rw [HN.out]; exact Nat.le_refl _)
      rw [htk] at he hvs
      go_wp2_with fail
      go_loopw [49] (fun iv_ w4 => ∃ i : Nat, i ≤ j ∧ iv_ = .int .i64 i ∧ (List.range i).any (badAt l) = false ∧ VsM 27 w4 w.heap.size Av j cv (l.map fun e => adEnc e.a) vs ∧ Below w.heap.size w w4) (fun i _ => j - (intOf i).toNat)
      case atStart => exact ⟨0, by omega, rfl, rfl, hvs, hbr⟩
      case round =>
        obtain ⟨i, hi, rfl, hgood, hvs4, hbr4⟩ := hrel
        by_cases hlt : i < j
        · have hlt' : (i : Int) < (j : Int) := by omega
          obtain ⟨x, hx⟩ : ∃ x, l[i]? = some x := ⟨_, List.getElem?_eq_getElem (by rw [HN.out]; exact hlt)⟩
          obtain ⟨y, hy⟩ : ∃ y, l[0]? = some y := ⟨_, List.getElem?_eq_getElem (by rw [HN.out]; omega)⟩
          have hrb := HH.out.below (hbr4.mono hB)
          obtain ⟨b, o, e', hbb, hc, hok⟩ := RbA.get hrb hx
          cases e'
          obtain ⟨b', o', e', -, hd, -⟩ := RbA.get hrb hy
          cases e'
          have la := loadK_ae (e := x) hc
          have hbw : b < wr.heap.size := by have := hbr4.size; omega
          have bk := Bk.new wr 45 (adC x.a x.A x.n x.c)
          have hal : Below wr.heap.size wr (wr.alloc (.cells (adC x.a x.A x.n x.c) 45)) := (Below.refl _ wr).alloc (Nat.le_refl _) _
          obtain ⟨w5, hw5⟩ : ∃ w5, wr.alloc (.cells (adC x.a x.A x.n x.c) 45) = w5 := ⟨_, rfl⟩
          rw [hw5] at bk hal
          have vs5 := hvs4.below hal
          have hbr5 := hbr4.trans (hal.mono hbr4.size)
          have d0 : w5.cell? ⟨b, o, none⟩ = some (.int .u64 y.a.s.hi) := (hal.cell hbw).trans (hd 0 (by omega))
          have d1 : w5.cell? ⟨b, o + 1, none⟩ = some (.int .u64 y.a.s.lo) := (hal.cell hbw).trans (hd 1 (by omega))
          have HW5 := Lib.hid hw5
          obtain ⟨g, hg⟩ : ∃ g, wr.heap.size = g := ⟨_, rfl⟩
          rw [hg] at bk
          have HG := Lib.hid hg
          have k0 : w5.cell? ⟨g, 0, none⟩ = some (.int .u64 x.a.s.hi) := bk.cell 0
          have k1 : w5.cell? ⟨g, 1, none⟩ = some (.int .u64 x.a.s.lo) := bk.cell 1
          have k2 : w5.cell? ⟨g, 2, none⟩ = some (.int .u64 x.a.s.id) := bk.cell 2
          clear hw5 hg hc hd bk
          have hbad : badAt l i = (!(decide (x.a.s.hi = y.a.s.hi) && decide (x.a.s.lo = y.a.s.lo)) || (decide (0 < i) && (match l[i - 1]? with | some p => decide (x.a.s.id ≤ p.a.s.id) | none => false))) := by unfold badAt; rw [hy, hx]; rfl
          have HBAD := Lib.hid hbad
          have HX := Lib.hid hx
          have HRB := Lib.hid hrb
          have HAL := Lib.hid hal
          clear hbad hx hy hrb hvs4 hal
          by_cases htr : x.a.s.hi = y.a.s.hi ∧ x.a.s.lo = y.a.s.lo
          case neg =>
            have hbt : badAt l i = true := by rw [HBAD.out]; simp; omega
            have HBT := Lib.hid hbt
            clear hbt
            have hwo : wrOut l = ([], 2) := by
              have h1 : wrBad l = true := List.any_eq_true.2 ⟨i, List.mem_range.2 (by rw [HN.out]; exact hlt), HBT.out⟩
              rw [wrOut, if_neg (by rw [HN.out]; omega), if_neg (by rw [HN.out]; omega), if_neg (by rw [he]; simp), if_pos h1]
            have HWO := Lib.hid hwo
            clear hwo
            by_cases hhi : x.a.s.hi = y.a.s.hi
            · have hne : ¬ ((x.a.s.lo : Int) = (y.a.s.lo : Int)) := by omega
              rw [← hhi] at d0
              clear htr hhi
              go_upto_region 17 with fail
              rw [HW5.out, HG.out]
              go_region
              all_goals go_wp2_with fail
              all_goals rw [HWO.out]
              all_goals go_ret2
              all_goals exact WrsPost.no (below_drewN hbr5 _)
            · have hne : ¬ ((x.a.s.hi : Int) = (y.a.s.hi : Int)) := by omega
              clear htr hhi
              go_upto_region 17 with fail
              rw [HW5.out, HG.out]
              go_region
              all_goals go_wp2_with fail
              all_goals rw [HWO.out]
              all_goals go_ret2
              all_goals exact WrsPost.no (below_drewN hbr5 _)
          case pos =>
            obtain ⟨t1, t2⟩ := htr
            rw [← t1] at d0
            rw [← t2] at d1
            have hsn : (List.range (i + 1)).any (badAt l) = badAt l i := by rw [List.range_succ, List.any_append, hgood]; simp
            have HSN := Lib.hid hsn
            clear hsn hgood
            cases i with
            | zero =>
              have hbf : badAt l 0 = false := by rw [HBAD.out]; simp [t1, t2]
              have HBF := Lib.hid hbf
              clear t1 t2 hbf
              simp only [Nat.zero_mul, Nat.add_zero] at la
              go_upto_region 17 with fail
              rw [HW5.out, HG.out]
              go_region
              all_goals go_wp2_with fail
              all_goals exact ⟨⟨1, by omega, rfl, by rw [HSN.out, HBF.out], vs5.below (below_drewN (Below.refl _ _) _), below_drewN hbr5 _⟩, by simp only [intOf]; omega⟩
            | succ k =>
              obtain ⟨p, hp⟩ : ∃ p, l[k]? = some p := ⟨_, List.getElem?_eq_getElem (by rw [HN.out]; omega)⟩
              obtain ⟨b', o', e', -, hd, -⟩ := RbA.get HRB.out hp
              cases e'
              have d2 : w5.cell? ⟨b, o + k * 14 + 2, none⟩ = some (.int .u64 p.a.s.id) := (HAL.out.cell hbw).trans (hd 2 (by omega))
              have hbe : badAt l (k + 1) = decide (x.a.s.id ≤ p.a.s.id) := by rw [HBAD.out, Nat.add_sub_cancel, hp]; simp [t1, t2]
              have HBE := Lib.hid hbe
              clear t1 t2 hbe hp hd
              by_cases hle : x.a.s.id ≤ p.a.s.id
              · have hwo : wrOut l = ([], 2) := by
                  have h1 : wrBad l = true := List.any_eq_true.2 ⟨k + 1, List.mem_range.2 (by rw [HN.out]; exact hlt), by rw [HBE.out, decide_eq_true hle]⟩
                  rw [wrOut, if_neg (by rw [HN.out]; omega), if_neg (by rw [HN.out]; omega), if_neg (by rw [he]; simp), if_pos h1]
                have HWO := Lib.hid hwo
                have hd : decide ((x.a.s.id : Int) ≤ (p.a.s.id : Int)) = true := by simp; omega
                clear hwo
                go_upto_region 17 with fail
                rw [HW5.out, HG.out]
                go_region
                all_goals go_wp2_with fail
                all_goals rw [HWO.out]
                all_goals go_ret2
                all_goals exact WrsPost.no (below_drewN hbr5 _)
              · have hd : decide ((x.a.s.id : Int) ≤ (p.a.s.id : Int)) = false := by simp; omega
                have HLE := Lib.hid hle
                go_upto_region 17 with fail
                rw [HW5.out, HG.out]
                go_region
                all_goals go_wp2_with fail
                all_goals exact ⟨⟨k + 1 + 1, by omega, by simp, by rw [HSN.out, HBE.out, decide_eq_false HLE.out], vs5.below (below_drewN (Below.refl _ _) _), below_drewN hbr5 _⟩, by simp only [intOf]; omega⟩
        · have hij : i = j := by omega
          subst hij
          obtain ⟨u0, hu0⟩ : ∃ u0, u0 = wr := ⟨_, rfl⟩
          subst hu0
          have hmm := @run_makeMap Try.prog
          have hfine : ∀ e ∈ l, e.Fine := fun e h => AE.fine (wrErr_zero he e h)
          have hgw : wrBad l = false := by rw [wrBad, HN.out]; exact hgood
          have hne : l ≠ [] := fun e => by have := HN.out; rw [e] at this; simp at this; omega
          have hwo : wrOut l = if 1024 < (wrAll l).length then ([], 3) else (wrAll l, 0) := by
            rw [wrOut, if_neg (by rw [HN.out]; omega), if_neg (by rw [HN.out]; omega), if_neg (by rw [he]; simp), if_neg (by rw [hgw]; simp)]
          have HWO := Lib.hid hwo
          have HNE := Lib.hid hne
          have HF := Lib.hid hfine
          have HV := Lib.hid hvs4
          have HRB := Lib.hid (HH.out.below (hbr4.mono hB))
          have hB4 : B ≤ u0.heap.size := Nat.le_trans hB hbr4.size
          have HBR := Lib.hid hbr4
          obtain ⟨y, hy⟩ : ∃ y, l[0]? = some y := ⟨_, List.getElem?_eq_getElem (by rw [HN.out]; omega)⟩
          have HY := Lib.hid hy
          have pum : PuM u0 (((u0.alloc (.cells #[.slice none 0 0] 38)).alloc (.map #[] 0)).alloc (.cells #[.map (some (u0.heap.size + 1))] 55)) (u0.heap.size + 1 + 1) (u0.heap.size + 1) u0.heap.size (u0.heap.size + 1 + 1 + 1) none 0 0 [] [] := by
            refine ⟨?_, ?_, ((Bk.new u0 38 #[.slice none 0 0]).alloc _).alloc _, WsU.nil _ _ (by simp), (((Below.refl _ u0).alloc (Nat.le_refl _) _).alloc (by simp) _).alloc (by simp; omega) _, by omega, by omega, by omega⟩
            · simpa using Bk.new ((u0.alloc (.cells #[.slice none 0 0] 38)).alloc (.map #[] 0)) 55 #[.map (some (u0.heap.size + 1))]
            · simpa [keyStrs] using (MpS.new (u0.alloc (.cells #[.slice none 0 0] 38))).alloc (.cells #[.map (some (u0.heap.size + 1))] 55)
          obtain ⟨W0, hW0⟩ : ∃ W0, ((u0.alloc (.cells #[.slice none 0 0] 38)).alloc (.map #[] 0)).alloc (.cells #[.map (some (u0.heap.size + 1))] 55) = W0 := ⟨_, rfl⟩
          rw [hW0] at pum
          obtain ⟨gx, hgx⟩ : ∃ gx, u0.heap.size = gx := ⟨_, rfl⟩
          rw [hgx] at pum
          obtain ⟨lo, hlo⟩ : ∃ lo, gx + 1 + 1 + 1 = lo := ⟨_, rfl⟩
          rw [hlo] at pum
          have HW0 := Lib.hid hW0
          have HGX := Lib.hid hgx
          have HLO := Lib.hid hlo
          have hBW0 : B ≤ W0.heap.size := Nat.le_trans hB4 pum.bel.size
          have cbnd := scBounds (c := c) l W0 (HRB.out.below (pum.bel.mono hB4)) HN.out hBW0 (by omega) (fun e he => (hfine e he).tm)
          have CB := Lib.hid cbnd
          have HPU := Lib.hid pum
          clear hfine hgw hne hwo hvs4 hbr4 hy pum hW0 hgx hlo cbnd hgood he htk hlt hi
          go_upto_region 23 with fail
          rw [HW0.out, HGX.out]
          go_upto_region 24 with (go_at_call 43; refine CB.out.mono ?_; rintro e W1 ⟨rfl, hb1⟩)
          have hbf := bnds_fine HF.out
          have h0i : (0 : Int) < (i : Int) := by omega
          obtain ⟨f, hf⟩ : ∃ f : Nat, (bnds l).1 = (f : Int) := ⟨(bnds l).1.toNat, by omega⟩
          obtain ⟨t, ht⟩ : ∃ t : Nat, (bnds l).2 = (t : Int) := ⟨(bnds l).2.toNat, by omega⟩
          have hf1 : f < 9223372036854775808 := by omega
          have ht1 : t < 9223372036854775808 := by omega
          have hto0 : wrTo l 0 = putW [] (trKey y) (recEnc i f t) := by
            rw [wrTo, List.take_zero, List.foldl_nil, wrHead_eq HY.out, hf, ht, HN.out]
            rfl
          have HT0 := Lib.hid hto0
          rw [hf, ht]
          have pu1 := HPU.out.below hb1
          have pu1d : PuM u0 W1.drew (gx + 1 + 1) (gx + 1) gx lo none 0 0 [] [] := pu1.below (below_drewN (Below.refl _ _) 1)
          obtain ⟨b, o, e', hbB, hd, hyok⟩ := RbA.get HRB.out HY.out
          cases e'
          have CE : Hid (∀ W, Below u0.heap.size u0 W → W.cell? ⟨b, o, none⟩ = some (.int .u64 y.a.s.hi) ∧ W.cell? ⟨b, o + 1, none⟩ = some (.int .u64 y.a.s.lo)) := Lib.hid fun W h => ⟨(h.cell (show b < _ by omega)).trans (hd 0 (by omega)), (h.cell (show b < _ by omega)).trans (hd 1 (by omega))⟩
          obtain ⟨s0, s1⟩ := CE.out W1.drew pu1d.bel
          have huk : (trKey y).U64 := ⟨hyok.ok.1.1, hyok.ok.1.2.1, by simp [trKey], by simp [trKey]⟩
          have crec := (scRecord i f t W1.drew (by omega) hf1 ht1).mono (fun e w' => BytMade.ofN)
          have CR := Lib.hid crec
          have PU1 := Lib.hid pu1d
          have hlo1 := pu1d.ws.hlo
          clear crec hto0 hf ht hbf hd hyok pu1 pu1d hb1
          go_region_held3 (fun w' => w'.cell? ⟨b, o, none⟩ = some (.int .u64 y.a.s.hi) ∧ w'.cell? ⟨b, o + 1, none⟩ = some (.int .u64 y.a.s.lo)) (go_keep)
            (first
              | (go_at_call 44
                 refine CR.out.mono ?_
                 rintro e W2 ⟨A2, c2, rfl, hn2⟩
                 have pu2 := PU1.out.below hn2.bel
                 obtain ⟨q0, q1⟩ := CE.out _ pu2.bel
                 have cput := scPut (w0 := u0) (trKey y) (recEnc i f t) pu2 huk (by omega) hn2.rd rfl hn2.cap (fun _ a ha => ⟨.inr (Nat.le_trans hlo1 (hn2.new a ha)), fun e => by cases e⟩) hn2.nil
                 have CP := Lib.hid cput
                 clear cput)
              | (go_at_call 42
                 refine CP.out.mono ?_
                 rintro e W3 ⟨⟨v, rfl⟩, A3, j3, c3, hs3, pu3, hj3, -⟩
                 obtain ⟨v0, v1⟩ := CE.out _ pu3.bel)
              | fail)
          rw [← HT0.out] at pu3
          go_wp2_with fail
          go_loopw [104] (fun iv_ wp => ∃ (p : Nat) (A4 : Option Addr) (j4 c4 : Nat) (hs4 : List Value), p ≤ i ∧ iv_ = .int .i64 p ∧ PuM u0 wp (gx + 1 + 1) (gx + 1) gx lo A4 j4 c4 (wrTo l p) hs4) (fun i_ _ => i - (intOf i_).toNat)
          case atStart => exact ⟨0, A3, j3, c3, hs3, by omega, rfl, pu3⟩
          case round =>
            obtain ⟨p, A4, j4, c4, hs4, hp, rfl, pu4⟩ := hrel
            obtain ⟨wp, hwp⟩ : ∃ wp, wp = wr := ⟨_, rfl⟩
            subst hwp
            by_cases hlt : p < i
            · have hlt' : (p : Int) < (i : Int) := by omega
              obtain ⟨x, hx⟩ : ∃ x, l[p]? = some x := ⟨_, List.getElem?_eq_getElem (by rw [HN.out]; exact hlt)⟩
              obtain ⟨b', o', e', hbb, hc, hok⟩ := RbA.get (HRB.out.below (pu4.bel.mono hB4)) hx
              cases e'
              have hfx := HF.out x (List.mem_of_getElem? hx)
              have la := loadK_ae (e := x) hc
              have bk5 := Bk.new wp 45 (adC x.a x.A x.n x.c)
              have hal5 : Below wp.heap.size wp (wp.alloc (.cells (adC x.a x.A x.n x.c) 45)) := (Below.refl _ wp).alloc (Nat.le_refl _) _
              have hok5 := (hok.more (Nat.le_trans hB4 pu4.bel.size)).below hal5
              obtain ⟨W5, hW5⟩ : ∃ W5, wp.alloc (.cells (adC x.a x.A x.n x.c) 45) = W5 := ⟨_, rfl⟩
              rw [hW5] at bk5 hal5 hok5
              obtain ⟨g5, hg5⟩ : ∃ g5, wp.heap.size = g5 := ⟨_, rfl⟩
              rw [hg5] at bk5
              have la5 := loadK_adSp bk5
              have pu5 := pu4.below hal5
              have hown4 : ∀ k, (Value.slice A4 j4 c4).ownBlock = some k → k < W5.heap.size := fun k e => Nat.lt_of_lt_of_le (pu4.ws.own.lt k e).2 hal5.size
              have hlo5 := pu5.ws.hlo
              have ck := scKeys (c := x.c) (B := wp.heap.size) x.a.s W5 hok5.rd hok5.len hal5.size (by have := hfx.tm; unfold AE.Tm at this; omega) (by have := hfx.tm; unfold AE.Tm at this; omega) (by have := hfx.tags; have := hok5.len; omega)
              obtain ⟨ks, hks⟩ : ∃ ks, keysOf x.a.s = ks := ⟨_, rfl⟩
              have hkl : ks.length = 5 + x.n := by rw [← hks, keysOf_len, hok5.len]
              have hx16 : x.n ≤ 16 := by have := hfx.tags; have := hok5.len; omega
              have hku : ∀ k ∈ ks, k.U64 := by rw [← hks]; exact keysOf_u64 hok.ok.1 (by have := hfx.tm; unfold AE.Tm at this; omega) (by have := hfx.tm; unfold AE.Tm at this; omega)
              rw [hks] at ck
              have hto : wrTo l (p + 1) = wrKeys (adEnc x.a) (ks.take ks.length) 0 (wrTo l p) := by rw [wrTo_snoc hx, wrSpan, hks, List.take_of_length_le (Nat.le_refl _)]
              have hwl := wrTo_len HF.out p (by rw [HN.out]; omega)
              obtain ⟨K, hK⟩ : ∃ K, ks.length = K := ⟨_, rfl⟩
              rw [hK] at hto hkl
              have hk5 : 5 ≤ K ∧ K ≤ 21 := by omega
              have hvx : (l.map fun e => adEnc e.a)[p]? = some (adEnc x.a) := by rw [List.getElem?_map, hx]; rfl
              have CK := Lib.hid ck
              have HW5 := Lib.hid hW5
              have HG5 := Lib.hid hg5
              have HTO := Lib.hid hto
              have HK := Lib.hid hK
              have HKU := Lib.hid hku
              have HVX := Lib.hid hvx
              have HOW := Lib.hid hown4
              have HPU5 := Lib.hid pu5
              have hbig : ∀ q, (wrKeys (adEnc x.a) (ks.take q) 0 (wrTo l p)).length ≤ 10000 := fun q => by
                have h1 := wrKeys_len (adEnc x.a) (ks.take q) 0 (wrTo l p)
                have h2 : (ks.take q).length ≤ 21 := by rw [List.length_take, hK]; omega
                omega
              have HBG := Lib.hid hbig
              clear hW5 hg5 ck hks hto hK hku hvx hown4 hc hok hok5 hfx hal5 pu4 pu5 bk5 hbb hx hbig hwl hkl
              go_upto_region 28 with fail
              rw [HW5.out, HG5.out]
              go_upto_region 29 with (go_at_call 45; refine CK.out.mono ?_; rintro e W6 ⟨A6, c6, rfl, hr6, hb6, hk6⟩)
              rw [HK.out]
              have pu6 := HPU5.out.below hb6
              have hs56 := hb6.size
              obtain ⟨kz, hkz⟩ : ∃ k, ks[0]? = some k := ⟨_, List.getElem?_eq_getElem (by rw [HK.out]; omega)⟩
              obtain ⟨kb, ko, e', hkb, -⟩ := flatR_at kyL_length (by omega) hr6 hkz
              cases e'
              have hkb0 : W5.heap.size ≤ kb := hk6 _ rfl
              have hkown : (Value.slice A4 j4 c4).ownBlock ≠ some kb := fun e => by have := HOW.out kb e; omega
              have HR6 := Lib.hid hr6
              clear hr6 hk6 hkz hb6
              go_wp2_with fail
              go_loopw [113] (fun iv_ wq => ∃ (q : Nat) (A7 : Option Addr) (j7 c7 : Nat) (hs7 : List Value), q ≤ K ∧ iv_ = .int .i64 q ∧ PuM u0 wq (gx + 1 + 1) (gx + 1) gx lo A7 j7 c7 (wrKeys (adEnc x.a) (ks.take q) 0 (wrTo l p)) hs7 ∧ wq.heap[kb]? = W6.heap[kb]? ∧ W6.heap.size ≤ wq.heap.size ∧ (Value.slice A7 j7 c7).ownBlock ≠ some kb) (fun i_ _ => K - (intOf i_).toNat)
              case atStart => exact ⟨0, A4, j4, c4, hs4, by omega, rfl, by simpa [wrKeys] using pu6, rfl, Nat.le_refl _, hkown⟩
              case round =>
                obtain ⟨q, A7, j7, c7, hs7, hq, rfl, pu7, hkq, hsz7, hown7⟩ := hrel
                obtain ⟨wq, hwq⟩ : ∃ wq, wq = wr := ⟨_, rfl⟩
                subst hwq
                by_cases hlt2 : q < K
                · have hlt2' : (q : Int) < (K : Int) := by omega
                  obtain ⟨k, hk⟩ : ∃ k, ks[q]? = some k := ⟨_, List.getElem?_eq_getElem (by rw [HK.out]; exact hlt2)⟩
                  have hr7 : Rd wq W6.heap.size (some ⟨kb, ko, none⟩) (flatR kyL ks) := Rd.keepBlock HR6.out (fun a e => by cases e; exact hkq)
                  obtain ⟨b2, o2, e', -, hkc⟩ := flatR_at kyL_length (by omega) hr7 hk
                  cases e'
                  have lk := loadK_kyR hkc
                  have bk8 := Bk.new wq 26 (kyC k)
                  have hal8 : Below wq.heap.size wq (wq.alloc (.cells (kyC k) 26)) := (Below.refl _ wq).alloc (Nat.le_refl _) _
                  have hs8 : (wq.alloc (.cells (kyC k) 26)).heap.size = wq.heap.size + 1 := by simp
                  obtain ⟨W8, hW8⟩ : ∃ W8, wq.alloc (.cells (kyC k) 26) = W8 := ⟨_, rfl⟩
                  rw [hW8] at bk8 hal8 hs8
                  obtain ⟨g8, hg8⟩ : ∃ g8, wq.heap.size = g8 := ⟨_, rfl⟩
                  rw [hg8] at bk8 hs8
                  have lk8 := loadK_ky bk8
                  have lk8d := loadK_ky bk8.drew
                  have pu8 := pu7.below hal8
                  have hj7 : j7 ≤ 10000 := by have := HBG.out q; have := pu7.ws.len; omega
                  have hku := HKU.out k (List.mem_of_getElem? hk)
                  have HTK := Lib.hid (wrKeys_take (zs := adEnc x.a) (acc := wrTo l p) hk)
                  have hkb8 : W8.heap[kb]? = W6.heap[kb]? := (hal8.block kb (by omega)).trans hkq
                  have hne1 : kb ≠ gx + 1 ∧ kb ≠ gx := by have := HLO.out; omega
                  have HFR : Hid (∀ {W9 : World} {A10 : Option Addr} {j10 c10 : Nat}, PuF W8 W9 (gx + 1) gx (.slice A7 j7 c7) (.slice A10 j10 c10) → W9.heap[kb]? = W6.heap[kb]? ∧ W6.heap.size ≤ W9.heap.size ∧ (Value.slice A10 j10 c10).ownBlock ≠ some kb) := Lib.hid fun h => by
                    refine ⟨(h.2.1 kb (by omega) hne1.1 hne1.2 hown7).trans hkb8, by have := h.1; omega, fun e => ?_⟩
                    rcases h.2.2 with h1 | ⟨b, h1, h2⟩
                    · exact hown7 (h1.symm.trans e)
                    · rw [h1] at e
                      cases e
                      omega
                  have HW8 := Lib.hid hW8
                  have HG8 := Lib.hid hg8
                  have hs8' : g8 < W8.heap.size := by omega
                  by_cases hq0 : q = 0
                  · have hd0 : ((q : Int) == 0) = true := by simp; omega
                    have HQ0 := Lib.hid hq0
                    obtain ⟨vb, vo, A9, c9, e', hvb, hvc, hvl, hvr, hvz⟩ := HV.out.get HVX.out
                    cases e'
                    have pu8d : PuM u0 W8.drew (gx + 1 + 1) (gx + 1) gx lo A7 j7 c7 (wrKeys (adEnc x.a) (ks.take q) 0 (wrTo l p)) hs7 := pu8.below (below_drewN (Below.refl _ _) 1)
                    have CV : Hid (∀ W, Below u0.heap.size u0 W → W.cell? ⟨vb, vo + p, none⟩ = some (.slice A9 (adEnc x.a).length c9)) := Lib.hid fun W h => (h.cell hvb).trans hvc
                    have v8 := CV.out _ pu8d.bel
                    have hvblk : adEnc x.a ≠ [] → ∀ a, A9 = some a → (a.block < u0.heap.size ∨ lo ≤ a.block) ∧ (Value.slice A7 j7 c7).ownBlock ≠ some a.block := fun hz a ha => by
                      obtain ⟨b9, o9, e9, hb9, -⟩ := hvr (by simpa [bv] using hz)
                      rw [ha] at e9
                      cases e9
                      refine ⟨.inl hb9, fun e => ?_⟩
                      have h1 : lo ≤ b9 := (pu7.ws.own.lt _ e).1
                      have h2 := HLO.out
                      have h3 := HGX.out
                      omega
                    have cput := scPut (w0 := u0) k (adEnc x.a) pu8d hku hj7 ((Rd.below hvr pu8d.bel).more pu8d.bel.size) rfl hvl hvblk hvz
                    have CP := Lib.hid cput
                    have HLK : Hid (∀ {W9 : World} {A10 : Option Addr} {j10 c10 : Nat}, PuF W8.drew W9 (gx + 1) gx (.slice A7 j7 c7) (.slice A10 j10 c10) → Bk W9 g8 26 (kyC k)) := Lib.hid fun h => by
                      have h1 := HLO.out
                      have h2 : lo ≤ wq.heap.size := pu7.ws.hlo
                      exact (h.2.1 g8 (by show g8 < W8.heap.size; omega) (by omega) (by omega) (fun e => by have := (pu7.ws.own.lt g8 e).2; omega)).trans bk8
                    have hvi : vo + p = vo + p := rfl
                    clear hq0 hW8 hg8 pu7 bk8 hal8 hkc hr7 hkq hown7 hkb8 hku hk cput hne1 pu8 hvr hvblk hvc pu8d hvi
                    go_upto_region 32 with fail
                    rw [HW8.out, HG8.out]
                    go_region_held3 (fun w' => (loadK 26 ⟨g8, 0, none⟩).run Try.prog w' = .ok (kyV k) w' ∧ w'.cell? ⟨vb, vo + p, none⟩ = some (.slice A9 (adEnc x.a).length c9)) (go_keep)
                      (first
                        | (go_at_call 42
                           refine CP.out.mono ?_
                           rintro e W9 ⟨⟨v, rfl⟩, A10, j10, c10, hs10, pu10, hj10, hf10⟩
                           have v9 := CV.out _ pu10.bel
                           have lk9 := loadK_ky (HLK.out hf10))
                        | fail)
                    obtain ⟨f1', f2', f3'⟩ := HFR.out hf10
                    go_wp2_with fail
                    exact ⟨⟨q + 1, A10, j10, c10, hs10, by omega, by simp, by rw [HTK.out, if_pos HQ0.out]; exact pu10, f1', f2', f3'⟩, by simp only [intOf]; omega⟩
                  · have hd0 : ((q : Int) == 0) = false := by simp; omega
                    have HQ0 := Lib.hid hq0
                    have cput := scPut (w0 := u0) (Va := none) (nv := 0) (cv := 0) k [] pu8 hku hj7 Rd.nil rfl (Nat.le_refl _) (fun h => absurd rfl h) (fun _ => rfl)
                    have CP := Lib.hid cput
                    clear hq0 hW8 hg8 pu7 bk8 hal8 hkc hr7 hkq hown7 hkb8 hku hk cput lk8d hne1 pu8
                    go_upto_region 31 with fail
                    rw [HW8.out, HG8.out]
                    go_upto_region 34 with (go_at_call 42; refine CP.out.mono ?_; rintro e W9 ⟨⟨v, rfl⟩, A10, j10, c10, hs10, pu10, hj10, hf10⟩)
                    obtain ⟨f1', f2', f3'⟩ := HFR.out hf10
                    go_wp2_with fail
                    exact ⟨⟨q + 1, A10, j10, c10, hs10, by omega, by simp, by rw [HTK.out, if_neg HQ0.out]; exact pu10, f1', f2', f3'⟩, by simp only [intOf]; omega⟩
                · have hqK : q = K := by omega
                  subst hqK
                  clear hkq hsz7 hown7
                  go_wp2_with fail
                  exact ⟨⟨p + 1, A7, j7, c7, hs7, by omega, by simp, by rw [HTO.out]; exact pu7⟩, by simp only [intOf]; omega⟩
            · have hpi : p = i := by omega
              subst hpi
              have hall : wrTo l p = wrAll l := by have := wrTo_all HNE.out; rwa [HN.out] at this
              rw [hall] at pu4
              have hlen := pu4.ws.len
              have k4 := pu4.bx.cell 0
              have k4' : wp.cell? ⟨gx, 0, none⟩ = some (.slice A4 j4 c4) := k4
              have HP4 := Lib.hid pu4
              have HL4 := Lib.hid hlen
              have hwx : Below w.heap.size w wp := HBR.out.trans (pu4.bel.mono HBR.out.size)
              by_cases hbig : 1024 < j4
              · have hd : decide ((1024 : Int) < (j4 : Int)) = true := by simp; omega
                have HBIG := Lib.hid hbig
                clear hall pu4 hlen k4 hbig
                go_wp2_with fail
                rw [HWO.out, if_pos (by rw [HL4.out]; exact HBIG.out)]
                go_ret2
                exact WrsPost.no hwx
              · have hd : decide ((1024 : Int) < (j4 : Int)) = false := by simp; omega
                have HBIG := Lib.hid hbig
                clear hall pu4 hlen k4 hbig
                go_wp2_with fail
                rw [HWO.out, if_neg (by rw [HL4.out]; exact HBIG.out)]
                go_ret2
                exact ⟨A4, c4, by rw [HL4.out]; rfl, HP4.out.ws.rbw, hwx, by rw [HL4.out]; exact own_cap HP4.out.ws.own⟩
end Go.Proofs.Ytlamebbolioljaa

/- What comes in, read as the walks want it. -/
namespace Go.Proofs.Ytlamebbolioljaa
open Go.ChangeShapes Go.WideShapes Go.ChangeAt Go.RowKit

theorem ownKnob_none : ownKnob Try.prog.godebug = none := by kernel_rfl
theorem laidOut : laidOutB Try.prog = true := by kernel_rfl

/-- What a walk is told of a slice of bytes that came in. -/
structure InB (w : World) (A : Option Addr) (n c : Nat) (zs : List Int) : Prop where
  rd : Rb w w.heap.size A zs
  len : zs.length = n
  cap : n ≤ c
  max : c ≤ maxLen
  byt : Byt zs
  nil : A = none → c = 0

theorem byte_wf {x : Int} (h : (Lit.int .u8 x).wf = true) : 0 ≤ x ∧ x ≤ 255 := by
  simp [Lit.wf, IntKind.min, IntKind.max, IntKind.signed, IntKind.bits] at h
  omega

theorem open_inB {H : Type} {enc : TypeId × Value → H} {W : World} {base : Nat} {held : Bool} {d : DataW H} {p : List MemPlace} {a : Option Addr} {len cap : Nat}
    (h : DataW.Trod enc Try.prog W base (fun _ => true) held 27 (.slice a len cap) d p) : ∃ zs, InB W a len cap zs := by
  obtain ⟨fuel, hf⟩ := h
  rcases open_ints Try.underlying27 Try.underlying5 (by kernel_rfl) hf with ⟨hcs, _⟩ | ⟨x, l, c, zs, hcs, _, hl, hm, hz, _, hcell, hwz⟩
  · simp [Value.cells] at hcs
    obtain ⟨rfl, rfl, rfl⟩ := hcs
    exact ⟨[], Rd.nil, rfl, Nat.le_refl _, by simp [maxLen], fun x hx => by simp at hx, fun _ => rfl⟩
  · simp [Value.cells] at hcs
    obtain ⟨rfl, rfl, rfl⟩ := hcs
    have hz : zs.length = cap := by simpa using hz
    refine ⟨zs.take len, ?_, by simp; omega, hl, hm, fun y hy => byte_wf (hwz y (List.mem_of_mem_take hy)), fun h => by cases h⟩
    intro hn
    have hpos : 0 < zs.length := by
      rcases Nat.eq_zero_or_pos zs.length with h0 | h0
      · rw [List.eq_nil_of_length_eq_zero h0] at hn; simp [bv] at hn
      · exact h0
    obtain ⟨b, off, spot⟩ := x
    have hc := hcell 0 hpos
    have hspot : spot = none := by simpa [Addr.add] using World.cell?_spot hc
    subst hspot
    refine ⟨b, off, rfl, World.block_lt_of_cell? W ⟨b, off, none⟩ (by simpa [Addr.add] using hc), fun j u hu => ?_⟩
    rw [← bv_take, List.getElem?_take] at hu
    split at hu
    · have hj : j < zs.length := by
        have := (List.getElem?_eq_some_iff.1 hu).1
        simpa [bv] using this
      have h2 := hcell j hj
      rw [Addr.add_lit] at h2
      rw [h2, ← hu]
      simp [bv, List.getD, hj]
    · cases hu
end Go.Proofs.Ytlamebbolioljaa

/- Spans that came in. -/
namespace Go.Proofs.Ytlamebbolioljaa
open Go.ChangeShapes Go.WideShapes Go.ChangeAt Go.RowKit

theorem list_of {α : Type} (P : Nat → α → Prop) : ∀ (n : Nat), (∀ i, i < n → ∃ x, P i x) → ∃ l : List α, l.length = n ∧ ∀ i x, l[i]? = some x → P i x
  | 0, _ => ⟨[], rfl, fun i x h => by simp at h⟩
  | n + 1, h => by
    obtain ⟨l, hl, hp⟩ := list_of P n fun i hi => h i (by omega)
    obtain ⟨x, hx⟩ := h n (by omega)
    refine ⟨l ++ [x], by simp [hl], fun i y hy => ?_⟩
    by_cases hi : i < l.length
    · rw [List.getElem?_append_left hi] at hy
      exact hp i y hy
    · have hin : i = n := by
        have := (List.getElem?_eq_some_iff.1 hy).1
        simp at this
        omega
      subst hin
      rw [List.getElem?_append_right (by omega), hl, Nat.sub_self] at hy
      simp at hy
      subst hy
      exact hx
/-- Tags that came in. -/
structure InT (w : World) (A : Option Addr) (n c : Nat) (l : List Tg) : Prop where
  rd : RbT w w.heap.size A l
  len : l.length = n
  cap : n ≤ c
  max : c ≤ maxLen
set_option maxRecDepth 100000 in
theorem open_tag {H : Type} {enc : TypeId × Value → H} {W : World} {base : Nat} {held : Bool} {cs : List Value} {fuel : Nat} {y : DataW H × List MemPlace} {a : Addr} {b0 : Nat}
    (hc : W.cells? b0 a 2 = some cs) (h : DataW.trod enc Try.prog W base (fun _ => true) held fuel 97 cs = some y) : ∃ x : Tg, W.cell? a = some (.string x.key) ∧ W.cell? (a.add 1) = some (.string x.val) := by
  obtain ⟨xs, n, _, _, hlen, hyl, hf⟩ := DataW.trod_struct Try.underlying97 h
  obtain ⟨_, hcl, hat⟩ := World.cells?_some hc
  match cs, hcl with
  | [v0, v1], _ =>
    match xs, hyl with
    | [y0, y1], _ =>
      have cS : Try.prog.cellsOf 9 = 1 := by kernel_rfl
      have h0 : DataW.trod enc Try.prog W base (fun _ => true) held n 9 (([v0, v1].drop 0).take (Try.prog.cellsOf 9)) = some y0 := hf 0 _ rfl
      have h1 : DataW.trod enc Try.prog W base (fun _ => true) held n 9 (([v0, v1].drop 1).take (Try.prog.cellsOf 9)) = some y1 := hf 1 _ rfl
      rw [cS] at h0 h1
      simp only [List.drop_zero, List.drop_succ_cons, List.take_succ_cons, List.take_zero] at h0 h1
      obtain ⟨k, hk, -, -⟩ := DataW.trod_string Try.underlying9 h0
      obtain ⟨v, hv, -, -⟩ := DataW.trod_string Try.underlying9 h1
      simp at hk hv
      subst hk hv
      refine ⟨⟨k, v⟩, ?_, hat 1 (by omega)⟩
      have := hat 0 (by omega)
      simpa [Addr.add] using this
set_option maxRecDepth 100000 in
theorem open_fT {H : Type} {enc : TypeId × Value → H} {W : World} {base : Nat} {held : Bool} {v : Value} {fuel : Nat} {x : DataW H × List MemPlace}
    (h : DataW.trod enc Try.prog W base (fun _ => true) held fuel 41 [v] = some x) : ∃ A n c l, v = .slice A n c ∧ InT W A n c l := by
  rcases Deep.open_slice Try.underlying41 h with ⟨hcs, _⟩ | ⟨a, len, cap, m, n, D, Pl, hcs, hb, hl, hm, hmm, hx, hi⟩
  · simp at hcs
    subst hcs
    exact ⟨none, 0, 0, [], rfl, ⟨Rd.nil, rfl, Nat.le_refl _, by simp [maxLen]⟩⟩
  · simp at hcs
    subst hcs
    rw [if_pos rfl] at hmm
    subst hmm
    have hC : Try.prog.cellsOf 97 = 2 := by kernel_rfl
    rw [hC] at hi
    obtain ⟨l, hwl, hw⟩ := list_of (fun i (x : Tg) => W.cell? (a.add (i * 2)) = some (.string x.key) ∧ W.cell? ((a.add (i * 2)).add 1) = some (.string x.val)) len fun i hil => by
      obtain ⟨cs', hc, ht⟩ := hi i (by omega)
      exact open_tag hc ht
    refine ⟨some a, len, m, l, rfl, ⟨?_, hwl, hl, hm⟩⟩
    intro hne
    have hpos : 0 < len := by
      rcases Nat.eq_zero_or_pos len with h0 | h0
      · rw [← hwl] at h0
        rw [List.eq_nil_of_length_eq_zero h0] at hne
        exact absurd rfl hne
      · exact h0
    obtain ⟨x0, hx0⟩ : ∃ x0, l[0]? = some x0 := ⟨_, List.getElem?_eq_getElem (by omega)⟩
    obtain ⟨b, off, spot⟩ := a
    have h0 := (hw 0 x0 hx0).1
    simp only [Nat.zero_mul, Addr.add] at h0
    have hspot : spot = none := by simpa using World.cell?_spot h0
    subst hspot
    refine ⟨b, off, rfl, World.block_lt_of_cell? W ⟨b, off, none⟩ (by simpa using h0), fun j u hu => ?_⟩
    have hj : j < l.length * 2 := by
      have := (List.getElem?_eq_some_iff.1 hu).1
      rwa [tgs_length] at this
    obtain ⟨x1, hx1⟩ : ∃ x1, l[j / 2]? = some x1 := ⟨_, List.getElem?_eq_getElem (by omega)⟩
    obtain ⟨g1, g2⟩ := hw (j / 2) x1 hx1
    obtain ⟨t1, t2⟩ := tgs_get hx1
    rcases Nat.mod_two_eq_zero_or_one j with hr | hr
    · have e : j / 2 * 2 = j := by omega
      rw [e] at t1 g1
      rw [hu] at t1
      rw [Option.some.inj t1]
      rw [Addr.add_lit] at g1
      exact g1
    · have e : j / 2 * 2 + 1 = j := by omega
      rw [e] at t2
      rw [hu] at t2
      rw [Option.some.inj t2]
      rw [Addr.add_lit, Addr.add_lit] at g2
      rw [← e, ← Nat.add_assoc]
      exact g2
/-- A span that came in. -/
structure InSp (w : World) (s : Sp) (A : Option Addr) (n c : Nat) : Prop where
  tags : InT w A n c s.tags
  u64 : s.U64
  service : s.service.size ≤ maxLen
  name : s.name.size ≤ maxLen
theorem u64_of {s : Int} (h : (Lit.int .u64 s).wf = true) : 0 ≤ s ∧ s < 18446744073709551616 := by
  simp [Lit.wf, IntKind.min, IntKind.max, IntKind.signed, IntKind.bits] at h
  omega
theorem array11 {cs : Array Value} (h : cs.size = 11) : ∃ a b c d e f g i j k l, cs = #[a, b, c, d, e, f, g, i, j, k, l] := by
  obtain ⟨l⟩ := cs
  match l, h with
  | [a, b, c, d, e, f, g, i, j, k, l], _ => exact ⟨a, b, c, d, e, f, g, i, j, k, l, rfl⟩
set_option maxRecDepth 100000 in
theorem open_spCells {H : Type} {enc : TypeId × Value → H} {W : World} {base : Nat} {held : Bool} {c0 c1 c2 c3 c4 c5 c6 c7 c8 c9 c10 : Value} {fuel : Nat} {x : DataW H × List MemPlace}
    (h : DataW.trod enc Try.prog W base (fun _ => true) held fuel 43 [c0, c1, c2, c3, c4, c5, c6, c7, c8, c9, c10] = some x) :
    ∃ (s : Sp) (A : Option Addr) (n c : Nat), [c0, c1, c2, c3, c4, c5, c6, c7, c8, c9, c10] = (spC s A n c).toList ∧ InSp W s A n c := by
  obtain ⟨xs, n, _, _, hlen, hyl, hf⟩ := DataW.trod_struct Try.underlying43 h
  match xs, hyl with
  | [y0, y1, y2, y3, y4, y5, y6, y7, y8, y9], _ =>
    have cT : Try.prog.cellsOf 24 = 2 := by kernel_rfl
    have cU : Try.prog.cellsOf 22 = 1 := by kernel_rfl
    have cS : Try.prog.cellsOf 9 = 1 := by kernel_rfl
    have cI : Try.prog.cellsOf 3 = 1 := by kernel_rfl
    have cJ : Try.prog.cellsOf 2 = 1 := by kernel_rfl
    have cB : Try.prog.cellsOf 4 = 1 := by kernel_rfl
    have cL : Try.prog.cellsOf 41 = 1 := by kernel_rfl
    obtain ⟨cs, hcs⟩ : ∃ cs, [c0, c1, c2, c3, c4, c5, c6, c7, c8, c9, c10] = cs := ⟨_, rfl⟩
    rw [hcs] at hf
    have h0 : DataW.trod enc Try.prog W base (fun _ => true) held n 24 ((cs.drop 0).take (Try.prog.cellsOf 24)) = some y0 := hf 0 _ rfl
    have h1 : DataW.trod enc Try.prog W base (fun _ => true) held n 22 ((cs.drop 2).take (Try.prog.cellsOf 22)) = some y1 := hf 1 _ rfl
    have h2 : DataW.trod enc Try.prog W base (fun _ => true) held n 22 ((cs.drop 3).take (Try.prog.cellsOf 22)) = some y2 := hf 2 _ rfl
    have h3 : DataW.trod enc Try.prog W base (fun _ => true) held n 9 ((cs.drop 4).take (Try.prog.cellsOf 9)) = some y3 := hf 3 _ rfl
    have h4 : DataW.trod enc Try.prog W base (fun _ => true) held n 9 ((cs.drop 5).take (Try.prog.cellsOf 9)) = some y4 := hf 4 _ rfl
    have h5 : DataW.trod enc Try.prog W base (fun _ => true) held n 3 ((cs.drop 6).take (Try.prog.cellsOf 3)) = some y5 := hf 5 _ rfl
    have h6 : DataW.trod enc Try.prog W base (fun _ => true) held n 2 ((cs.drop 7).take (Try.prog.cellsOf 2)) = some y6 := hf 6 _ rfl
    have h7 : DataW.trod enc Try.prog W base (fun _ => true) held n 2 ((cs.drop 8).take (Try.prog.cellsOf 2)) = some y7 := hf 7 _ rfl
    have h8 : DataW.trod enc Try.prog W base (fun _ => true) held n 4 ((cs.drop 9).take (Try.prog.cellsOf 4)) = some y8 := hf 8 _ rfl
    have h9 : DataW.trod enc Try.prog W base (fun _ => true) held n 41 ((cs.drop 10).take (Try.prog.cellsOf 41)) = some y9 := hf 9 _ rfl
    subst hcs
    rw [cT] at h0
    rw [cU] at h1 h2
    rw [cS] at h3 h4
    rw [cI] at h5
    rw [cJ] at h6 h7
    rw [cB] at h8
    rw [cL] at h9
    simp only [List.drop_zero, List.drop_succ_cons, List.take_succ_cons, List.take_zero] at h0 h1 h2 h3 h4 h5 h6 h7 h8 h9
    obtain ⟨zs, m, _, _, _, hzl, hg⟩ := DataW.trod_struct Try.underlying24 h0
    match zs, hzl with
    | [z0, z1], _ =>
      have g0 : DataW.trod enc Try.prog W base (fun _ => true) held m 22 (([c0, c1].drop 0).take (Try.prog.cellsOf 22)) = some z0 := hg 0 _ rfl
      have g1 : DataW.trod enc Try.prog W base (fun _ => true) held m 22 (([c0, c1].drop 1).take (Try.prog.cellsOf 22)) = some z1 := hg 1 _ rfl
      rw [cU] at g0 g1
      simp only [List.drop_zero, List.drop_succ_cons, List.take_succ_cons, List.take_zero] at g0 g1
      obtain ⟨q0, e0, -, w0⟩ := DataW.trod_int Try.underlying22 g0
      obtain ⟨q1, e1, -, w1⟩ := DataW.trod_int Try.underlying22 g1
      obtain ⟨q2, e2, -, w2⟩ := DataW.trod_int Try.underlying22 h1
      obtain ⟨q3, e3, -, w3⟩ := DataW.trod_int Try.underlying22 h2
      obtain ⟨q4, e4, -, w4⟩ := DataW.trod_string Try.underlying9 h3
      obtain ⟨q5, e5, -, w5⟩ := DataW.trod_string Try.underlying9 h4
      obtain ⟨q6, e6, -, -⟩ := DataW.trod_int (k := .i64) (by kernel_rfl) h5
      obtain ⟨q7, e7, -, -⟩ := DataW.trod_int Try.underlying2 h6
      obtain ⟨q8, e8, -, -⟩ := DataW.trod_int Try.underlying2 h7
      obtain ⟨q9, e9, -⟩ := DataW.trod_bool Try.underlying4 h8
      obtain ⟨A, nt, ct, l, e10, hT⟩ := open_fT h9
      simp at e0 e1 e2 e3 e4 e5 e6 e7 e8 e9
      subst e0 e1 e2 e3 e4 e5 e6 e7 e8 e9 e10
      have r0 := u64_of w0
      have r1 := u64_of w1
      have r2 := u64_of w2
      have r3 := u64_of w3
      have u0 : q0.toNat < 18446744073709551616 := by omega
      have u1 : q1.toNat < 18446744073709551616 := by omega
      have u2 : q2.toNat < 18446744073709551616 := by omega
      have u3 : q3.toNat < 18446744073709551616 := by omega
      refine ⟨⟨q0.toNat, q1.toNat, q2.toNat, q3.toNat, q4, q5, q6, q7, q8, q9, l⟩, A, nt, ct, ?_, hT, ⟨u0, u1, u2, u3⟩, w4, w5⟩
      simp only [spC, Int.toNat_of_nonneg r0.1, Int.toNat_of_nonneg r1.1, Int.toNat_of_nonneg r2.1, Int.toNat_of_nonneg r3.1]
set_option maxRecDepth 100000 in
theorem open_inSp {H : Type} {enc : TypeId × Value → H} {W : World} {base b0 : Nat} {r : Reach} {held : Bool} {v : Value} {d : DataW H} {p : List MemPlace} (hv : Value.okWide Try.prog W r b0 43 v)
    (h : DataW.Trod enc Try.prog W base (fun _ => true) held 43 v d p) : ∃ (s : Sp) (A : Option Addr) (n c : Nat), v = spV s A n c ∧ InSp W s A n c := by
  obtain ⟨cs, rfl, hsz⟩ := okWide_struct Try.underlying43 hv
  have hC : Try.prog.cellsOf 43 = 11 := by kernel_rfl
  obtain ⟨c0, c1, c2, c3, c4, c5, c6, c7, c8, c9, c10, rfl⟩ := array11 (hsz.trans hC)
  obtain ⟨fuel, hf⟩ := h
  obtain ⟨s, A, n, c, e, hi⟩ := open_spCells hf
  refine ⟨s, A, n, c, ?_, hi⟩
  rw [spV]
  congr 1
  exact Array.toList_inj.1 e
end Go.Proofs.Ytlamebbolioljaa

/- What comes in: a list of spans. -/
namespace Go.Proofs.Ytlamebbolioljaa
open Go.ChangeShapes Go.WideShapes Go.ChangeAt Go.RowKit

theorem InSp.el {w : World} {s : Sp} {A : Option Addr} {n c : Nat} (h : InSp w s A n c) : ElOk w w.heap.size ⟨s, A, n, c⟩ :=
  ⟨h.tags.rd, h.tags.len, by have h1 := h.tags.cap; have h2 := h.tags.max; simp only [maxLen] at h2; show n ≤ _; omega⟩
/-- Spans that came in. -/
structure InSs (w : World) (A : Option Addr) (n c : Nat) (l : List El) : Prop where
  rd : RbS w w.heap.size A l
  len : l.length = n
  cap : n ≤ c
  max : c ≤ maxLen
  u64 : ∀ e ∈ l, e.s.U64
set_option maxRecDepth 100000 in
theorem open_inSs {H : Type} {enc : TypeId × Value → H} {W : World} {base b0 : Nat} {r : Reach} {held : Bool} {v : Value} {d : DataW H} {p : List MemPlace} (_hv : Value.okWide Try.prog W r b0 52 v)
    (h : DataW.Trod enc Try.prog W base (fun _ => true) held 52 v d p) : ∃ (A : Option Addr) (n c : Nat) (l : List El), v = .slice A n c ∧ InSs W A n c l := by
  obtain ⟨aa, len, cap, rfl⟩ := okWide_slice Try.underlying52 _hv
  obtain ⟨fuel, hf⟩ := h
  rcases Deep.open_slice Try.underlying52 hf with ⟨hcs, _⟩ | ⟨a, len, cap, m, n, D, Pl, hcs, hb, hl, hm, hmm, hx, hi⟩
  · simp [Value.cells] at hcs
    obtain ⟨rfl, rfl, rfl⟩ := hcs
    exact ⟨none, 0, 0, [], rfl, ⟨RbS.nil, rfl, Nat.le_refl _, by simp [maxLen], fun e he => by cases he⟩⟩
  · simp [Value.cells] at hcs
    obtain ⟨rfl, rfl, rfl⟩ := hcs
    rw [if_pos rfl] at hmm
    subst hmm
    have hC : Try.prog.cellsOf 43 = 11 := by kernel_rfl
    rw [hC] at hi
    obtain ⟨l, hll, hw⟩ := list_of (fun i (e : El) => (∀ j, j < 11 → W.cell? ((a.add (i * 11)).add j) = (elC e)[j]?) ∧ ElOk W W.heap.size e ∧ e.s.U64) len fun i hil => by
      obtain ⟨cs', hc, ht⟩ := hi i (by omega)
      obtain ⟨_, hcl, hat⟩ := World.cells?_some hc
      match cs', hcl with
      | [c0, c1, c2, c3, c4, c5, c6, c7, c8, c9, c10], _ =>
        obtain ⟨s, A, n, c, he, hin⟩ := open_spCells ht
        refine ⟨⟨s, A, n, c⟩, fun j hj => ?_, hin.el, hin.u64⟩
        have h1 := hat j hj
        rw [he] at h1
        exact h1
    refine ⟨some a, _, _, l, rfl, ⟨⟨?_, ?_⟩, hll, hl, hm, ?_⟩⟩
    · intro hne
      have hpos : 0 < l.length := by
        rcases Nat.eq_zero_or_pos l.length with h0 | h0
        · rw [List.eq_nil_of_length_eq_zero h0] at hne
          exact absurd rfl hne
        · exact h0
      obtain ⟨x0, hx0⟩ : ∃ x0, l[0]? = some x0 := ⟨_, List.getElem?_eq_getElem hpos⟩
      obtain ⟨b, off, spot⟩ := a
      have h0 := (hw 0 x0 hx0).1 0 (by omega)
      simp only [Nat.zero_mul, Addr.add] at h0
      have h1 : (elC x0)[0]? = some (.int .u64 x0.s.hi) := rfl
      rw [h1] at h0
      have hspot : spot = none := by simpa using World.cell?_spot h0
      subst hspot
      refine ⟨b, off, rfl, World.block_lt_of_cell? W ⟨b, off, none⟩ (by simpa using h0), fun j u hu => ?_⟩
      have hj : j < l.length * 11 := by
        have := (List.getElem?_eq_some_iff.1 hu).1
        rwa [els_length] at this
      obtain ⟨x1, hx1⟩ : ∃ x1, l[j / 11]? = some x1 := ⟨_, List.getElem?_eq_getElem (by omega)⟩
      have h2 := (hw (j / 11) x1 hx1).1 (j % 11) (Nat.mod_lt _ (by omega))
      have h3 := els_get hx1 (j % 11) (Nat.mod_lt _ (by omega))
      rw [Addr.add_lit, Addr.add_lit, Nat.add_assoc, show j / 11 * 11 + j % 11 = j from by omega] at h2
      rw [show j / 11 * 11 + j % 11 = j from by omega] at h3
      rw [h2, ← h3, hu]
    · intro e he
      obtain ⟨i, hi, hxi⟩ := List.getElem_of_mem he
      exact (hw i e (by rw [List.getElem?_eq_getElem hi, hxi])).2.1
    · intro e he
      obtain ⟨i, hi, hxi⟩ := List.getElem_of_mem he
      exact (hw i e (by rw [List.getElem?_eq_getElem hi, hxi])).2.2
end Go.Proofs.Ytlamebbolioljaa

/- The statement SchemaApart: the keys of unlike traces are unlike, but for names. The walk. -/
namespace Go.Proofs.Ytlamebbolioljaa
open Go.RowKit
theorem loadTr_shutA (a : Addr) : loadVar 24 a = loadK 24 a := rfl
attribute [local go_sem ↓] loadTr_shutA

theorem scWrA {A : Option Addr} {n c B : Nat} (l : List AE) (w : World) (h : RbA w B A l) (hn : l.length = n) (hB : B ≤ w.heap.size) : Calls Try.prog 18 #[.slice A n c] w (WrsPost w (wrOut l)) := by
  by_cases h0 : n = 0
  · subst h0
    rw [wrOut, if_pos hn]
    exact scWritesNone w c A
  · by_cases h1 : 32 < n
    · rw [wrOut, if_neg (by omega), if_pos (by omega)]
      exact scWritesLong w n c A h1
    · exact scWrites l w h hn hB (by omega) (by omega)
theorem raAdjust0 {A : Option Addr} {c : Nat} (w : World) : Calls Try.prog 22 #[.slice A 0 c] w (AdjPost w ([], 2)) := by
  go_enter Try.func22, Try.ntmps22
  go_wp2_with fail
  go_ret2
  exact AdjPost.no (Below.refl _ _)
theorem raAdjustL {A : Option Addr} {n c : Nat} (w : World) (h : 64 < n) : Calls Try.prog 22 #[.slice A n c] w (AdjPost w ([], 3)) := by
  have h0 : ((n : Int) == 0) = false := by simp; omega
  have h1 : decide ((64 : Int) < (n : Int)) = true := by simp; omega
  have h2 : (64 : Int) < (n : Int) := by omega
  go_enter Try.func22, Try.ntmps22
  go_wp2_with fail
  go_ret2
  exact AdjPost.no (Below.refl _ _)
theorem raAdjust {A : Option Addr} {c n B : Nat} (l : List El) (w : World) (hf : RbS w B A l) (hn : l.length = n) (hB : B ≤ w.heap.size) (hu : ∀ e ∈ l, e.s.U64) :
    Calls Try.prog 22 #[.slice A n c] w (AdjPost w (adjS (sps l))) := by
  by_cases h0 : n = 0
  · subst h0
    have : adjS (sps l) = ([], 2) := by rw [adjS, if_pos (by rw [sps_length, hn])]
    rw [this]
    exact raAdjust0 w
  · by_cases h1 : 64 < n
    · have : adjS (sps l) = ([], 3) := by rw [adjS, if_neg (by rw [sps_length, hn]; exact h0), if_pos (by rw [sps_length, hn]; exact h1)]
      rw [this]
      exact raAdjustL w h1
    · exact raAdjustM l w hf hn hB (by omega) (by omega) hu
theorem eqlTrc (W : World) (h1 l1 h2 l2 : Nat) : (binOp .eql 24 (.agg #[.int .u64 h1, .int .u64 l1]) (.agg #[.int .u64 h2, .int .u64 l2])).run Try.prog W = .ok (.bool (decide (h1 = h2) && decide (l1 = l2))) W := by
  by_cases e1 : h1 = h2
  · subst e1
    by_cases e2 : l1 = l2
    · subst e2
      simp only [decide_true, Bool.and_self]
      have e : ((h1 : Int) == (h1 : Int)) = true := by simp
      have e' : ((l1 : Int) == (l1 : Int)) = true := by simp
      go_simp
    · have e : ((l1 : Int) == (l2 : Int)) = false := by simp; omega
      simp only [e2, decide_false, Bool.and_false]
      go_simp
  · have e : ((h1 : Int) == (h2 : Int)) = false := by simp; omega
    simp only [e1, decide_false, Bool.false_and]
    go_simp
set_option maxRecDepth 100000 in
theorem loadK_trA {w : World} {b o : Nat} {e : AE} (h : ∀ j, j < 14 → w.cell? ⟨b, o + j, none⟩ = (aeC e)[j]?) : (loadK 24 ⟨b, o, none⟩).run Try.prog w = .ok (.agg #[.int .u64 e.a.s.hi, .int .u64 e.a.s.lo]) w :=
  run_loadVar_cells w _ _ ⟨b, o, none⟩ [.int .u64 e.a.s.hi, .int .u64 e.a.s.lo] Try.underlying24 rfl (by rfl) (fun j v hv => by
    have hj : j < 2 := (List.getElem?_eq_some_iff.1 hv).1
    rw [Addr.add_lit, h j (by omega)]
    match j, hj, hv with
    | 0, _, hv => exact hv
    | 1, _, hv => exact hv)
theorem keyTo_bytA (k : Ky) (l : List Int) : Byt (keyTo k l) := by
  refine Byt.append (fun x hx => by simp at hx; omega) (fun x hx => ?_)
  obtain ⟨p, -, hp⟩ := List.mem_flatMap.1 hx
  unfold partEnc at hp
  cases hi : (allOf k)[p.toNat]? with
  | none => rw [hi] at hp; simp at hp
  | some it =>
    rw [hi] at hp
    cases it with
    | inl n => exact ordEnc_byt n x hp
    | inr s => exact txtEnc_byt (nums_byt s) x hp
theorem wrOut_lenA {l : List AE} (h : wrOut l = (wrAll l, 0)) : (wrAll l).length ≤ 1024 := by
  unfold wrOut at h
  by_cases h1 : l.length = 0
  · rw [if_pos h1] at h; exact absurd (congrArg Prod.snd h) (by simp)
  rw [if_neg h1] at h
  by_cases h2 : 32 < l.length
  · rw [if_pos h2] at h; exact absurd (congrArg Prod.snd h) (by simp)
  rw [if_neg h2] at h
  by_cases h3 : wrErr l ≠ 0
  · rw [if_pos h3] at h; exact absurd (congrArg Prod.snd h) h3
  rw [if_neg h3] at h
  by_cases h4 : wrBad l = true
  · rw [if_pos h4] at h; exact absurd (congrArg Prod.snd h) (by simp)
  rw [if_neg h4] at h
  by_cases h5 : 1024 < (wrAll l).length
  · rw [if_pos h5] at h; exact absurd (congrArg Prod.snd h) (by simp)
  · omega
theorem write_byt {l : List AE} (hc : ∀ e ∈ l, adChk e.a = 0) (hu : ∀ e ∈ l, e.a.s.U64) {x : Wr} (hx : x ∈ wrAll l) : Byt x.key := by
  obtain ⟨k, hk, e⟩ := (wrAll_fine l).src x hx
  rw [e, pack_of (keyOf_fine hk hc hu).1]
  exact keyTo_bytA _ _
theorem keyStrs_snoc {P : List Wr} {i : Nat} {x : Wr} (h : P[i]? = some x) : keyStrs (P.take (i + 1)) = keyStrs (P.take i) ++ [strOfNums x.key] := by
  rw [take_snoc h]
  simp [keyStrs]
theorem keyStrs_new {P : List Wr} (hn : (keyStrs P).Nodup) {i : Nat} {x : Wr} (h : P[i]? = some x) : strOfNums x.key ∉ keyStrs (P.take i) := by
  have e : keyStrs P = keyStrs (P.take (i + 1)) ++ keyStrs (P.drop (i + 1)) := by
    rw [keyStrs, keyStrs, keyStrs, ← List.map_append, List.take_append_drop]
  rw [e, keyStrs_snoc h, List.nodup_append, List.nodup_append] at hn
  intro hm
  exact hn.1.2.2 _ hm _ (by simp) rfl
set_option maxRecDepth 100000 in
set_option maxHeartbeats 8000000 in
theorem schemaApart_walk (A : Option Addr) (n c : Nat) (la : List El) (A' : Option Addr) (n' c' : Nat) (lb : List El) (w : World) (h : InSs w A n c la) (h' : InSs w A' n' c' lb) :
    Calls Try.prog 6 #[.slice A n c, .slice A' n' c'] w fun e w' => e = .returned (.bool true) ∧ Below w.heap.size w w' := by
  obtain ⟨rx, hrx⟩ : ∃ rx, adjS (sps la) = rx := ⟨_, rfl⟩
  obtain ⟨ry, hry⟩ : ∃ ry, adjS (sps lb) = ry := ⟨_, rfl⟩
  have C1 : Hid (∀ W, Below w.heap.size w W → Calls Try.prog 22 #[.slice A n c] W (AdjPost W rx)) := Lib.hid fun W hW => by rw [← hrx]; exact raAdjust la W (h.rd.below hW) h.len hW.size h.u64
  have C2 : Hid (∀ W, Below w.heap.size w W → Calls Try.prog 22 #[.slice A' n' c'] W (AdjPost W ry)) := Lib.hid fun W hW => by rw [← hry]; exact raAdjust lb W (h'.rd.below hW) h'.len hW.size h'.u64
  have hfx : rx.2 = 0 → AdjFine (sps la) rx.1 := fun e => by rw [← hrx] at e ⊢; exact adjS_fine e
  have hfy : ry.2 = 0 → AdjFine (sps lb) ry.1 := fun e => by rw [← hry] at e ⊢; exact adjS_fine e
  obtain ⟨ex, hex⟩ : ∃ ex, rx.2 = ex := ⟨_, rfl⟩
  obtain ⟨ey, hey⟩ : ∃ ey, ry.2 = ey := ⟨_, rfl⟩
  rw [hex] at hfx
  rw [hey] at hfy
  have HFX := Lib.hid hfx
  have HFY := Lib.hid hfy
  unfold AdjPost at C1 C2
  rw [hex] at C1
  rw [hey] at C2
  clear hrx hry hfx hfy h h' hex hey
  go_enter Try.func6, Try.ntmps6
  go_upto_region 3 with (go_at_call 8; refine (scLives _).mono ?_; rintro e w1 ⟨rfl, hb1⟩)
  go_wp2_with fail
  refine (C1.out w1 hb1).mono ?_
  rintro e w2 ⟨Ax, cx, lx, rfl, hlx, rbx, hb2, hcx⟩
  have hb12 := hb1.trans (hb2.mono hb1.size)
  go_wp2_with fail
  refine (C2.out w2 hb12).mono ?_
  rintro e w3 ⟨Ay, cy, ly, rfl, hly, rby, hb3, hcy⟩
  have hb13 := hb12.trans (hb3.mono hb12.size)
  have rbx3 := rbx.bS hb3
  have hlxn : lx.length = rx.1.length := by rw [← hlx, List.length_map]
  have hlyn : ly.length = ry.1.length := by rw [← hly, List.length_map]
  obtain ⟨nx, hnx⟩ : ∃ nx, rx.1.length = nx := ⟨_, rfl⟩
  obtain ⟨ny, hny⟩ : ∃ ny, ry.1.length = ny := ⟨_, rfl⟩
  rw [hnx] at hlxn hcx ⊢
  rw [hny] at hlyn hcy ⊢
  have HLX := Lib.hid hlx
  have HLY := Lib.hid hly
  clear hnx hny hlx hly C1 C2 rbx hb12 hb1 hb2 hb3
  go_wp2_with fail
  by_cases g1 : 40 < n
  · have d1 : decide ((40 : Int) < (n : Int)) = true := by simp; omega
    have d1' : (40 : Int) < (n : Int) := by omega
    go_quiet (fail)
    go_wp2_with fail
    go_ret
    exact ⟨rfl, below_drewN hb13 _⟩
  have d1 : decide ((40 : Int) < (n : Int)) = false := by simp; omega
  have d1' : ¬ (40 : Int) < (n : Int) := by omega
  by_cases g2 : 40 < n'
  · have d2 : decide ((40 : Int) < (n' : Int)) = true := by simp; omega
    have d2' : (40 : Int) < (n' : Int) := by omega
    go_quiet (fail)
    go_wp2_with fail
    go_ret
    exact ⟨rfl, below_drewN hb13 _⟩
  have d2 : decide ((40 : Int) < (n' : Int)) = false := by simp; omega
  have d2' : ¬ (40 : Int) < (n' : Int) := by omega
  by_cases g3 : ex = 0
  · subst g3
    by_cases g4 : ey = 0
    · subst g4
      rw [show ((0 : Nat) : Int) = 0 from rfl]
      have fx := HFX.out rfl
      have fy := HFY.out rfl
      rw [← HLX.out] at fx
      rw [← HLY.out] at fy
      have FX := Lib.hid fx
      have FY := Lib.hid fy
      obtain ⟨e1, he1⟩ : ∃ e, lx[0]? = some e := by
        cases hq : lx with
        | nil => exact absurd (by rw [hq]; rfl) fx.ne
        | cons e l => exact ⟨e, rfl⟩
      obtain ⟨e2, he2⟩ : ∃ e, ly[0]? = some e := by
        cases hq : ly with
        | nil => exact absurd (by rw [hq]; rfl) fy.ne
        | cons e l => exact ⟨e, rfl⟩
      have p1 : 0 < nx := by rw [← hlxn]; exact (List.getElem?_eq_some_iff.1 he1).1
      have p2 : 0 < ny := by rw [← hlyn]; exact (List.getElem?_eq_some_iff.1 he2).1
      have p1' : (0 : Int) < (nx : Int) := by omega
      have p2' : (0 : Int) < (ny : Int) := by omega
      have hbd := below_drewN (Below.refl w3.heap.size w3) 1
      obtain ⟨b1, o1, q1, -, hc1, -⟩ := (rbx3.bS hbd).get he1
      obtain ⟨b2, o2, q2, -, hc2, -⟩ := (rby.bS hbd).get he2
      subst q1 q2
      have lt1 : (loadK 24 ⟨b1, o1, none⟩).run Try.prog w3.drew = .ok (.agg #[.int .u64 e1.a.s.hi, .int .u64 e1.a.s.lo]) w3.drew := loadK_trA fun j hj => by have := hc1 j hj; rwa [Nat.zero_mul, Nat.zero_add] at this
      have lt2 : (loadK 24 ⟨b2, o2, none⟩).run Try.prog w3.drew = .ok (.agg #[.int .u64 e2.a.s.hi, .int .u64 e2.a.s.lo]) w3.drew := loadK_trA fun j hj => by have := hc2 j hj; rwa [Nat.zero_mul, Nat.zero_add] at this
      obtain ⟨tb, htb⟩ : ∃ tb, (decide (e1.a.s.hi = e2.a.s.hi) && decide (e1.a.s.lo = e2.a.s.lo)) = tb := ⟨_, rfl⟩
      have nq := fun W => eqlTrc W e1.a.s.hi e1.a.s.lo e2.a.s.hi e2.a.s.lo
      simp only [htb] at nq
      have HTB := Lib.hid htb
      have HE1 := Lib.hid he1
      have HE2 := Lib.hid he2
      clear htb he1 he2 hc1 hc2 fx fy hbd
      go_region_held3 (fun w' => (loadK 24 ⟨b1, o1, none⟩).run Try.prog w' = .ok (.agg #[.int .u64 e1.a.s.hi, .int .u64 e1.a.s.lo]) w' ∧ (loadK 24 ⟨b2, o2, none⟩).run Try.prog w' = .ok (.agg #[.int .u64 e2.a.s.hi, .int .u64 e2.a.s.lo]) w')
        (exact ⟨lt1, lt2⟩) (fail)
      have hb14 := hb13.drew
      have rx4 := rbx3.bS (below_drewN (Below.refl w3.heap.size w3) 1)
      have ry4 := rby.bS (below_drewN (Below.refl w3.heap.size w3) 1)
      obtain ⟨w4, hw4⟩ : ∃ w4, w3.drew = w4 := ⟨_, rfl⟩
      have hw4' : w3.drewN 1 = w4 := hw4
      rw [hw4'] at rx4 ry4
      rw [hw4] at hb14 ⊢
      clear hw4 hw4' lt1 lt2 hb13 rbx3 rby
      cases tb with
      | true =>
        go_wp2_with fail
        go_ret
        exact ⟨rfl, hb14⟩
      | false =>
        have hnt : ¬ (e1.a.s.hi = e2.a.s.hi ∧ e1.a.s.lo = e2.a.s.lo) := fun ⟨q1, q2⟩ => by
          have := HTB.out
          rw [q1, q2] at this
          simp at this
        have HNT := Lib.hid hnt
        clear hnt nq
        have cw1 := scWrA (c := cx) lx w4 rx4 hlxn (Nat.le_refl _)
        rcases wrOut_adj FX.out with ho | ho
        · rw [ho] at cw1
          unfold WrsPost at cw1
          simp only [] at cw1
          have hpl := wrOut_lenA ho
          obtain ⟨P, hP⟩ : ∃ P, wrAll lx = P := ⟨_, rfl⟩
          rw [hP] at cw1 hpl
          have HP := Lib.hid hP
          obtain ⟨np, hnp⟩ : ∃ np, P.length = np := ⟨_, rfl⟩
          rw [hnp] at cw1 hpl
          have HNP := Lib.hid hnp
          clear hP hnp ho
          go_wp2_with fail
          refine cw1.mono ?_
          rintro e w5 ⟨A5, c5, rfl, rw5, hb5, hc5⟩
          have hb15 := hb14.trans (hb5.mono hb14.size)
          have cw2 := scWrA (c := cy) ly w5 (ry4.bS hb5) hlyn (Nat.le_refl _)
          clear cw1
          rcases wrOut_adj FY.out with ho | ho
          · rw [ho] at cw2
            unfold WrsPost at cw2
            simp only [] at cw2
            have hql := wrOut_lenA ho
            obtain ⟨Q, hQ⟩ : ∃ Q, wrAll ly = Q := ⟨_, rfl⟩
            rw [hQ] at cw2 hql
            have HQ := Lib.hid hQ
            obtain ⟨nq, hnq⟩ : ∃ nq, Q.length = nq := ⟨_, rfl⟩
            rw [hnq] at cw2 hql
            have HNQ := Lib.hid hnq
            clear hQ hnq ho
            go_wp2_with fail
            refine cw2.mono ?_
            rintro e w6 ⟨A6, c6, rfl, rw6, hb6, hc6⟩
            have hb16 := hb15.trans (hb6.mono hb15.size)
            have rw56 := rw5.belowS hb6
            have hmm := @run_makeMap Try.prog
            clear cw2 rw5 hb15 hb5 hb6 hb14
            rw [show ((0 : Nat) : Int) = 0 from rfl]
            go_wp2_with fail
            obtain ⟨gm, hgm⟩ : ∃ gm, w6.heap.size = gm := ⟨_, rfl⟩
            have hms := MpS.new w6
            have hal : Below w6.heap.size w6 (w6.alloc (.map #[] 0)) := (Below.refl _ w6).alloc (Nat.le_refl _) _
            rw [hgm] at hms ⊢
            have HGM := Lib.hid hgm
            have hgl : w6.heap.size ≤ gm := by omega
            have HND := Lib.hid (wrAll_fine lx).one
            rw [HP.out] at HND
            have HUX : Hid (∀ e ∈ lx, e.a.s.U64) := Lib.hid fun e he => (rx4.ok e he).ok.1
            have HUY : Hid (∀ e ∈ ly, e.a.s.U64) := Lib.hid fun e he => (ry4.ok e he).ok.1
            clear hgm
            go_loopw [14] (fun i_ wr => ∃ i : Nat, i ≤ np ∧ i_ = .int .i64 i ∧ MpS wr gm (keyStrs (P.take i)) ∧ Below w6.heap.size w6 wr) (fun i_ _ => np - (intOf i_).toNat)
            case atStart => exact ⟨0, by omega, rfl, hms, hal⟩
            case round =>
              obtain ⟨i, hi, rfl, hm, hbr⟩ := hrel
              by_cases hlt : i < np
              · have hlt' : (i : Int) < (np : Int) := by omega
                obtain ⟨x, hx⟩ : ∃ x, P[i]? = some x := ⟨_, List.getElem?_eq_getElem (by rw [HNP.out]; exact hlt)⟩
                obtain ⟨b5, o5, K1, k1, V1, v1, q5, hb5, -, ck, -, hkc, hrk, -⟩ := (rw56.belowS hbr).get hx
                subst q5
                have es : (convert 27 9 (.slice K1 x.key.length k1)).run Try.prog wr = .ok (.string (strOfNums x.key)) wr := hrk.str (P := Try.prog) Try.underlying27 Try.underlying5 Try.underlying9 k1
                have hnm := keyStrs_new HND.out hx
                have hlk : (Instr.lookup 55 (.map (some gm)) (.string (strOfNums x.key)) false).run Try.prog wr = .ok (.bool (hasS (keyStrs (P.take i)) (strOfNums x.key))) wr := run_lookS Try.underlying55 Try.underlying9 (zeroB wr) hm _
                rw [hasS_not.2 hnm] at hlk
                have hsn := keyStrs_snoc hx
                have HSN := Lib.hid hsn
                clear hsn hx hrk
                go_wp2_with (first
                  | (refine wpList_updS _ rfl (.tmp 94) (.tmp 100) (.const (.bool true)) 55 rfl 9 4 Try.underlying55 Try.underlying9 gm (keyStrs (P.take i)) rfl hm (strOfNums x.key) rfl rfl hnm ?_
                     rintro w7 hm7 hg7 -)
                  | fail)
                exact ⟨⟨i + 1, by omega, by go_num, by rw [HSN.out]; exact hm7, hbr.grown hg7 hbr.size (fun k hk => by cases hk; exact hgl)⟩, by simp only [intOf]; omega⟩
              · have hlt' : decide ((i : Int) < (np : Int)) = false := by simp; omega
                obtain rfl : i = np := by omega
                rw [List.take_of_length_le (by rw [HNP.out]; exact Nat.le_refl _)] at hm
                go_wp2_with fail
                obtain ⟨wM, hwM⟩ : ∃ wM, wM = wr := ⟨_, rfl⟩
                subst hwM
                have hbM := hbr
                have HAP : Hid (∀ y ∈ Q, hasS (keyStrs P) (strOfNums y.key) = true → y.key[0]? = some 110) := Lib.hid fun y hy hh => by
                  have hm1 := hasS_iff.1 hh
                  obtain ⟨a, ha, hak⟩ := List.mem_map.1 hm1
                  have ha' : a ∈ wrAll lx := by rw [HP.out]; exact ha
                  have hy' : y ∈ wrAll ly := by rw [HQ.out]; exact hy
                  have cx1 : ∀ e ∈ lx, adChk e.a = 0 := fun e he => FX.out.chk e.a (List.mem_map.2 ⟨e, he, rfl⟩)
                  have cy1 : ∀ e ∈ ly, adChk e.a = 0 := fun e he => FY.out.chk e.a (List.mem_map.2 ⟨e, he, rfl⟩)
                  have hak2 : a.key = y.key := by
                    have q1 := nums_strOf (write_byt cx1 HUX.out ha')
                    have q2 := nums_strOf (write_byt cy1 HUY.out hy')
                    rw [← q1, ← q2, hak]
                  exact keys_apart (fun e he => FX.out.tr e.a (List.mem_map.2 ⟨e, he, rfl⟩) e1.a (List.mem_map.2 ⟨e1, List.mem_of_getElem? HE1.out, rfl⟩)) (fun e he => FY.out.tr e.a (List.mem_map.2 ⟨e, he, rfl⟩) e2.a (List.mem_map.2 ⟨e2, List.mem_of_getElem? HE2.out, rfl⟩)) cx1 cy1 HUX.out HUY.out HNT.out ha' hy' hak2
                go_loopw [15] (fun j_ wr => ∃ j : Nat, j ≤ nq ∧ j_ = .int .i64 j ∧ MpS wr gm (keyStrs P) ∧ Below w6.heap.size w6 wr) (fun j_ _ => nq - (intOf j_).toNat)
                case atStart => exact ⟨0, by omega, rfl, hm, hbM⟩
                case round =>
                  obtain ⟨j, hj, rfl, hm2, hbr2⟩ := hrel
                  by_cases hjn : j < nq
                  · have hjn' : (j : Int) < (nq : Int) := by omega
                    obtain ⟨y, hy⟩ : ∃ y, Q[j]? = some y := ⟨_, List.getElem?_eq_getElem (by rw [HNQ.out]; exact hjn)⟩
                    obtain ⟨b6, o6, K1, k1, V1, v1, q6, hb6', -, ck, -, hkc, hrk, -⟩ := (rw6.belowS hbr2).get hy
                    subst q6
                    have es : (convert 27 9 (.slice K1 y.key.length k1)).run Try.prog wr = .ok (.string (strOfNums y.key)) wr := hrk.str (P := Try.prog) Try.underlying27 Try.underlying5 Try.underlying9 k1
                    have hlk : (Instr.lookup 55 (.map (some gm)) (.string (strOfNums y.key)) false).run Try.prog wr = .ok (.bool (hasS (keyStrs P) (strOfNums y.key))) wr := run_lookS Try.underlying55 Try.underlying9 (zeroB wr) hm2 _
                    have hap := HAP.out y (List.mem_of_getElem? hy)
                    obtain ⟨rb, hrb⟩ : ∃ rb, hasS (keyStrs P) (strOfNums y.key) = rb := ⟨_, rfl⟩
                    rw [hrb] at hlk hap
                    clear hrb hy
                    cases rb with
                    | false =>
                      clear hap hrk
                      go_wp2_with fail
                      exact ⟨⟨j + 1, by omega, by go_num, hm2, hbr2⟩, by simp only [intOf]; omega⟩
                    | true =>
                      have h110 := hap rfl
                      obtain ⟨kb, ko, eK, -, hcK⟩ := hrk (by intro e0; have := congrArg List.length e0; simp [bv] at this; rw [this] at h110; simp at h110)
                      subst eK
                      have c110 : wr.cell? ⟨kb, ko, none⟩ = some (.int .u8 110) := by
                        have := hcK 0 (.int .u8 110) (bv_get h110)
                        rwa [Nat.add_zero] at this
                      have hkl : 0 < y.key.length := (List.getElem?_eq_some_iff.1 h110).1
                      have hkl' : (0 : Int) < (y.key.length : Int) := by omega
                      obtain ⟨kl, hkl2⟩ : ∃ kl, y.key.length = kl := ⟨_, rfl⟩
                      rw [hkl2] at ck es hkl hkl' hkc
                      clear hap hrk hcK h110 hkl2
                      go_wp2_with fail
                      exact ⟨⟨j + 1, by omega, by go_num, hm2, hbr2⟩, by simp only [intOf]; omega⟩
                  · have hjn' : decide ((j : Int) < (nq : Int)) = false := by simp; omega
                    go_wp2_with fail
                    go_ret
                    exact ⟨rfl, hb16.trans (hbr2.mono hb16.size)⟩
          · rw [ho] at cw2
            go_wp2_with fail
            refine cw2.mono ?_
            rintro e w6 ⟨A6, c6, rfl, rw6, hb6, hc6⟩
            have hb16 := hb15.trans (hb6.mono hb15.size)
            go_wp2_with fail
            go_ret
            exact ⟨rfl, hb16⟩
        · rw [ho] at cw1
          go_wp2_with fail
          refine cw1.mono ?_
          rintro e w5 ⟨A5, c5, rfl, rw5, hb5, hc5⟩
          have hb15 := hb14.trans (hb5.mono hb14.size)
          have cw2 := scWrA (c := cy) ly w5 (ry4.bS hb5) hlyn (Nat.le_refl _)
          obtain ⟨R2, hR2⟩ : ∃ R2, wrOut ly = R2 := ⟨_, rfl⟩
          rw [hR2] at cw2
          rw [show ((3 : Nat) : Int) = 3 from rfl]
          go_wp2_with fail
          refine cw2.mono ?_
          rintro e w6 ⟨A6, c6, rfl, rw6, hb6, hc6⟩
          have hb16 := hb15.trans (hb6.mono hb15.size)
          go_wp2_with fail
          go_ret
          exact ⟨rfl, hb16⟩
    · have d4 : ((ey : Int) != 0) = true := by simp; omega
      have d4' : ((ey : Int) == 0) = false := by simp; omega
      go_quiet (fail)
      go_wp2_with fail
      go_ret
      exact ⟨rfl, below_drewN hb13 _⟩
  · have d3 : ((ex : Int) != 0) = true := by simp; omega
    have d3' : ((ex : Int) == 0) = false := by simp; omega
    go_quiet (fail)
    go_wp2_with fail
    go_ret
    exact ⟨rfl, below_drewN hb13 _⟩
end Go.Proofs.Ytlamebbolioljaa
