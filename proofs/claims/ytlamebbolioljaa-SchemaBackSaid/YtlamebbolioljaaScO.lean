/- Keys, plain: the bytes of keys of one kind are in the order of their parts; a first part of a key's parts begins its bytes. No program here. -/
import Derived.Test.YtlamebbolioljaaScN
namespace Go.Proofs.Ytlamebbolioljaa
open Go.RowKit

theorem ltb_len : ∀ {a b : List Int} (r r' : List Int), a.length = b.length → ltb (a ++ r) (b ++ r') = if a = b then ltb r r' else ltb a b
  | [], [], r, r', _ => by simp
  | [], _ :: _, _, _, h => by simp at h
  | _ :: _, [], _, _, h => by simp at h
  | x :: a, y :: b, r, r', h => by
    have ih := ltb_len (a := a) (b := b) r r' (by simpa using h)
    simp only [List.cons_append, ltb, ih]
    by_cases e : x = y
    · subst e
      by_cases e2 : a = b
      · subst e2
        simp
      · simp [e2]
    · simp [e]
theorem ordEnc_inj {x y : Nat} (hx : x < 18446744073709551616) (hy : y < 18446744073709551616) : (ordEnc x = ordEnc y) = (x = y) := by
  apply propext
  refine ⟨fun h => ?_, fun h => by rw [h]⟩
  rw [← ordVal_enc hx, ← ordVal_enc hy, h]
theorem ltb_ordA {x y : Nat} (r r' : List Int) (hx : x < 18446744073709551616) (hy : y < 18446744073709551616) : ltb (ordEnc x ++ r) (ordEnc y ++ r') = if x = y then ltb r r' else decide (x < y) := by
  rw [ltb_len r r' (by rw [ordEnc_len, ordEnc_len]), ltb_ord hx hy]
  simp only [ordEnc_inj hx hy]
theorem nums_eq {s t : ByteArray} : (nums s = nums t) = (s = t) := propext ⟨nums_inj, fun h => by rw [h]⟩
theorem strLt_ltb (s t : ByteArray) : ltb (nums s) (nums t) = strLt s t := by
  have h := ltb_str (nums_byt s) (nums_byt t)
  rw [strOf_nums, strOf_nums] at h
  exact h.symm
theorem ltb_txtA {s t : ByteArray} (r r' : List Int) : ltb (txtEnc (nums s) ++ r) (txtEnc (nums t) ++ r') = if s = t then ltb r r' else strLt s t := by
  rw [ltb_enc r r' (nums_byt s) (nums_byt t), strLt_ltb]
  simp only [nums_eq]
theorem ltb_nil (a : List Int) : ltb a [] = false := by cases a <;> rfl

/-- Is a key's first unlike part below another one's? -/
def belowR (a b : Ky) : Bool :=
  if a.service ≠ b.service then strLt a.service b.service else if a.name ≠ b.name then strLt a.name b.name else if a.value ≠ b.value then strLt a.value b.value else
  if a.start ≠ b.start then decide (a.start < b.start) else if a.hi ≠ b.hi then decide (a.hi < b.hi) else if a.lo ≠ b.lo then decide (a.lo < b.lo) else decide (a.id < b.id)
def belowN (a b : Ky) : Bool := if a.number ≠ b.number then decide (a.number < b.number) else belowR a b
def belowK (a b : Ky) : Bool :=
  if a.kind = 101 then belowN a b else if a.kind = 100 then (if a.service ≠ b.service then strLt a.service b.service else belowN a b) else belowR a b
theorem iteF {p : Prop} [Decidable p] {a b : Bool} : (if ¬ p then a else b) = if p then b else a := by by_cases h : p <;> simp [h]
theorem decLt {x y : Nat} : (if x = y then false else decide (x < y)) = decide (x < y) := by by_cases h : x = y <;> simp [h]
set_option maxRecDepth 100000 in
theorem key_order {a b : Ky} (ha : a.U64) (hb : b.U64) (ca : kyChk a = 0) (cb : kyChk b = 0) (hk : a.kind = b.kind) : ltb (keyTo a (kyParts a)) (keyTo b (kyParts b)) = belowK a b := by
  obtain ⟨la, hla, hfa⟩ := kyChk_fine ca
  obtain ⟨lb, hlb, hfb⟩ := kyChk_fine cb
  obtain ⟨-, -, -, a4, a5, a6⟩ := kyChk_ok ca
  obtain ⟨-, -, -, b4, b5, -⟩ := kyChk_ok cb
  have aa := absent_of hfa
  have ab := absent_of hfb
  obtain ⟨u1, u2, u3, u4⟩ := ha
  obtain ⟨v1, v2, v3, v4⟩ := hb
  obtain ⟨kd, hi, lo, id, sv, nm, vl, nb, st⟩ := a
  obtain ⟨kd', hi', lo', id', sv', nm', vl', nb', st'⟩ := b
  simp only at *
  subst hk
  obtain ⟨s, rfl⟩ := Int.eq_ofNat_of_zero_le a4
  obtain ⟨s', rfl⟩ := Int.eq_ofNat_of_zero_le b4
  have hs : s < 18446744073709551616 := by omega
  have hs' : s' < 18446744073709551616 := by omega
  have est : ((s : Int) = (s' : Int)) = (s = s') := propext ⟨fun h => by omega, fun h => by omega⟩
  have elt : decide ((s : Int) < (s' : Int)) = decide (s < s') := by rw [Bool.eq_iff_iff, decide_eq_true_iff, decide_eq_true_iff]; omega
  have hll : la = lb := by rw [hla] at hlb; exact Option.some.inj hlb
  subst hll
  clear hlb hfa hfb ca cb a4 b4
  rcases partsOf_kinds a6 with rfl | rfl | rfl | rfl | rfl | rfl | rfl | rfl
  · have e : la = [0, 1, 2] := by have h : partsOf 115 = some [0, 1, 2] := rfl; rw [h] at hla; exact (Option.some.inj hla).symm
    subst e
    obtain rfl := aa.service rfl
    obtain rfl := aa.name rfl
    obtain rfl := aa.value rfl
    have es := aa.start rfl
    obtain rfl := aa.number rfl
    obtain rfl := ab.service rfl
    obtain rfl := ab.name rfl
    obtain rfl := ab.value rfl
    have es' := ab.start rfl
    obtain rfl := ab.number rfl
    simp only at es es'
    show ltb ([115] ++ (ordEnc hi ++ (ordEnc lo ++ (ordEnc id ++ [])))) ([115] ++ (ordEnc hi' ++ (ordEnc lo' ++ (ordEnc id' ++ [])))) = _
    rw [ltb_app, ltb_ordA _ _ u1 v1, ltb_ordA _ _ u2 v2, ltb_ordA _ _ u3 v3, ltb_nil, decLt]
    simp [belowK, belowR, es, es', iteF]
  · have e : la = [0, 1] := by have h : partsOf 116 = some [0, 1] := rfl; rw [h] at hla; exact (Option.some.inj hla).symm
    subst e
    obtain rfl := aa.id rfl
    obtain rfl := aa.service rfl
    obtain rfl := aa.name rfl
    obtain rfl := aa.value rfl
    have es := aa.start rfl
    obtain rfl := aa.number rfl
    obtain rfl := ab.id rfl
    obtain rfl := ab.service rfl
    obtain rfl := ab.name rfl
    obtain rfl := ab.value rfl
    have es' := ab.start rfl
    obtain rfl := ab.number rfl
    simp only at es es'
    show ltb ([116] ++ (ordEnc hi ++ (ordEnc lo ++ []))) ([116] ++ (ordEnc hi' ++ (ordEnc lo' ++ []))) = _
    rw [ltb_app, ltb_ordA _ _ u1 v1, ltb_ordA _ _ u2 v2, ltb_nil]
    simp [belowK, belowR, es, es', iteF]
  · have e : la = [3, 6, 0, 1, 2] := by have h : partsOf 105 = some [3, 6, 0, 1, 2] := rfl; rw [h] at hla; exact (Option.some.inj hla).symm
    subst e
    obtain rfl := aa.name rfl
    obtain rfl := aa.value rfl
    obtain rfl := aa.number rfl
    obtain rfl := ab.name rfl
    obtain rfl := ab.value rfl
    obtain rfl := ab.number rfl
    show ltb ([105] ++ (txtEnc (nums sv) ++ (ordEnc s ++ (ordEnc hi ++ (ordEnc lo ++ (ordEnc id ++ [])))))) ([105] ++ (txtEnc (nums sv') ++ (ordEnc s' ++ (ordEnc hi' ++ (ordEnc lo' ++ (ordEnc id' ++ [])))))) = _
    rw [ltb_app, ltb_txtA, ltb_ordA _ _ hs hs', ltb_ordA _ _ u1 v1, ltb_ordA _ _ u2 v2, ltb_ordA _ _ u3 v3, ltb_nil, decLt]
    simp [belowK, belowR, est, elt, iteF]
  · have e : la = [3, 4, 6, 0, 1, 2] := by have h : partsOf 111 = some [3, 4, 6, 0, 1, 2] := rfl; rw [h] at hla; exact (Option.some.inj hla).symm
    subst e
    obtain rfl := aa.value rfl
    obtain rfl := aa.number rfl
    obtain rfl := ab.value rfl
    obtain rfl := ab.number rfl
    show ltb ([111] ++ (txtEnc (nums sv) ++ (txtEnc (nums nm) ++ (ordEnc s ++ (ordEnc hi ++ (ordEnc lo ++ (ordEnc id ++ []))))))) ([111] ++ (txtEnc (nums sv') ++ (txtEnc (nums nm') ++ (ordEnc s' ++ (ordEnc hi' ++ (ordEnc lo' ++ (ordEnc id' ++ []))))))) = _
    rw [ltb_app, ltb_txtA, ltb_txtA, ltb_ordA _ _ hs hs', ltb_ordA _ _ u1 v1, ltb_ordA _ _ u2 v2, ltb_ordA _ _ u3 v3, ltb_nil, decLt]
    simp [belowK, belowR, est, elt, iteF]
  · have e : la = [3, 4, 5, 6, 0, 1, 2] := by have h : partsOf 103 = some [3, 4, 5, 6, 0, 1, 2] := rfl; rw [h] at hla; exact (Option.some.inj hla).symm
    subst e
    obtain rfl := aa.number rfl
    obtain rfl := ab.number rfl
    show ltb ([103] ++ (txtEnc (nums sv) ++ (txtEnc (nums nm) ++ (txtEnc (nums vl) ++ (ordEnc s ++ (ordEnc hi ++ (ordEnc lo ++ (ordEnc id ++ [])))))))) ([103] ++ (txtEnc (nums sv') ++ (txtEnc (nums nm') ++ (txtEnc (nums vl') ++ (ordEnc s' ++ (ordEnc hi' ++ (ordEnc lo' ++ (ordEnc id' ++ [])))))))) = _
    rw [ltb_app, ltb_txtA, ltb_txtA, ltb_txtA, ltb_ordA _ _ hs hs', ltb_ordA _ _ u1 v1, ltb_ordA _ _ u2 v2, ltb_ordA _ _ u3 v3, ltb_nil, decLt]
    simp [belowK, belowR, est, elt, iteF]
  · have e : la = [3, 7, 6, 0, 1, 2] := by have h : partsOf 100 = some [3, 7, 6, 0, 1, 2] := rfl; rw [h] at hla; exact (Option.some.inj hla).symm
    subst e
    obtain rfl := aa.name rfl
    obtain rfl := aa.value rfl
    obtain rfl := ab.name rfl
    obtain rfl := ab.value rfl
    show ltb ([100] ++ (txtEnc (nums sv) ++ (ordEnc nb ++ (ordEnc s ++ (ordEnc hi ++ (ordEnc lo ++ (ordEnc id ++ []))))))) ([100] ++ (txtEnc (nums sv') ++ (ordEnc nb' ++ (ordEnc s' ++ (ordEnc hi' ++ (ordEnc lo' ++ (ordEnc id' ++ []))))))) = _
    rw [ltb_app, ltb_txtA, ltb_ordA _ _ u4 v4, ltb_ordA _ _ hs hs', ltb_ordA _ _ u1 v1, ltb_ordA _ _ u2 v2, ltb_ordA _ _ u3 v3, ltb_nil, decLt]
    by_cases e1 : sv = sv'
    · simp [belowK, belowN, belowR, est, elt, iteF, e1]
    · simp [belowK, belowN, belowR, est, elt, iteF, e1]
  · have e : la = [3, 4] := by have h : partsOf 110 = some [3, 4] := rfl; rw [h] at hla; exact (Option.some.inj hla).symm
    subst e
    obtain ⟨rfl, rfl⟩ := aa.trace rfl
    obtain rfl := aa.id rfl
    obtain rfl := aa.value rfl
    have es := aa.start rfl
    obtain rfl := aa.number rfl
    obtain ⟨rfl, rfl⟩ := ab.trace rfl
    obtain rfl := ab.id rfl
    obtain rfl := ab.value rfl
    have es' := ab.start rfl
    obtain rfl := ab.number rfl
    simp only at es es'
    show ltb ([110] ++ (txtEnc (nums sv) ++ (txtEnc (nums nm) ++ []))) ([110] ++ (txtEnc (nums sv') ++ (txtEnc (nums nm') ++ []))) = _
    rw [ltb_app, ltb_txtA, ltb_txtA, ltb_nil]
    simp [belowK, belowR, es, es', iteF]
  · have e : la = [7, 3, 4] := by have h : partsOf 101 = some [7, 3, 4] := rfl; rw [h] at hla; exact (Option.some.inj hla).symm
    subst e
    obtain ⟨rfl, rfl⟩ := aa.trace rfl
    obtain rfl := aa.id rfl
    obtain rfl := aa.value rfl
    have es := aa.start rfl
    obtain ⟨rfl, rfl⟩ := ab.trace rfl
    obtain rfl := ab.id rfl
    obtain rfl := ab.value rfl
    have es' := ab.start rfl
    simp only at es es'
    show ltb ([101] ++ (ordEnc nb ++ (txtEnc (nums sv) ++ (txtEnc (nums nm) ++ [])))) ([101] ++ (ordEnc nb' ++ (txtEnc (nums sv') ++ (txtEnc (nums nm') ++ [])))) = _
    rw [ltb_app, ltb_ordA _ _ u4 v4, ltb_txtA, ltb_txtA, ltb_nil]
    simp [belowK, belowN, belowR, es, es', iteF]
theorem key_first (k : Ky) (n : Nat) : keyTo k ((kyParts k).take n) = (keyTo k (kyParts k)).take (keyTo k ((kyParts k).take n)).length ∧ (keyTo k ((kyParts k).take n)).length ≤ (keyTo k (kyParts k)).length := by
  have h : keyTo k (kyParts k) = keyTo k ((kyParts k).take n) ++ ((kyParts k).drop n).flatMap (partEnc k) := by
    unfold keyTo
    rw [List.append_assoc, ← List.flatMap_append, List.take_append_drop]
  rw [h]
  exact ⟨List.take_left.symm, by simp⟩
end Go.Proofs.Ytlamebbolioljaa
