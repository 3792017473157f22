/- Keys, plain: what is packed is read again; keys are in the order of their parts. No program here. -/
import Derived.Test.YtlamebbolioljaaScI
import Derived.Test.YtlamebbolioljaaWireO
namespace Go.Proofs.Ytlamebbolioljaa
open Go.RowKit

theorem partsOf_kinds {k : Int} (h : (partsOf k).isSome = true) : k = 115 ∨ k = 116 ∨ k = 105 ∨ k = 111 ∨ k = 103 ∨ k = 100 ∨ k = 110 ∨ k = 101 := by
  unfold partsOf at h
  cases hf : kinds.find? (fun p => p.1 == k) with
  | none => rw [hf] at h; cases h
  | some x =>
    have hk := List.find?_some hf
    have hm := List.mem_of_find?_eq_some hf
    have hx : x.1 = k := by simpa using hk
    subst hx
    have : ∀ x ∈ kinds, x.1 = 115 ∨ x.1 = 116 ∨ x.1 = 105 ∨ x.1 = 111 ∨ x.1 = 103 ∨ x.1 = 100 ∨ x.1 = 110 ∨ x.1 = 101 := by decide
    exact this x hm
theorem kyChk_fine {k : Ky} (h : kyChk k = 0) : ∃ l, partsOf k.kind = some l ∧ kyFine k l = true := by
  unfold kyChk at h
  by_cases h1 : kyLong k = true
  · rw [if_pos h1] at h; omega
  rw [if_neg h1] at h
  cases hp : partsOf k.kind with
  | none => rw [hp] at h; simp at h
  | some l =>
    rw [hp] at h
    simp only at h
    by_cases h2 : kyFine k l = true
    · exact ⟨l, rfl, h2⟩
    · rw [if_neg h2] at h; omega
theorem ba_nil {s : ByteArray} (h : s.size = 0) : s = ⟨#[]⟩ := by
  apply ByteArray.ext
  apply Array.ext'
  exact List.eq_nil_of_length_eq_zero h
/-- What a key without a part has there. -/
structure Absent (k : Ky) (l : List Int) : Prop where
  trace : hasI l 0 = false → k.hi = 0 ∧ k.lo = 0
  id : hasI l 2 = false → k.id = 0
  service : hasI l 3 = false → k.service = ⟨#[]⟩
  name : hasI l 4 = false → k.name = ⟨#[]⟩
  value : hasI l 5 = false → k.value = ⟨#[]⟩
  start : hasI l 6 = false → k.start = 0
  number : hasI l 7 = false → k.number = 0
theorem absent_of {k : Ky} {l : List Int} (h : kyFine k l = true) : Absent k l := by
  unfold kyFine at h
  simp only [Bool.and_eq_true] at h
  obtain ⟨⟨⟨⟨⟨⟨⟨⟨⟨⟨⟨⟨-, -⟩, -⟩, -⟩, -⟩, h1⟩, h2⟩, h3⟩, h4⟩, h5⟩, h6⟩, h7⟩, -⟩ := h
  refine ⟨fun e => ?_, fun e => ?_, fun e => ba_nil ?_, fun e => ba_nil ?_, fun e => ba_nil ?_, fun e => ?_, fun e => ?_⟩
  · rw [e] at h1; simpa [trc0, trcB] using h1
  · rw [e] at h2; simpa using h2
  · rw [e] at h3
    cases hd : decide (k.service.size = 0) with
    | true => exact of_decide_eq_true hd
    | false => rw [hd] at h3; cases h3
  · rw [e] at h4
    cases hd : decide (k.name.size = 0) with
    | true => exact of_decide_eq_true hd
    | false => rw [hd] at h4; cases h4
  · rw [e] at h5
    rw [Bool.false_or] at h5
    exact of_decide_eq_true h5
  · rw [e] at h6; simpa using h6
  · rw [e] at h7; simpa using h7
theorem unp_num {p : Int} {ps rest : List Int} {k : Ky} {t x : Nat} (hp : isTxt p = false) (hx : x < 18446744073709551616) : unpGo (p :: ps) (ordEnc x ++ rest) k t = unpGo ps rest (putN k p x) (putT t p x) := by
  rw [unpGo_num hp (by rw [List.length_append, ordEnc_len]; omega)]
  have h1 : (ordEnc x ++ rest).take 8 = ordEnc x := by rw [← ordEnc_len x]; exact List.take_left
  have h2 : (ordEnc x ++ rest).drop 8 = rest := by rw [← ordEnc_len x]; exact List.drop_left
  rw [h1, h2, ordVal_enc hx]
theorem unp_txt {p : Int} {ps rest : List Int} {k : Ky} {t : Nat} {s : ByteArray} (hp : isTxt p = true) : unpGo (p :: ps) (txtEnc (nums s) ++ rest) k t = unpGo ps rest (putS k p s) t := by
  rw [unpGo_txt hp (txtOf_enc (nums s) rest), List.drop_left, strOf_nums]
theorem unpEnd_good {k k' : Ky} {t : Nat} (hk : ({ k' with start := (t : Int) } : Ky) = k) (ht : t ≤ 4611686018427387903) (hn : k'.kind = 100 → k'.number ≤ 4611686018427387903) (hc : kyChk k = 0) : unpEnd (.inl (k', t, [])) = (k, 0) := by
  unfold unpEnd
  simp only
  rw [if_neg (by rintro (h | h | h); exact h rfl; omega; have := hn h.1; omega), hk, if_neg (by omega)]
set_option maxRecDepth 100000 in
theorem unp_pack {k : Ky} (hu : k.U64) (hc : kyChk k = 0) : unpOf (keyTo k (kyParts k)) = (k, 0) := by
  obtain ⟨l, hl, hf⟩ := kyChk_fine hc
  obtain ⟨a1, a2, a3, a4, a5, a6⟩ := kyChk_ok hc
  have ab := absent_of hf
  have hnum : k.kind = 100 → k.number ≤ 4611686018427387903 := by
    intro e
    unfold kyFine at hf
    simp only [Bool.and_eq_true] at hf
    have := hf.2
    simpa [e] using this
  obtain ⟨u1, u2, u3, u4⟩ := hu
  have ht : k.start.toNat < 18446744073709551616 := by omega
  have hp := kyParts
  obtain ⟨kd, hi, lo, id, sv, nm, vl, nb, st⟩ := k
  simp only at *
  have hst : ((st.toNat : Nat) : Int) = st := by omega
  rcases partsOf_kinds a6 with rfl | rfl | rfl | rfl | rfl | rfl | rfl | rfl
  · have e : l = [0, 1, 2] := by have h : partsOf 115 = some [0, 1, 2] := rfl; rw [h] at hl; exact (Option.some.inj hl).symm
    subst e
    obtain rfl := ab.service rfl
    obtain rfl := ab.name rfl
    obtain rfl := ab.value rfl
    obtain rfl := ab.start rfl
    obtain rfl := ab.number rfl
    show unpEnd (unpGo [0, 1, 2] (ordEnc hi ++ (ordEnc lo ++ (ordEnc id ++ []))) { zeroKy with kind := 115 } 0) = _
    rw [unp_num rfl u1, unp_num rfl u2, unp_num rfl u3, unpGo]
    exact unpEnd_good rfl (show 0 ≤ 4611686018427387903 from Nat.zero_le _) hnum hc
  · have e : l = [0, 1] := by have h : partsOf 116 = some [0, 1] := rfl; rw [h] at hl; exact (Option.some.inj hl).symm
    subst e
    obtain rfl := ab.id rfl
    obtain rfl := ab.service rfl
    obtain rfl := ab.name rfl
    obtain rfl := ab.value rfl
    obtain rfl := ab.start rfl
    obtain rfl := ab.number rfl
    show unpEnd (unpGo [0, 1] (ordEnc hi ++ (ordEnc lo ++ [])) { zeroKy with kind := 116 } 0) = _
    rw [unp_num rfl u1, unp_num rfl u2, unpGo]
    exact unpEnd_good rfl (show 0 ≤ 4611686018427387903 from Nat.zero_le _) hnum hc
  · have e : l = [3, 6, 0, 1, 2] := by have h : partsOf 105 = some [3, 6, 0, 1, 2] := rfl; rw [h] at hl; exact (Option.some.inj hl).symm
    subst e
    obtain rfl := ab.name rfl
    obtain rfl := ab.value rfl
    obtain rfl := ab.number rfl
    show unpEnd (unpGo [3, 6, 0, 1, 2] (txtEnc (nums sv) ++ (ordEnc st.toNat ++ (ordEnc hi ++ (ordEnc lo ++ (ordEnc id ++ []))))) { zeroKy with kind := 105 } 0) = _
    rw [unp_txt rfl, unp_num rfl ht, unp_num rfl u1, unp_num rfl u2, unp_num rfl u3, unpGo]
    exact unpEnd_good (congrArg (fun x => (⟨105, hi, lo, id, sv, ⟨#[]⟩, ⟨#[]⟩, 0, x⟩ : Ky)) hst) (show st.toNat ≤ _ by omega) hnum hc
  · have e : l = [3, 4, 6, 0, 1, 2] := by have h : partsOf 111 = some [3, 4, 6, 0, 1, 2] := rfl; rw [h] at hl; exact (Option.some.inj hl).symm
    subst e
    obtain rfl := ab.value rfl
    obtain rfl := ab.number rfl
    show unpEnd (unpGo [3, 4, 6, 0, 1, 2] (txtEnc (nums sv) ++ (txtEnc (nums nm) ++ (ordEnc st.toNat ++ (ordEnc hi ++ (ordEnc lo ++ (ordEnc id ++ [])))))) { zeroKy with kind := 111 } 0) = _
    rw [unp_txt rfl, unp_txt rfl, unp_num rfl ht, unp_num rfl u1, unp_num rfl u2, unp_num rfl u3, unpGo]
    exact unpEnd_good (congrArg (fun x => (⟨111, hi, lo, id, sv, nm, ⟨#[]⟩, 0, x⟩ : Ky)) hst) (show st.toNat ≤ _ by omega) hnum hc
  · have e : l = [3, 4, 5, 6, 0, 1, 2] := by have h : partsOf 103 = some [3, 4, 5, 6, 0, 1, 2] := rfl; rw [h] at hl; exact (Option.some.inj hl).symm
    subst e
    obtain rfl := ab.number rfl
    show unpEnd (unpGo [3, 4, 5, 6, 0, 1, 2] (txtEnc (nums sv) ++ (txtEnc (nums nm) ++ (txtEnc (nums vl) ++ (ordEnc st.toNat ++ (ordEnc hi ++ (ordEnc lo ++ (ordEnc id ++ []))))))) { zeroKy with kind := 103 } 0) = _
    rw [unp_txt rfl, unp_txt rfl, unp_txt rfl, unp_num rfl ht, unp_num rfl u1, unp_num rfl u2, unp_num rfl u3, unpGo]
    exact unpEnd_good (congrArg (fun x => (⟨103, hi, lo, id, sv, nm, vl, 0, x⟩ : Ky)) hst) (show st.toNat ≤ _ by omega) hnum hc
  · have e : l = [3, 7, 6, 0, 1, 2] := by have h : partsOf 100 = some [3, 7, 6, 0, 1, 2] := rfl; rw [h] at hl; exact (Option.some.inj hl).symm
    subst e
    obtain rfl := ab.name rfl
    obtain rfl := ab.value rfl
    show unpEnd (unpGo [3, 7, 6, 0, 1, 2] (txtEnc (nums sv) ++ (ordEnc nb ++ (ordEnc st.toNat ++ (ordEnc hi ++ (ordEnc lo ++ (ordEnc id ++ [])))))) { zeroKy with kind := 100 } 0) = _
    rw [unp_txt rfl, unp_num rfl u4, unp_num rfl ht, unp_num rfl u1, unp_num rfl u2, unp_num rfl u3, unpGo]
    exact unpEnd_good (congrArg (fun x => (⟨100, hi, lo, id, sv, ⟨#[]⟩, ⟨#[]⟩, nb, x⟩ : Ky)) hst) (show st.toNat ≤ _ by omega) hnum hc
  · have e : l = [3, 4] := by have h : partsOf 110 = some [3, 4] := rfl; rw [h] at hl; exact (Option.some.inj hl).symm
    subst e
    obtain ⟨rfl, rfl⟩ := ab.trace rfl
    obtain rfl := ab.id rfl
    obtain rfl := ab.value rfl
    obtain rfl := ab.start rfl
    obtain rfl := ab.number rfl
    show unpEnd (unpGo [3, 4] (txtEnc (nums sv) ++ (txtEnc (nums nm) ++ [])) { zeroKy with kind := 110 } 0) = _
    rw [unp_txt rfl, unp_txt rfl, unpGo]
    exact unpEnd_good rfl (show 0 ≤ 4611686018427387903 from Nat.zero_le _) hnum hc
  · have e : l = [7, 3, 4] := by have h : partsOf 101 = some [7, 3, 4] := rfl; rw [h] at hl; exact (Option.some.inj hl).symm
    subst e
    obtain ⟨rfl, rfl⟩ := ab.trace rfl
    obtain rfl := ab.id rfl
    obtain rfl := ab.value rfl
    obtain rfl := ab.start rfl
    show unpEnd (unpGo [7, 3, 4] (ordEnc nb ++ (txtEnc (nums sv) ++ (txtEnc (nums nm) ++ []))) { zeroKy with kind := 101 } 0) = _
    rw [unp_num rfl u4, unp_txt rfl, unp_txt rfl, unpGo]
    exact unpEnd_good rfl (show 0 ≤ 4611686018427387903 from Nat.zero_le _) hnum hc
end Go.Proofs.Ytlamebbolioljaa
