/- Spans: the plain law: what is put into bytes is read again, and nothing else is. -/
import Derived.Test.YtlamebbolioljaaSpP
import Derived.Test.YtlamebbolioljaaSpB
namespace Go.Proofs.Ytlamebbolioljaa
open Go.RowKit

theorem ordVal_go : ∀ (l : List Int) (a : Nat), l.foldl (fun a c => a * 256 + c.toNat) a = a * 256 ^ l.length + ordVal l := by
  intro l
  induction l with
  | nil => intro a; simp [ordVal]
  | cons c l ih =>
    intro a
    rw [ordVal, List.foldl_cons, List.foldl_cons, ih, ih, List.length_cons, Nat.pow_succ, Nat.zero_mul, Nat.zero_add, Nat.add_mul, Nat.mul_assoc, Nat.mul_comm 256 (256 ^ l.length), Nat.add_assoc]
theorem ordVal_cons (c : Int) (l : List Int) : ordVal (c :: l) = c.toNat * 256 ^ l.length + ordVal l := by
  rw [ordVal, List.foldl_cons, Nat.zero_mul, Nat.zero_add, ordVal_go]
theorem ordTo_mod (x y : Nat) : ∀ k, x % 256 ^ k = y % 256 ^ k → ordTo x k = ordTo y k := by
  intro k
  induction k generalizing x y with
  | zero => intro _; rfl
  | succ k ih =>
    intro h
    have hp : 0 < 256 ^ k := Nat.pow_pos (by omega)
    have h1 : x / 256 ^ k % 256 = y / 256 ^ k % 256 := by
      have e1 := Nat.mod_mul (x := x) (a := 256 ^ k) (b := 256)
      have e2 := Nat.mod_mul (x := y) (a := 256 ^ k) (b := 256)
      rw [Nat.pow_succ, e1, e2] at h
      have l1 := Nat.mod_lt x hp
      have l2 := Nat.mod_lt y hp
      have d1 : (x % 256 ^ k + 256 ^ k * (x / 256 ^ k % 256)) / 256 ^ k = x / 256 ^ k % 256 := by rw [Nat.add_mul_div_left _ _ hp, Nat.div_eq_of_lt l1, Nat.zero_add]
      have d2 : (y % 256 ^ k + 256 ^ k * (y / 256 ^ k % 256)) / 256 ^ k = y / 256 ^ k % 256 := by rw [Nat.add_mul_div_left _ _ hp, Nat.div_eq_of_lt l2, Nat.zero_add]
      rw [← d1, ← d2, h]
    have h2 : x % 256 ^ k = y % 256 ^ k := by
      have := congrArg (· % 256 ^ k) h
      simpa [Nat.pow_succ, Nat.mod_mul_right_mod] using this
    rw [ordTo, ordTo, h1, ih x y h2]
theorem ordTo_back : ∀ (l : List Int), Byt l → ordTo (ordVal l) l.length = l := by
  intro l
  induction l with
  | nil => intro _; rfl
  | cons c l ih =>
    intro hb
    have h1 := ih (fun x hx => hb x (by simp [hx]))
    have hc := hb c (by simp)
    have hv := ordVal_lt l.length l (fun x hx => hb x (by simp [hx])) rfl
    have hp : 0 < 256 ^ l.length := Nat.pow_pos (by omega)
    rw [List.length_cons, ordVal_cons, ordTo]
    congr 1
    · rw [Nat.mul_comm, Nat.mul_add_div hp, Nat.div_eq_of_lt hv]
      omega
    · have : ordTo (c.toNat * 256 ^ l.length + ordVal l) l.length = ordTo (ordVal l) l.length := ordTo_mod _ _ _ (by rw [Nat.add_comm, Nat.add_mul_mod_self_right])
      exact this.trans h1
/-- At place p of zs stands l, and nothing else. -/
structure Stands (zs : List Int) (p : Nat) (l : List Int) : Prop where
  le : p ≤ zs.length
  eq : zs.drop p = l
theorem Stands.skip {zs a b : List Int} {p : Nat} (h : Stands zs p (a ++ b)) : Stands zs (p + a.length) b := by
  have hl := congrArg List.length h.eq
  rw [List.length_drop, List.length_append] at hl
  refine ⟨by have := h.le; omega, ?_⟩
  rw [← List.drop_drop, h.eq, List.drop_left]
theorem Stands.len {zs l : List Int} {p : Nat} (h : Stands zs p l) : zs.length - p = l.length := by
  rw [← List.length_drop, h.eq]
theorem Stands.self {zs : List Int} {p : Nat} (h : p ≤ zs.length) : Stands zs p (zs.drop p) := ⟨h, rfl⟩

/-! ### forward -/
theorem rdFix_stands {zs a t : List Int} {p n : Nat} (h : Stands zs p (a ++ t)) (hn : a.length = n) : rdFix zs p 0 n = (a, p + n, 0) := by
  have := h.len
  rw [List.length_append] at this
  rw [rdFix, if_neg (by simp), if_neg (by omega), h.eq, List.take_left' hn]
theorem rEight_stands {zs t : List Int} {p x : Nat} (h : Stands zs p (ordEnc x ++ t)) (hx : x < 18446744073709551616) : rEight zs ⟨p, 0, false⟩ = (x, ⟨p + 8, 0, false⟩) := by
  have hv : ordVal (ordEnc x) = x := by
    rw [ordEnc, ordTo_val, show (256 : Nat) ^ 8 = 18446744073709551616 from by decide, Nat.mod_eq_of_lt hx]
  rw [rEight, if_neg (by simp [RS.stop])]
  simp only [rdFix_stands h (ordEnc_len x)]
  rw [if_neg (by rw [ordEnc_len]; omega), hv]
theorem rText_stands {zs t : List Int} {p : Nat} {s : ByteArray} (h : Stands zs p (pie s ++ t)) (hs : s.size ≤ 1048576) : rText zs ⟨p, 0, false⟩ = (s, ⟨p + (pie s).length, 0, false⟩) := by
  have h1 : Stands zs p (numEnc s.size ++ (nums s ++ t)) := by rw [← List.append_assoc]; exact h
  have h2 := h1.skip
  have hso : shortOf (zs.drop p) = (s.size, (numEnc s.size).length, 0) := by rw [h1.eq]; exact shortOf_num _ _ (by omega)
  have hl := h2.len
  rw [List.length_append, nums_len] at hl
  have hp : rdPiece zs p 0 = (nums s, p + (numEnc s.size).length + s.size, 0) := by
    rw [rdPiece, if_neg (by simp), hso]
    simp only
    rw [if_neg (by simp), if_neg (by omega), if_neg (by omega), h2.eq, List.take_left' (nums_len s)]
  rw [rText, if_neg (by simp [RS.stop])]
  simp only [hp, strOf_nums]
  rw [pie, List.length_append, nums_len, Nat.add_assoc]
theorem rOne_stands {zs t : List Int} {p : Nat} {x most : Int} (h : Stands zs p ([x] ++ t)) : rOne most zs ⟨p, 0, false⟩ = (x, ⟨p + 1, 0, decide (most < x)⟩) := by
  rw [rOne, if_neg (by simp [RS.stop])]
  simp only [rdFix_stands h (n := 1) rfl]
theorem rShort_stands {zs t : List Int} {p x most : Nat} (h : Stands zs p (numEnc x ++ t)) (hx : x < 18446744073709551616) (hm : x ≤ most) : rShort most zs ⟨p, 0, false⟩ = (x, ⟨p + (numEnc x).length, 0, false⟩) := by
  have hso : shortOf (zs.drop p) = (x, (numEnc x).length, 0) := by rw [h.eq]; exact shortOf_num _ _ hx
  have hn : rdNum zs p 0 = (x, p + (numEnc x).length, 0) := by rw [rdNum, if_neg (by simp), hso]
  rw [rShort, if_neg (by simp [RS.stop])]
  simp only [hn]
  rw [if_neg (by omega)]
theorem prTags_stands {zs t : List Int} : ∀ (l acc : List Tg) (p : Nat), Stands zs p (l.flatMap tgEnc ++ t) → (∀ x ∈ l, x.key.size ≤ 128 ∧ x.val.size ≤ 128) → prTags zs l.length acc ⟨p, 0, false⟩ = (acc ++ l, ⟨p + (l.flatMap tgEnc).length, 0, false⟩) := by
  intro l
  induction l with
  | nil => intro acc p _ _; simp [prTags]
  | cons x l ih =>
    intro acc p h hs
    have hx := hs x (by simp)
    have e : (x :: l).flatMap tgEnc ++ t = pie x.key ++ (pie x.val ++ (l.flatMap tgEnc ++ t)) := by simp [tgEnc, List.flatMap_cons]
    rw [e] at h
    have h2 := h.skip
    have h3 := h2.skip
    rw [List.length_cons, prTags, rText_stands h (by omega)]
    simp only
    rw [rText_stands h2 (by omega)]
    simp only
    rw [ih _ _ h3 (fun y hy => hs y (by simp [hy]))]
    simp only [List.append_assoc, List.cons_append, List.nil_append, Prod.mk.injEq, true_and, RS.mk.injEq, and_true]
    rw [List.flatMap_cons, List.length_append, tgEnc, List.length_append]
    omega
/-- What is known of a span that may be. -/
theorem chk_facts {s : Sp} (h : spChk s = 0) : s.service.size ≤ 128 ∧ s.name.size ≤ 128 ∧ s.tags.length ≤ 16 ∧ (∀ t ∈ s.tags, t.key.size ≤ 128 ∧ t.val.size ≤ 128) ∧ 0 ≤ s.kind ∧ s.kind ≤ 5 ∧ 0 ≤ s.start ∧ s.start ≤ 4611686018427387903 ∧ 0 ≤ s.length ∧ s.length ≤ 4611686018427387903 := by
  have hlong : longB s = false := by
    cases h' : longB s with
    | false => rfl
    | true => rw [spChk, if_pos h'] at h; cases h
  have hhead : headB s = true := by
    cases h' : headB s with
    | true => rfl
    | false => rw [spChk, if_neg (by rw [hlong]; simp), h'] at h; simp at h
  simp only [headB, Bool.and_eq_true, Bool.or_eq_true, decide_eq_true_eq, ne_eq] at hhead
  obtain ⟨⟨⟨⟨⟨⟨⟨⟨⟨h0, h1⟩, h2⟩, h3⟩, h4⟩, h5⟩, h6⟩, h7⟩, h8⟩, h9⟩ := hhead
  simp only [longB, Bool.or_eq_false_iff, decide_eq_false_iff_not] at hlong
  obtain ⟨⟨⟨l1, l2⟩, l3⟩, l4⟩ := hlong
  refine ⟨by omega, by omega, by omega, fun t ht => ?_, h4, h5, h6, h8, h7, by omega⟩
  have := List.any_eq_false.1 l4 t ht
  simp [tgLong] at this
  exact this
theorem prAll_stands {s : Sp} (rest : List Int) (hc : spChk s = 0) (hu : s.U64) : prAll (spEnc s ++ rest) = (s, ⟨(spEnc s).length, 0, false⟩) := by
  obtain ⟨f1, f2, f3, f4, f5, f6, f7, f8, f9, f10⟩ := chk_facts hc
  obtain ⟨u1, u2, u3, u4⟩ := hu
  obtain ⟨fv, hfv⟩ : ∃ fv : Int, (if s.fails = true then 1 else 0) = fv := ⟨_, rfl⟩
  have hfb : (fv == 1) = s.fails ∧ fv ≤ 1 := by rw [← hfv]; cases s.fails <;> simp
  have hk : s.kind % 256 = s.kind := by omega
  have e : spEnc s ++ rest = ordEnc s.hi ++ (ordEnc s.lo ++ (ordEnc s.id ++ (ordEnc s.parent ++ (pie s.service ++ (pie s.name ++ ([s.kind] ++ (numEnc s.start.toNat ++ (numEnc s.length.toNat ++ ([fv] ++ (numEnc s.tags.length ++ (s.tags.flatMap tgEnc ++ rest))))))))))) := by
    rw [spEnc, spHead, hk, hfv]
    simp
  obtain ⟨zs, hzs⟩ : ∃ zs, spEnc s ++ rest = zs := ⟨_, rfl⟩
  rw [hzs]
  have s0 : Stands zs 0 (ordEnc s.hi ++ (ordEnc s.lo ++ (ordEnc s.id ++ (ordEnc s.parent ++ (pie s.service ++ (pie s.name ++ ([s.kind] ++ (numEnc s.start.toNat ++ (numEnc s.length.toNat ++ ([fv] ++ (numEnc s.tags.length ++ (s.tags.flatMap tgEnc ++ rest)))))))))))) := ⟨by omega, by rw [List.drop_zero, ← hzs, e]⟩
  have s1 := s0.skip
  rw [ordEnc_len] at s1
  have s2 := s1.skip
  rw [ordEnc_len] at s2
  have s3 := s2.skip
  rw [ordEnc_len] at s3
  have s4 := s3.skip
  rw [ordEnc_len] at s4
  have s5 := s4.skip
  have s6 := s5.skip
  have s7 := s6.skip
  rw [show [s.kind].length = 1 from rfl] at s7
  have s8 := s7.skip
  have s9 := s8.skip
  have s10 := s9.skip
  rw [show [fv].length = 1 from rfl] at s10
  have s11 := s10.skip
  have r0 := rEight_stands s0 u1
  have r1 := rEight_stands s1 u2
  have r2 := rEight_stands s2 u3
  have r3 := rEight_stands s3 u4
  have r4 := rText_stands s4 (by omega)
  have r5 := rText_stands s5 (by omega)
  have r6 := rOne_stands (most := 255) s6
  rw [decide_eq_false (by omega)] at r6
  have r7 := rShort_stands (most := 4611686018427387903) s7 (by omega) (by omega)
  have r8 := rShort_stands (most := 4611686018427387903) s8 (by omega) (by omega)
  have r9 := rOne_stands (most := 1) s9
  rw [decide_eq_false (by omega)] at r9
  have r10 := rShort_stands (most := 16) s10 (by omega) (by omega)
  have r11 := prTags_stands s.tags [] _ s11 f4
  have hlen : (spEnc s).length = 0 + 8 + 8 + 8 + 8 + (pie s.service).length + (pie s.name).length + 1 + (numEnc s.start.toNat).length + (numEnc s.length.toNat).length + 1 + (numEnc s.tags.length).length + (s.tags.flatMap tgEnc).length := by
    rw [spEnc, spHead]
    simp only [List.flatMap_cons, List.flatMap_nil, List.length_append, List.length_cons, List.length_nil, ordEnc_len]
    omega
  have hst : ((s.start.toNat : Nat) : Int) = s.start := by omega
  have hln : ((s.length.toNat : Nat) : Int) = s.length := by omega
  have hhead : prHead zs = (⟨s.hi, s.lo, s.id, s.parent, s.service, s.name, s.kind, s.start, s.length, s.fails, []⟩, s.tags.length, ⟨0 + 8 + 8 + 8 + 8 + (pie s.service).length + (pie s.name).length + 1 + (numEnc s.start.toNat).length + (numEnc s.length.toNat).length + 1 + (numEnc s.tags.length).length, 0, false⟩) := by
    simp only [prHead, r0, r1, r2, r3, r4, r5, r6, r7, r8, r9, r10, hst, hln, hfb.1]
  rw [prAll, hhead]
  simp only
  rw [r11, hlen]
  rfl
theorem prErr_stands {s : Sp} (rest : List Int) (hc : spChk s = 0) (hu : s.U64) : prErr (spEnc s ++ rest) = if rest = [] then 0 else 4 := by
  rw [prErr, prAll_stands rest hc hu, prErrOf]
  simp only
  rw [if_neg (by simp), if_neg (by simp), List.length_append]
  by_cases h : rest = []
  · subst h
    rw [if_neg (by simp), if_pos rfl, hc]
  · have : 0 < rest.length := List.length_pos_iff.2 h
    rw [if_pos (by omega), if_neg h]
theorem prSp_stands {s : Sp} (hc : spChk s = 0) (hu : s.U64) : prErr (spEnc s) = 0 ∧ prSp (spEnc s) = s := by
  have h1 := prErr_stands [] hc hu
  have h2 := prAll_stands [] hc hu
  rw [List.append_nil] at h1 h2
  rw [if_pos rfl] at h1
  exact ⟨h1, by rw [prSp, if_pos h1, h2]⟩
end Go.Proofs.Ytlamebbolioljaa
