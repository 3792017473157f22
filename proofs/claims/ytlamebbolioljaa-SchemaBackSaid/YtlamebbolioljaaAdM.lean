/- Adjusted spans: what they are, as they lie; schema.Span. -/
import Derived.Deep.RegionHeld3
import Derived.Deep.Cut
import Derived.Deep.CutRange
import Derived.Test.YtlamebbolioljaaScF
import Derived.Test.YtlamebbolioljaaSpD
namespace Go.Proofs.Ytlamebbolioljaa
open Go.RowKit
theorem loadSp_shut (a : Addr) : loadVar 43 a = loadK 43 a := rfl
attribute [local go_sem ↓] loadSp_shut

structure Ad where
  s : Sp
  up : Nat
  shift : Int
  flag : Int
abbrev adC (a : Ad) (A : Option Addr) (n c : Nat) : Array Value := #[.int .u64 a.s.hi, .int .u64 a.s.lo, .int .u64 a.s.id, .int .u64 a.s.parent, .string a.s.service, .string a.s.name, .int .i64 a.s.kind, .int .i64 a.s.start, .int .i64 a.s.length, .bool a.s.fails, .slice A n c, .int .u64 a.up, .int .i64 a.shift, .int .i64 a.flag]
abbrev adV (a : Ad) (A : Option Addr) (n c : Nat) : Value := .agg (adC a A n c)
/-- A shift, as it is put. -/
def shU (x : Int) : Nat := (x + 9223372036854775808).toNat
theorem shU_wrap {x : Int} (h0 : -9223372036854775808 ≤ x) (h1 : x ≤ 9223372036854775807) : IntKind.u64.wrap (IntKind.u64.wrap x + 9223372036854775808) = (shU x : Int) := by
  rw [IntKind.wrap_u64, IntKind.wrap_u64]
  unfold shU
  omega
theorem shU_lt {x : Int} (h1 : x ≤ 9223372036854775807) : shU x < 18446744073709551616 := by unfold shU; omega
def adEnc (a : Ad) : List Int := spEnc a.s ++ itsEnc [.inl a.up, .inl (shU a.shift)] ++ [a.flag % 256]
def adChk (a : Ad) : Nat := if spChk a.s ≠ 0 then spChk a.s else if a.flag < 0 ∨ 2 < a.flag then 2 else 0
def adOut (a : Ad) : List Int × Nat := if adChk a = 0 then (adEnc a, 0) else ([], adChk a)
def Ad.Ok (a : Ad) : Prop := a.s.U64 ∧ a.up < 18446744073709551616 ∧ -9223372036854775808 ≤ a.shift ∧ a.shift ≤ 9223372036854775807
theorem run_loadVar_cellsK {P : Program} (w : World) (ty : TypeId) (d : TypeDesc) (a : Addr) (xs : List Value) (hu : P.underlying ty = some d) (hd : (match d with | .struct _ | .array _ _ => true | _ => false) = true) (hi : (P.info? ty).map (·.size) = some xs.length)
    (hc : ∀ j v, xs[j]? = some v → w.cell? (a.add j) = some v) : (loadVar ty a).run P w = .ok (.agg xs.toArray) w := by
  have hl := run_loadCells_list (P := P) w a xs hc
  cases hq : P.info? ty with
  | none => simp [hq] at hi
  | some i =>
    have hs : i.size = xs.length := by simpa [hq] using hi
    have hagg : (isAgg ty).run P w = .ok true w := by
      unfold isAgg
      rw [Sem.run_bind, run_underlying hu w]
      cases d <;> simp_all
    simp [loadVar, Sem.run_bind, hagg, sizeOf, typeInfo, hq, hs, hl]
set_option maxRecDepth 100000 in
theorem loadK_adSp {w : World} {g n c : Nat} {a : Ad} {A : Option Addr} (h : Bk w g 45 (adC a A n c)) : (loadK 43 ⟨g, 0, none⟩).run Try.prog w = .ok (spV a.s A n c) w :=
  run_loadVar_cellsK w _ _ ⟨g, 0, none⟩ (spC a.s A n c).toList Try.underlying43 rfl (by rfl) (fun j v hv => by
    have hj : j < 11 := (List.getElem?_eq_some_iff.1 hv).1
    rw [Addr.add_lit, Nat.zero_add, h.cell j, ← hv]
    have h14 : ∀ j, j < 11 → (adC a A n c)[j]? = (spC a.s A n c).toList[j]? := by
      intro j hj
      have : j = 0 ∨ j = 1 ∨ j = 2 ∨ j = 3 ∨ j = 4 ∨ j = 5 ∨ j = 6 ∨ j = 7 ∨ j = 8 ∨ j = 9 ∨ j = 10 := by omega
      rcases this with rfl | rfl | rfl | rfl | rfl | rfl | rfl | rfl | rfl | rfl | rfl <;> rfl
    exact h14 j hj)
theorem step_appK {w : World} {ops : Array Oper} {o : Oper} {a : Act} {K : Act → World → Prop} {Q : Exit → Act → World → Prop} {E : Prop} (hgd : o.guard = none) (s x : Operand)
    (ho : o.op = .call { callee := .builtin .append, args := #[s, x], argTypes := #[27, 27] })
    (base : Nat) (v : Value) (n : Nat) (xs : List Int) (hs : a.eval s = v) (hown : w.ownsRow base 5 1 v n (bv xs))
    (B : Nat) (A : Option Addr) (m c : Nat) (news : List Int) (hx : a.eval x = .slice A m c) (hl : news.length = m) (hr : Rb w B A news)
    (hbytes : n + m ≤ 140737488355328) (hbase : base ≤ w.heap.size)
    (h : ∀ A' c' w', App base 5 1 w v w' (.slice A' (n + m) c') (n + m) (bv (xs ++ news)) → (A' = none → v = .slice none 0 0 ∧ m = 0) → K (a.put o.dst (.slice A' (n + m) c')) w') :
    if Region.wanted o (yielded ops a.tmps) = true then Oper.wp Try.prog o a w K Q else E := by
  have hw : Region.wanted o (yielded ops a.tmps) = true := by simp [Region.wanted, hgd]
  rw [if_pos hw]
  obtain ⟨i0, hi0, hz0, hz1, hz2⟩ := info_parts u8info
  refine wp_app w s x _ ho base 5 i0 _ 1 1 Try.underlying27 hi0 hz0 hz1 hz2 rfl (by omega) v n (bv xs) hs hown B A m c (bv news) hx (by rw [bv_length]; omega) hr (bv_one news) (by simp only [maxLen]; omega) (by omega) hbase ?_
  intro A' c' w' h1 h2 h3 h4
  rw [← bv_append] at h1
  exact h A' c' w' ((App.refl hown).step h1 h2 h3) h4
theorem Rd.block4 {w w' : World} {B b : Nat} {xs : List Value} (h : Rd w B (some ⟨b, 0, none⟩) xs) {row : Option Nat} (hg : w.grownBy w' row) (hB : B ≤ w.heap.size) (hr : row ≠ some b) : Rd w' B (some ⟨b, 0, none⟩) xs := fun hn => by
  obtain ⟨b', o, e, hb, hc⟩ := h hn
  cases e
  exact ⟨b, 0, rfl, hb, fun j u hu => (World.cell?_of_block (a := ⟨b, 0 + j, none⟩) (hg.block b (by omega) (fun e => hr e.symm))).trans (hc j u hu)⟩
theorem pie_small {s : ByteArray} (h : s.size ≤ 128) : (pie s).length ≤ 138 := by have := pie_len s (by omega); omega
theorem spEnc_small {s : Sp} (hc : spChk s = 0) : (spEnc s).length ≤ 100000 := by
  unfold spChk at hc
  by_cases h1 : longB s = true
  · rw [if_pos h1] at hc; omega
  rw [if_neg h1] at hc
  cases h2 : (headB s && tagsOk s.tags s.tags.length) with
  | false => rw [h2] at hc; simp at hc
  | true =>
  rw [Bool.and_eq_true] at h2
  have hh := h2.1
  unfold headB at hh
  simp only [Bool.and_eq_true, decide_eq_true_eq] at hh
  obtain ⟨⟨⟨⟨-, b1⟩, b2⟩, b3⟩, b4⟩ := hh
  simp only [longB, Bool.or_eq_true, decide_eq_true_eq, not_or, Bool.not_eq_true] at h1
  obtain ⟨⟨⟨c1, c2⟩, c3⟩, c4⟩ := h1
  have d1 := pie_small (s := s.service) (by omega)
  have d2 := pie_small (s := s.name) (by omega)
  have d3 := numEnc_u64 (x := s.start.toNat) (by omega)
  have d4 := numEnc_u64 (x := s.length.toNat) (by omega)
  have d5 := numEnc_u64 (x := s.tags.length) (by omega)
  have d6 : ∀ l : List Tg, (∀ x ∈ l, tgLong x = false) → (l.flatMap tgEnc).length ≤ l.length * 276 := by
    intro l
    induction l with
    | nil => intro _; simp
    | cons x l ih =>
      intro h
      have h1 := ih fun y hy => h y (by simp [hy])
      have h2 := h x (by simp)
      simp only [tgLong, Bool.or_eq_false_iff, decide_eq_false_iff_not] at h2
      have h3 := pie_small (s := x.key) (by omega)
      have h4 := pie_small (s := x.val) (by omega)
      simp only [List.flatMap_cons, List.length_append, tgEnc, List.length_cons]
      omega
  have d7 := d6 s.tags (fun x hx => by
    have := List.any_eq_false.1 c4 x hx
    simpa using this)
  have d8 : ([s.hi, s.lo, s.id, s.parent].flatMap ordEnc).length = 32 := by simp [ordEnc_len]
  simp only [spEnc, spHead, List.length_append, List.length_cons, List.length_nil]
  omega
set_option maxRecDepth 100000 in
set_option maxHeartbeats 4000000 in
theorem scSpan {At : Option Addr} {ct B nt : Nat} (a : Ad) (w : World) (hf : RbT w B At a.s.tags) (hB : B ≤ w.heap.size) (hnt : a.s.tags.length = nt) (hnl : nt ≤ 9223372036854775807) (hu : a.Ok) :
    Calls Try.prog 24 #[adV a At nt ct] w (KeyMade w (adOut a)) := by
  have hb0 : Below w.heap.size w (w.alloc (.cells (adC a At nt ct) 45)) := (Below.refl _ w).alloc (Nat.le_refl _) _
  have bk := Bk.new w 45 (adC a At nt ct)
  have hf1 := Rd.alloc hf hB (.cells (adC a At nt ct) 45)
  obtain ⟨w1, hw1⟩ : ∃ w1, w.alloc (.cells (adC a At nt ct) 45) = w1 := ⟨_, rfl⟩
  rw [hw1] at hb0 bk hf1
  obtain ⟨g, hg⟩ : ∃ g, w.heap.size = g := ⟨_, rfl⟩
  rw [hg] at bk
  have HW := Lib.hid hw1
  have HG := Lib.hid hg
  have HB0 := Lib.hid hb0
  have la := loadK_adSp bk
  have hB1 : B ≤ w1.heap.size := Nat.le_trans hB hb0.size
  have ca := spAppend2 (A0 := none) (c0 := 0) (B := B) (n := 0) (zs := []) (ct := ct) a.s w1 Rd.nil hB1 (by simp) (fun _ => ⟨rfl, rfl⟩) rfl hf1 hnt hnl hu.1
  obtain ⟨r, hr⟩ : ∃ r, adOut a = r := ⟨_, rfl⟩
  rw [hr]
  obtain ⟨q, hq⟩ : ∃ q, spChk a.s = q := ⟨_, rfl⟩
  unfold AppPost2 at ca
  rw [hq] at ca
  simp only [List.nil_append] at ca
  have CA := Lib.hid ca
  clear hw1 hg hb0 hf1 ca hf hB hB1
  by_cases hq0 : q = 0
  case neg =>
    have HR : Hid (r = ([], q)) := by
      rw [← hr, adOut, adChk, hq, if_pos hq0, if_neg hq0]
      exact Lib.hid rfl
    have d : ((q : Int) != 0) = true := by rw [bne_iff_ne]; omega
    have HQ := Lib.hid hq0
    clear hr hq hq0
    go_enter Try.func24, Try.ntmps24
    go_upto_region 1 with fail
    rw [HW.out, HG.out]
    go_wp2_with fail
    refine CA.out.mono ?_
    rintro e w2 ⟨hb2, h2⟩
    rcases h2 with ⟨-, rfl⟩ | ⟨h, -⟩
    · go_wp2
      go_ret2
      exact .no HR.out rfl (HB0.out.trans (hb2.mono HB0.out.size))
    · exact absurd h HQ.out
  case pos =>
    subst hq0
    have HQ := Lib.hid hq
    go_enter Try.func24, Try.ntmps24
    go_upto_region 1 with fail
    rw [HW.out, HG.out]
    go_wp2_with fail
    refine CA.out.mono ?_
    rintro e w2 ⟨hb2, h2⟩
    rcases h2 with ⟨h, -⟩ | ⟨-, A2, c2, rfl, ho2, hc2⟩
    · exact absurd rfl h
    have bk2 := bk.bS hb2
    have hbw := HB0.out.trans (hb2.mono HB0.out.size)
    obtain ⟨e0, he0⟩ : ∃ e0, spEnc a.s = e0 := ⟨_, rfl⟩
    rw [he0] at ho2 hc2 ⊢
    have k13 : w2.cell? ⟨g, 13, none⟩ = some (.int .i64 a.flag) := bk2.cell 13
    have hcs : (a.flag < 0 ∧ r = ([], 2)) ∨ (0 ≤ a.flag ∧ 2 < a.flag ∧ r = ([], 2)) ∨ (0 ≤ a.flag ∧ a.flag ≤ 2 ∧ r = (adEnc a, 0)) := by
      have h0 : ¬ (0 : Nat) ≠ 0 := by simp
      by_cases h1 : a.flag < 0
      · have hc : adChk a = 2 := by rw [adChk, hq, if_neg h0, if_pos (Or.inl h1)]
        exact .inl ⟨h1, by rw [← hr, adOut, hc, if_neg (by omega)]⟩
      · by_cases h2 : 2 < a.flag
        · have hc : adChk a = 2 := by rw [adChk, hq, if_neg h0, if_pos (Or.inr h2)]
          exact .inr (.inl ⟨by omega, h2, by rw [← hr, adOut, hc, if_neg (by omega)]⟩)
        · have hc : adChk a = 0 := by rw [adChk, hq, if_neg h0, if_neg (by omega)]
          exact .inr (.inr ⟨by omega, by omega, by rw [← hr, adOut, if_pos hc]⟩)
    have HE0 := Lib.hid he0
    have HGL := Lib.hid bk.lt
    have HW12 := Lib.hid hb2.size
    clear la hb2 hr hq CA bk he0
    rcases hcs with ⟨h1, he⟩ | ⟨h1, h2, he⟩ | ⟨h1, h2, he⟩
    · have HR := Lib.hid he
      clear he
      go_wp2
      go_ret2
      exact .no HR.out rfl hbw
    · have HR := Lib.hid he
      clear he
      go_wp2
      go_ret2
      exact .no HR.out rfl hbw
    · have HR := Lib.hid he
      clear he
      have hgl : g < w2.heap.size := bk2.lt
      have cells : ∀ W : World, Bk W g 45 (adC a At nt ct) → W.cell? ⟨g, 11, none⟩ = some (.int .u64 a.up) ∧ W.cell? ⟨g, 12, none⟩ = some (.int .i64 a.shift) ∧ W.cell? ⟨g, 13, none⟩ = some (.int .i64 a.flag) := fun W h => ⟨h.cell 11, h.cell 12, h.cell 13⟩
      obtain ⟨p0, p1, p2⟩ := cells w2.drew bk2.drew
      obtain ⟨p3, p4, p5⟩ := cells _ (bk2.alloc (.cells #[.iface 22 (.int .u64 a.up), .iface 22 (.int .u64 (IntKind.u64.wrap (IntKind.u64.wrap a.shift + 9223372036854775808)))] 20)).drew
      obtain ⟨p6, p7, p8⟩ := cells _ (bk2.alloc (.cells #[.int .u8 (a.flag)] 5)).drew
      obtain ⟨p9, p10, p11⟩ := cells _ ((bk2.alloc (.cells #[.iface 22 (.int .u64 a.up), .iface 22 (.int .u64 (IntKind.u64.wrap (IntKind.u64.wrap a.shift + 9223372036854775808)))] 20)).alloc (.cells #[.int .u8 (a.flag)] 5)).drew
      obtain ⟨p12, p13, p14⟩ := cells _ ((bk2.alloc (.cells #[.int .u8 (a.flag)] 5)).alloc (.cells #[.iface 22 (.int .u64 a.up), .iface 22 (.int .u64 (IntKind.u64.wrap (IntKind.u64.wrap a.shift + 9223372036854775808)))] 20)).drew
      obtain ⟨y, hy⟩ : ∃ y, shU a.shift = y := ⟨_, rfl⟩
      have hsh := shU_wrap hu.2.2.1 hu.2.2.2
      rw [hy] at hsh
      have hylt : y < 18446744073709551616 := by rw [← hy]; exact shU_lt hu.2.2.2
      have hl2 : Rd (w2.alloc (.cells #[.iface 22 (.int .u64 a.up), .iface 22 (.int .u64 (IntKind.u64.wrap (IntKind.u64.wrap a.shift + 9223372036854775808)))] 20)) (w2.heap.size + 1) (some ⟨w2.heap.size, 0, none⟩) (ifs [.inl a.up, .inl y]) := by
        show Rd _ _ _ [.iface 22 (.int .u64 a.up), .iface 22 (.int .u64 (y : Int))]
        rw [← hsh]
        exact Rd.lit w2 #[.iface 22 (.int .u64 a.up), .iface 22 (.int .u64 (IntKind.u64.wrap (IntKind.u64.wrap a.shift + 9223372036854775808)))] _
      have hl12 : Rd ((w2.alloc (.cells #[.int .u8 (a.flag)] 5)).alloc (.cells #[.iface 22 (.int .u64 a.up), .iface 22 (.int .u64 (IntKind.u64.wrap (IntKind.u64.wrap a.shift + 9223372036854775808)))] 20)) (w2.heap.size + 1 + 1) (some ⟨w2.heap.size + 1, 0, none⟩) (ifs [.inl a.up, .inl y]) := by
        show Rd _ _ _ [.iface 22 (.int .u64 a.up), .iface 22 (.int .u64 (y : Int))]
        rw [← hsh]
        exact Rd.lit' (w := w2.alloc (.cells #[.int .u8 (a.flag)] 5)) (cs := #[.iface 22 (.int .u64 a.up), .iface 22 (.int .u64 (IntKind.u64.wrap (IntKind.u64.wrap a.shift + 9223372036854775808)))]) (by simp)
      have hfine : ∀ x ∈ ([.inl a.up, .inl y] : List It), itFine x := by
        intro x hx
        simp at hx
        rcases hx with rfl | rfl
        · exact hu.2.1
        · exact hylt
      have hsep : ∀ k, Sep A2 (some ⟨w2.heap.size + k, 0, none⟩) := fun k x b hx hb e => by
        subst hx
        cases hb
        have h1 := (ho2.lt x.block rfl).2
        have h2 : x.block = w2.heap.size + k := e
        omega
      have hg1 : g < w1.heap.size := HGL.out
      have hw12 : w1.heap.size ≤ w2.heap.size := HW12.out
      have hrowg : (Value.slice A2 e0.length c2).ownBlock ≠ some g := fun e => by have h := (ho2.lt g e).1; omega
      have hrown : ∀ k, (Value.slice A2 e0.length c2).ownBlock ≠ some (w2.heap.size + k) := fun k e => by have h := (ho2.lt _ e).2; omega
      have hel : e0.length ≤ 1099511620000 := by rw [← HE0.out]; have := spEnc_small HQ.out; omega
      have cp1 := scPack (l := [.inl a.up, .inl y]) (k := 2) (c1 := 2) (w2.alloc (.cells #[.iface 22 (.int .u64 a.up), .iface 22 (.int .u64 (IntKind.u64.wrap (IntKind.u64.wrap a.shift + 9223372036854775808)))] 20)).drew (show (w2.alloc (.cells #[.iface 22 (.int .u64 a.up), .iface 22 (.int .u64 (IntKind.u64.wrap (IntKind.u64.wrap a.shift + 9223372036854775808)))] 20)).drew.ownsRow w1.heap.size 5 1 (.slice A2 e0.length c2) e0.length (bv e0) from ho2.alloc _) (show w1.heap.size ≤ (w2.alloc (.cells #[.iface 22 (.int .u64 a.up), .iface 22 (.int .u64 (IntKind.u64.wrap (IntKind.u64.wrap a.shift + 9223372036854775808)))] 20)).heap.size by first | (simp; done) | (simp; omega)) hl2.drew (show w2.heap.size + 1 ≤ (w2.alloc (.cells #[.iface 22 (.int .u64 a.up), .iface 22 (.int .u64 (IntKind.u64.wrap (IntKind.u64.wrap a.shift + 9223372036854775808)))] 20)).heap.size by simp) (hsep 0) hfine rfl (by omega) hel
      have cp2 := scPack (l := [.inl a.up, .inl y]) (k := 2) (c1 := 2) ((w2.alloc (.cells #[.iface 22 (.int .u64 a.up), .iface 22 (.int .u64 (IntKind.u64.wrap (IntKind.u64.wrap a.shift + 9223372036854775808)))] 20)).alloc (.cells #[.int .u8 (a.flag)] 5)).drew (show ((w2.alloc (.cells #[.iface 22 (.int .u64 a.up), .iface 22 (.int .u64 (IntKind.u64.wrap (IntKind.u64.wrap a.shift + 9223372036854775808)))] 20)).alloc (.cells #[.int .u8 (a.flag)] 5)).drew.ownsRow w1.heap.size 5 1 (.slice A2 e0.length c2) e0.length (bv e0) from (ho2.alloc _).alloc _) (show w1.heap.size ≤ ((w2.alloc (.cells #[.iface 22 (.int .u64 a.up), .iface 22 (.int .u64 (IntKind.u64.wrap (IntKind.u64.wrap a.shift + 9223372036854775808)))] 20)).alloc (.cells #[.int .u8 (a.flag)] 5)).heap.size by first | (simp; done) | (simp; omega)) (hl2.alloc (by first | (simp; done) | (simp; omega)) _).drew (show w2.heap.size + 1 ≤ ((w2.alloc (.cells #[.iface 22 (.int .u64 a.up), .iface 22 (.int .u64 (IntKind.u64.wrap (IntKind.u64.wrap a.shift + 9223372036854775808)))] 20)).alloc (.cells #[.int .u8 (a.flag)] 5)).heap.size by first | (simp; done) | (simp; omega)) (hsep 0) hfine rfl (by omega) hel
      have cp3 := scPack (l := [.inl a.up, .inl y]) (k := 2) (c1 := 2) ((w2.alloc (.cells #[.int .u8 (a.flag)] 5)).alloc (.cells #[.iface 22 (.int .u64 a.up), .iface 22 (.int .u64 (IntKind.u64.wrap (IntKind.u64.wrap a.shift + 9223372036854775808)))] 20)).drew (show ((w2.alloc (.cells #[.int .u8 (a.flag)] 5)).alloc (.cells #[.iface 22 (.int .u64 a.up), .iface 22 (.int .u64 (IntKind.u64.wrap (IntKind.u64.wrap a.shift + 9223372036854775808)))] 20)).drew.ownsRow w1.heap.size 5 1 (.slice A2 e0.length c2) e0.length (bv e0) from (ho2.alloc _).alloc _) (show w1.heap.size ≤ ((w2.alloc (.cells #[.int .u8 (a.flag)] 5)).alloc (.cells #[.iface 22 (.int .u64 a.up), .iface 22 (.int .u64 (IntKind.u64.wrap (IntKind.u64.wrap a.shift + 9223372036854775808)))] 20)).heap.size by first | (simp; done) | (simp; omega)) hl12.drew (show w2.heap.size + 1 + 1 ≤ ((w2.alloc (.cells #[.int .u8 (a.flag)] 5)).alloc (.cells #[.iface 22 (.int .u64 a.up), .iface 22 (.int .u64 (IntKind.u64.wrap (IntKind.u64.wrap a.shift + 9223372036854775808)))] 20)).heap.size by simp) (hsep 1) hfine rfl (by omega) hel
      have hz4l : (e0 ++ itsEnc [.inl a.up, .inl y]).length ≤ 1099511620016 := by
        rw [List.length_append]
        have : (itsEnc [.inl a.up, .inl y]).length = 16 := by simp [itsEnc, itEnc, ordEnc_len]
        omega
      have HADE : Hid (adEnc a = e0 ++ itsEnc [.inl a.up, .inl y] ++ [a.flag]) := by rw [adEnc, HE0.out, hy, show a.flag % 256 = a.flag from by omega]; exact Lib.hid rfl
      obtain ⟨z4, hz4⟩ : ∃ z4, e0 ++ itsEnc [.inl a.up, .inl y] = z4 := ⟨_, rfl⟩
      rw [hz4] at cp1 cp2 cp3 hz4l
      have HAD : Hid (adEnc a = z4 ++ [a.flag]) := by rw [HADE.out, hz4]; exact Lib.hid rfl
      have CP1 := Lib.hid cp1
      have CP2 := Lib.hid cp2
      have CP3 := Lib.hid cp3
      have hr21 : Rb ((w2.alloc (.cells #[.iface 22 (.int .u64 a.up), .iface 22 (.int .u64 (IntKind.u64.wrap (IntKind.u64.wrap a.shift + 9223372036854775808)))] 20)).alloc (.cells #[.int .u8 (a.flag)] 5)) (w2.heap.size + 1 + 1) (some ⟨w2.heap.size + 1, 0, none⟩) [a.flag] := Rd.lit' (w := w2.alloc (.cells #[.iface 22 (.int .u64 a.up), .iface 22 (.int .u64 (IntKind.u64.wrap (IntKind.u64.wrap a.shift + 9223372036854775808)))] 20)) (cs := #[.int .u8 (a.flag)]) (by first | (simp; done) | (simp; omega))
      have hr12 : Rb ((w2.alloc (.cells #[.int .u8 (a.flag)] 5)).alloc (.cells #[.iface 22 (.int .u64 a.up), .iface 22 (.int .u64 (IntKind.u64.wrap (IntKind.u64.wrap a.shift + 9223372036854775808)))] 20)) (w2.heap.size + 1) (some ⟨w2.heap.size, 0, none⟩) [a.flag] := (Rd.lit w2 #[.int .u8 (a.flag)] 5).alloc (by first | (simp; done) | (simp; omega)) (.cells #[.iface 22 (.int .u64 a.up), .iface 22 (.int .u64 (IntKind.u64.wrap (IntKind.u64.wrap a.shift + 9223372036854775808)))] 20)
      have HR21 := Lib.hid hr21
      have HR12 := Lib.hid hr12
      have HBW := Lib.hid hbw
      have HO2 := Lib.hid ho2
      have HBK := Lib.hid bk2
      clear cells hy hsh hylt hl2 hl12 hfine hsep cp1 cp2 cp3 hz4 HADE hr21 hr12 hbw ho2 bk2 hel
      have hwru : IntKind.u8.wrap a.flag = a.flag := by rw [IntKind.wrap_u8]; omega
      go_upto_region 6 with fail
      go_region_held3 (fun w' => w'.cell? ⟨g, 11, none⟩ = some (.int .u64 a.up) ∧ w'.cell? ⟨g, 12, none⟩ = some (.int .i64 a.shift) ∧ w'.cell? ⟨g, 13, none⟩ = some (.int .i64 a.flag)) (go_keep)
        (first
          | (go_at_call 34
             first
             | ((with_reducible refine CP1.out.mono ?_)
                rintro e w4 ⟨A4, c4, rfl, h4, -⟩
                have bk4 := ((HBK.out.alloc (.cells #[.iface 22 (.int .u64 a.up), .iface 22 (.int .u64 (IntKind.u64.wrap (IntKind.u64.wrap a.shift + 9223372036854775808)))] 20)).drew).grown h4.grown (Ne.symm hrowg)
                have hg4 : (w2.alloc (.cells #[.iface 22 (.int .u64 a.up), .iface 22 (.int .u64 (IntKind.u64.wrap (IntKind.u64.wrap a.shift + 9223372036854775808)))] 20)).grownBy w4 (Value.slice A2 e0.length c2).ownBlock := ⟨h4.grown.os, h4.grown.tape, h4.grown.output, h4.grown.size, h4.grown.block⟩
                have hb4 : Below w1.heap.size w2 w4 := (((Below.refl _ w2).alloc hw12 (.cells #[.iface 22 (.int .u64 a.up), .iface 22 (.int .u64 (IntKind.u64.wrap (IntKind.u64.wrap a.shift + 9223372036854775808)))] 20)).trans (grown_below hg4 (show w1.heap.size ≤ (w2.alloc (.cells #[.iface 22 (.int .u64 a.up), .iface 22 (.int .u64 (IntKind.u64.wrap (IntKind.u64.wrap a.shift + 9223372036854775808)))] 20)).heap.size by first | (simp; done) | (simp; omega)) (fun b hb => (HO2.out.lt b hb).1)))
                obtain ⟨s0, s1, s2⟩ : w4.cell? ⟨g, 11, none⟩ = some (.int .u64 a.up) ∧ w4.cell? ⟨g, 12, none⟩ = some (.int .i64 a.shift) ∧ w4.cell? ⟨g, 13, none⟩ = some (.int .i64 a.flag) := ⟨bk4.cell 11, bk4.cell 12, bk4.cell 13⟩
                obtain ⟨s3, s4, s5⟩ : (w4.alloc (.cells #[.int .u8 (a.flag)] 5)).cell? ⟨g, 11, none⟩ = some (.int .u64 a.up) ∧ (w4.alloc (.cells #[.int .u8 (a.flag)] 5)).cell? ⟨g, 12, none⟩ = some (.int .i64 a.shift) ∧ (w4.alloc (.cells #[.int .u8 (a.flag)] 5)).cell? ⟨g, 13, none⟩ = some (.int .i64 a.flag) := ⟨(bk4.alloc (.cells #[.int .u8 (a.flag)] 5)).cell 11, (bk4.alloc (.cells #[.int .u8 (a.flag)] 5)).cell 12, (bk4.alloc (.cells #[.int .u8 (a.flag)] 5)).cell 13⟩)
             | ((with_reducible refine CP2.out.mono ?_)
                rintro e w4 ⟨A4, c4, rfl, h4, -⟩
                have bk4 := (((HBK.out.alloc (.cells #[.iface 22 (.int .u64 a.up), .iface 22 (.int .u64 (IntKind.u64.wrap (IntKind.u64.wrap a.shift + 9223372036854775808)))] 20)).alloc (.cells #[.int .u8 (a.flag)] 5)).drew).grown h4.grown (Ne.symm hrowg)
                have hg4 : ((w2.alloc (.cells #[.iface 22 (.int .u64 a.up), .iface 22 (.int .u64 (IntKind.u64.wrap (IntKind.u64.wrap a.shift + 9223372036854775808)))] 20)).alloc (.cells #[.int .u8 (a.flag)] 5)).grownBy w4 (Value.slice A2 e0.length c2).ownBlock := ⟨h4.grown.os, h4.grown.tape, h4.grown.output, h4.grown.size, h4.grown.block⟩
                have hb4 : Below w1.heap.size w2 w4 := ((((Below.refl _ w2).alloc hw12 (.cells #[.iface 22 (.int .u64 a.up), .iface 22 (.int .u64 (IntKind.u64.wrap (IntKind.u64.wrap a.shift + 9223372036854775808)))] 20)).alloc (by first | (simp; done) | (simp; omega)) (.cells #[.int .u8 (a.flag)] 5)).trans (grown_below hg4 (show w1.heap.size ≤ ((w2.alloc (.cells #[.iface 22 (.int .u64 a.up), .iface 22 (.int .u64 (IntKind.u64.wrap (IntKind.u64.wrap a.shift + 9223372036854775808)))] 20)).alloc (.cells #[.int .u8 (a.flag)] 5)).heap.size by first | (simp; done) | (simp; omega)) (fun b hb => (HO2.out.lt b hb).1)))
                have hr9 : Rb w4 (w2.heap.size + 1 + 1) (some ⟨w2.heap.size + 1, 0, none⟩) [a.flag] := Rd.block4 HR21.out hg4 (by first | (simp; done) | (simp; omega)) (hrown 1)
                obtain ⟨s0, s1, s2⟩ : w4.cell? ⟨g, 11, none⟩ = some (.int .u64 a.up) ∧ w4.cell? ⟨g, 12, none⟩ = some (.int .i64 a.shift) ∧ w4.cell? ⟨g, 13, none⟩ = some (.int .i64 a.flag) := ⟨bk4.cell 11, bk4.cell 12, bk4.cell 13⟩)
             | ((with_reducible refine CP3.out.mono ?_)
                rintro e w4 ⟨A4, c4, rfl, h4, -⟩
                have bk4 := (((HBK.out.alloc (.cells #[.int .u8 (a.flag)] 5)).alloc (.cells #[.iface 22 (.int .u64 a.up), .iface 22 (.int .u64 (IntKind.u64.wrap (IntKind.u64.wrap a.shift + 9223372036854775808)))] 20)).drew).grown h4.grown (Ne.symm hrowg)
                have hg4 : ((w2.alloc (.cells #[.int .u8 (a.flag)] 5)).alloc (.cells #[.iface 22 (.int .u64 a.up), .iface 22 (.int .u64 (IntKind.u64.wrap (IntKind.u64.wrap a.shift + 9223372036854775808)))] 20)).grownBy w4 (Value.slice A2 e0.length c2).ownBlock := ⟨h4.grown.os, h4.grown.tape, h4.grown.output, h4.grown.size, h4.grown.block⟩
                have hb4 : Below w1.heap.size w2 w4 := ((((Below.refl _ w2).alloc hw12 (.cells #[.int .u8 (a.flag)] 5)).alloc (by first | (simp; done) | (simp; omega)) (.cells #[.iface 22 (.int .u64 a.up), .iface 22 (.int .u64 (IntKind.u64.wrap (IntKind.u64.wrap a.shift + 9223372036854775808)))] 20)).trans (grown_below hg4 (show w1.heap.size ≤ ((w2.alloc (.cells #[.int .u8 (a.flag)] 5)).alloc (.cells #[.iface 22 (.int .u64 a.up), .iface 22 (.int .u64 (IntKind.u64.wrap (IntKind.u64.wrap a.shift + 9223372036854775808)))] 20)).heap.size by first | (simp; done) | (simp; omega)) (fun b hb => (HO2.out.lt b hb).1)))
                have hr9 : Rb w4 (w2.heap.size + 1) (some ⟨w2.heap.size, 0, none⟩) [a.flag] := Rd.block4 HR12.out hg4 (by first | (simp; done) | (simp; omega)) (hrown 0)
                obtain ⟨s0, s1, s2⟩ : w4.cell? ⟨g, 11, none⟩ = some (.int .u64 a.up) ∧ w4.cell? ⟨g, 12, none⟩ = some (.int .i64 a.shift) ∧ w4.cell? ⟨g, 13, none⟩ = some (.int .i64 a.flag) := ⟨bk4.cell 11, bk4.cell 12, bk4.cell 13⟩))
          | (refine step_appK (by rfl) (.tmp 35) (.tmp 39) (by rfl) w1.heap.size (.slice A4 z4.length c4) z4.length z4 (by rfl) (h4.own.alloc (.cells #[.int .u8 (a.flag)] 5)) _ (some ⟨w4.heap.size, 0, none⟩) 1 1 [a.flag] (by rfl) (by rfl) (Rd.lit w4 #[.int .u8 (a.flag)] _) (by omega) (by have := hb4.size; simp; omega) ?_
             intro A9 c9 w9 happ9 _
             have hg9 : (Value.slice A4 z4.length c4).ownBlock ≠ some g := fun e => by have h := (h4.own.lt g e).1; omega
             have bk9 := (bk4.alloc (.cells #[.int .u8 (a.flag)] 5)).grown happ9.grown (Ne.symm hg9)
             obtain ⟨u0, u1, u2⟩ : w9.cell? ⟨g, 11, none⟩ = some (.int .u64 a.up) ∧ w9.cell? ⟨g, 12, none⟩ = some (.int .i64 a.shift) ∧ w9.cell? ⟨g, 13, none⟩ = some (.int .i64 a.flag) := ⟨bk9.cell 11, bk9.cell 12, bk9.cell 13⟩
             have hfin := ((App.refl h4.own).alloc (.cells #[.int .u8 (a.flag)] 5)).trans happ9)
          | (refine step_appK (by rfl) (.tmp 35) (.tmp 39) (by rfl) w1.heap.size (.slice A4 z4.length c4) z4.length z4 (by rfl) h4.own _ _ 1 1 [a.flag] (by rfl) (by rfl) hr9 (by omega) (by have := hb4.size; omega) ?_
             intro A9 c9 w9 happ9 _
             have hg9 : (Value.slice A4 z4.length c4).ownBlock ≠ some g := fun e => by have h := (h4.own.lt g e).1; omega
             have bk9 := bk4.grown happ9.grown (Ne.symm hg9)
             obtain ⟨u0, u1, u2⟩ : w9.cell? ⟨g, 11, none⟩ = some (.int .u64 a.up) ∧ w9.cell? ⟨g, 12, none⟩ = some (.int .i64 a.shift) ∧ w9.cell? ⟨g, 13, none⟩ = some (.int .i64 a.flag) := ⟨bk9.cell 11, bk9.cell 12, bk9.cell 13⟩
             have hfin := happ9)
          | fail)
      all_goals
        go_wp2
        go_ret2
        have hlo : ∀ b, (Value.slice A4 z4.length c4).ownBlock = some b → w1.heap.size ≤ b := fun b hb => (h4.own.lt b hb).1
        have hb9 : Below w1.heap.size w2 w9 := hb4.trans (hfin.below (Nat.le_trans hw12 hb4.size) hlo)
        have hw01 := HB0.out.size
        refine ⟨A9, c9, by rw [HR.out, HAD.out, List.length_append]; rfl, by rw [HR.out, HAD.out]; exact hfin.rd, HBW.out.trans (hb9.mono hw01), by rw [HR.out, HAD.out, List.length_append]; exact hfin.cap, fun e => ?_, fun x e => ?_⟩
        · subst e
          rcases hfin.own.2 with ⟨_, h3⟩ | ⟨_, _, _, h2, _⟩
          · omega
          · injection h2 with h2; cases h2
        · subst e
          exact Nat.le_trans hw01 (hfin.own.lt x.block rfl).1
end Go.Proofs.Ytlamebbolioljaa
