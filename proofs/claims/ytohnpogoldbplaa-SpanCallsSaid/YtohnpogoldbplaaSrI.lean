/- Spans, the document's answer: Append. -/
import Derived.Deep.Cut
import Derived.Deep.RegionHeld3
import Derived.Test.YtohnpogoldbplaaSrB
import Derived.Test.YtohnpogoldbplaaSrH
import Derived.Test.YtohnpogoldbplaaSpD
namespace Go.Proofs.Ytohnpogoldbplaa
open Go.RowKit

/-- What the document's Append hands back. -/
def AppPostT (base : Nat) (w : World) (A0 : Option Addr) (n c0 : Nat) (zs : List Int) (s : Sp) (e : Ending) (w' : World) : Prop :=
  (spChk s ≠ 0 ∧ e = .returned (.tuple #[.slice none 0 0, .int .i64 (spChk s)]) ∧ Below w.heap.size w w') ∨
  (spChk s = 0 ∧ ∃ A' c' m, e = .returned (.tuple #[.slice A' m c', .int .i64 0]) ∧ m = (zs ++ spEnc s).length ∧ AppT base 5 1 w (.slice A0 n c0) w' (.slice A' m c') m (bv (zs ++ spEnc s)))

theorem app_bk {base n m c c' : Nat} {A A' : Option Addr} {w w' : World} {xs : List Value} {g : Nat} {t : TypeId} {cs : Array Value} (h : AppT base 5 1 w (.slice A n c) w' (.slice A' m c') m xs) (bk : Bk w g t cs) (hg : (Value.slice A n c).ownBlock ≠ some g) : Bk w' g t cs :=
  bk.grown h.grown (fun e => hg e.symm)

set_option maxRecDepth 100000 in
set_option maxHeartbeats 8000000 in
theorem rAppend {A0 At : Option Addr} {c0 ct B n nt base : Nat} {zs : List Int} (s : Sp) (w : World) (ho : ownsT w base 5 1 (.slice A0 n c0) n (bv zs)) (hbase : base ≤ w.heap.size) (hz : n ≤ 1099511627776) (hB : B ≤ base)
    (hf : RbT w B At s.tags) (hnt : s.tags.length = nt) (hnl : nt ≤ 9223372036854775807) (hu : s.U64) :
    Calls Try.prog 15 #[.slice A0 n c0, spV s At nt ct] w (AppPostT base w A0 n c0 zs s) := by
  have hb0 : Below w.heap.size w (w.alloc (.cells (spC s At nt ct) 27)) := (Below.refl _ w).alloc (Nat.le_refl _) _
  have hf1 := Rd.alloc hf (Nat.le_trans hB hbase) (.cells (spC s At nt ct) 27)
  have ha1 := (AppT.refl ho).alloc (.cells (spC s At nt ct) 27)
  have bk := Bk.new w 27 (spC s At nt ct)
  have hs1 : (w.alloc (.cells (spC s At nt ct) 27)).heap.size = w.heap.size + 1 := by simp
  obtain ⟨w1, hw1⟩ : ∃ w1, w.alloc (.cells (spC s At nt ct) 27) = w1 := ⟨_, rfl⟩
  rw [hw1] at hb0 hf1 ha1 bk hs1
  have HW := Lib.hid hw1
  have hc1 := rCheck (c := ct) s w1 hf1 hnt (by omega) hnl
  obtain ⟨k, hk⟩ : ∃ k, spChk s = k := ⟨_, rfl⟩
  rw [hk] at hc1
  have HC := Lib.hid hc1
  have HK := Lib.hid hk
  have HNT := Lib.hid hnt
  have hgo : (Value.slice A0 n c0).ownBlock ≠ some w.heap.size := fun e => by
    have := (ho.lt w.heap.size e).2
    omega
  have HLO : Hid (∀ k, (Value.slice A0 n c0).ownBlock = some k → base ≤ k) := fun k hk => (ho.lt k hk).1
  obtain ⟨g, hg⟩ : ∃ g, w.heap.size = g := ⟨_, rfl⟩
  have HG := Lib.hid hg
  rw [hg] at bk hgo
  obtain ⟨cp, ce, fa, hcv, hce⟩ := conv_str
  have HCE := Lib.hid hce
  clear hw1 hc1 hk hnt hg hce
  go_enter Try.func15, Try.ntmps15
  go_upto_region 1 with fail
  rw [HW.out, HG.out]
  go_wp2_with (refine wpList_load_row rfl 27 (.tmp 3) rfl g rfl 27 (spC s At nt ct) (0, 0) _ bk Try.underlying27 rfl (by rfl) ?_)
  refine HC.out.mono ?_
  rintro e w2 ⟨rfl, hb2⟩
  have hs2 := hb2.size
  have hb02 := hb0.trans (hb2.mono (by omega))
  have hf2 := Rd.below hf1 (hb2.mono (by omega))
  have ha2 := ha1.later hb2
  have bk2 := bk.below hb2 bk.lt
  clear bk hf1 ha1 hb0 HW hb2 ho hf HC
  by_cases hk0 : k = 0
  case neg =>
    have hk1 : ((k : Int) != 0) = true := by rw [bne_iff_ne]; omega
    go_wp2
    go_ret2
    exact .inl ⟨by rw [HK.out]; exact hk0, by rw [HK.out]; rfl, hb02⟩
  subst hk0
  have hk := HK.out
  have hlong : longB s = false := by
    cases h : longB s with
    | false => rfl
    | true => rw [spChk, if_pos h] at hk; cases hk
  have hhead : headB s = true := by
    cases h : headB s with
    | true => rfl
    | false => rw [spChk, if_neg (by rw [hlong]; simp), h] at hk; simp at hk
  simp only [headB, Bool.and_eq_true, Bool.or_eq_true, decide_eq_true_eq, ne_eq] at hhead
  obtain ⟨⟨⟨⟨⟨⟨⟨⟨⟨h0, h1⟩, h2⟩, h3⟩, h4⟩, h5⟩, h6⟩, h7⟩, h8⟩, h9⟩ := hhead
  simp only [longB, Bool.or_eq_false_iff, decide_eq_false_iff_not] at hlong
  obtain ⟨⟨⟨l1, l2⟩, l3⟩, l4⟩ := hlong
  have hnt16 : nt ≤ 16 := by have := HNT.out; omega
  have L4 : Hid (∀ t ∈ s.tags, t.key.size ≤ 128 ∧ t.val.size ≤ 128) := fun t ht => by
    have := List.any_eq_false.1 l4 t ht
    simp [tgLong] at this
    exact this
  have L1 := Lib.hid (show s.service.size ≤ 128 by omega)
  have L2 := Lib.hid (show s.name.size ≤ 128 by omega)
  have HH := Lib.hid (And.intro h4 (And.intro h5 (And.intro h6 (And.intro h7 (And.intro h8 h9)))))
  clear hk h0 h1 h2 h3 h4 h5 h6 h7 l1 l2 l3 l4 hnl h8 h9
  obtain ⟨u1, u2, u3, u4⟩ := hu
  have HF : Hid (RbT w2 B At s.tags) := hf2
  have HBW := Lib.hid hb02
  have hgl := bk2.lt
  -- from here on: what has been put behind zs
  have hq : AppT base 5 1 w2 (.slice A0 n c0) w2 (.slice A0 n c0) n (bv zs) := AppT.refl ha2.own
  have hbase2 : base ≤ w2.heap.size := by omega
  have HBK : Hid (Bk w2 g 27 (spC s At nt ct)) := bk2
  have HOUT : Hid (∀ {w' : World} {A' : Option Addr} {m c' : Nat} {ys : List Value}, AppT base 5 1 w2 (.slice A0 n c0) w' (.slice A' m c') m ys → AppT base 5 1 w (.slice A0 n c0) w' (.slice A' m c') m ys) := fun h => ha2.trans h
  have hq0 := hq.drew
  have bk3 := bk2.drew
  have k0 : w2.drew.cell? ⟨g, 0, none⟩ = some (.int .u64 s.hi) := bk3.cell 0
  have k1 : w2.drew.cell? ⟨g, 1, none⟩ = some (.int .u64 s.lo) := bk3.cell 1
  have k2 : w2.drew.cell? ⟨g, 2, none⟩ = some (.int .u64 s.id) := bk3.cell 2
  have k3 : w2.drew.cell? ⟨g, 3, none⟩ = some (.int .u64 s.parent) := bk3.cell 3
  have kk0 : w2.cell? ⟨g, 0, none⟩ = some (.int .u64 s.hi) := bk3.cell 0
  have kk1 : w2.cell? ⟨g, 1, none⟩ = some (.int .u64 s.lo) := bk3.cell 1
  have kk2 : w2.cell? ⟨g, 2, none⟩ = some (.int .u64 s.id) := bk3.cell 2
  have kk3 : w2.cell? ⟨g, 3, none⟩ = some (.int .u64 s.parent) := bk3.cell 3
  have hle0 : base ≤ w2.drew.heap.size := hbase2
  clear hf2 hb02 ha2 bk2
  go_wp2_with fail
  go_region_held3 (fun w' => w'.cell? ⟨g, 0, none⟩ = some (.int .u64 s.hi) ∧ w'.cell? ⟨g, 1, none⟩ = some (.int .u64 s.lo) ∧ w'.cell? ⟨g, 2, none⟩ = some (.int .u64 s.id) ∧ w'.cell? ⟨g, 3, none⟩ = some (.int .u64 s.parent)) (go_keep)
    (first
      | (go_at_call_of 51 (Value.int .u64 (s.hi : Nat))
         refine (dEight (base := base) (x := s.hi) (xs := zs) _ hq0.own hle0 u1 (by omega)).mono ?_
         rintro e w5 ⟨A5, c5, rfl, happ5, -⟩
         have q5 := hq0.trans happ5
         have b5 := app_bk happ5 bk3 hgo
         have r0 : w5.cell? ⟨g, 0, none⟩ = some (.int .u64 s.hi) := b5.cell 0
         have r1 : w5.cell? ⟨g, 1, none⟩ = some (.int .u64 s.lo) := b5.cell 1
         have r2 : w5.cell? ⟨g, 2, none⟩ = some (.int .u64 s.id) := b5.cell 2
         have r3 : w5.cell? ⟨g, 3, none⟩ = some (.int .u64 s.parent) := b5.cell 3
         have hle5 := Nat.le_trans hbase2 q5.heap)
      | (go_at_call_of 51 (Value.int .u64 (s.lo : Nat))
         refine (dEight (base := base) (x := s.lo) (xs := zs ++ ordEnc s.hi) _ q5.own hle5 u2 (by omega)).mono ?_
         rintro e w6 ⟨A6, c6, rfl, happ6, -⟩
         have q6 := q5.trans happ6
         have b6 := app_bk q6 HBK.out hgo
         have s0 : w6.cell? ⟨g, 0, none⟩ = some (.int .u64 s.hi) := b6.cell 0
         have s1 : w6.cell? ⟨g, 1, none⟩ = some (.int .u64 s.lo) := b6.cell 1
         have s2 : w6.cell? ⟨g, 2, none⟩ = some (.int .u64 s.id) := b6.cell 2
         have s3 : w6.cell? ⟨g, 3, none⟩ = some (.int .u64 s.parent) := b6.cell 3
         have hle6 := Nat.le_trans hbase2 q6.heap)
      | (go_at_call_of 51 (Value.int .u64 (s.id : Nat))
         refine (dEight (base := base) (x := s.id) (xs := zs ++ ordEnc s.hi ++ ordEnc s.lo) _ q6.own hle6 u3 (by omega)).mono ?_
         rintro e w7 ⟨A7, c7, rfl, happ7, -⟩
         have q7 := q6.trans happ7
         have b7 := app_bk q7 HBK.out hgo
         have t0 : w7.cell? ⟨g, 0, none⟩ = some (.int .u64 s.hi) := b7.cell 0
         have t1 : w7.cell? ⟨g, 1, none⟩ = some (.int .u64 s.lo) := b7.cell 1
         have t2 : w7.cell? ⟨g, 2, none⟩ = some (.int .u64 s.id) := b7.cell 2
         have t3 : w7.cell? ⟨g, 3, none⟩ = some (.int .u64 s.parent) := b7.cell 3
         have hle7 := Nat.le_trans hbase2 q7.heap)
      | (go_at_call_of 51 (Value.int .u64 (s.parent : Nat))
         refine (dEight (base := base) (x := s.parent) (xs := zs ++ ordEnc s.hi ++ ordEnc s.lo ++ ordEnc s.id) _ q7.own hle7 u4 (by omega)).mono ?_
         rintro e w8 ⟨A8, c8, rfl, happ8, -⟩
         have q8 := q7.trans happ8
         have b8 := app_bk q8 HBK.out hgo
         have v0 : w8.cell? ⟨g, 0, none⟩ = some (.int .u64 s.hi) := b8.cell 0
         have v1 : w8.cell? ⟨g, 1, none⟩ = some (.int .u64 s.lo) := b8.cell 1
         have v2 : w8.cell? ⟨g, 2, none⟩ = some (.int .u64 s.id) := b8.cell 2
         have v3 : w8.cell? ⟨g, 3, none⟩ = some (.int .u64 s.parent) := b8.cell 3)
      | fail)
  obtain ⟨y8, hy8⟩ : ∃ y8, zs ++ ordEnc s.hi ++ ordEnc s.lo ++ ordEnc s.id ++ ordEnc s.parent = y8 := ⟨_, rfl⟩
  obtain ⟨m8, hm8⟩ : ∃ m8, n + 8 + 8 + 8 + 8 = m8 := ⟨_, rfl⟩
  rw [hy8, hm8] at q8
  rw [hm8]
  have hm8b : m8 ≤ 1099511627776 + 32 := by omega
  have HY8 := Lib.hid hy8
  clear hy8 hm8 q5 q6 q7 happ5 happ6 happ7 happ8 b5 b6 b7 r0 r1 r2 r3 s0 s1 s2 s3 t0 t1 t2 t3 v0 v1 v2 v3 k0 k1 k2 k3 kk0 kk1 kk2 kk3 hle5 hle6 hle7 hq hq0 bk3 u1 u2 u3 u4
  have k4 : w8.cell? ⟨g, 4, none⟩ = some (.string s.service) := b8.cell 4
  go_wp2_with fail
  refine (pieceS s.service q8 (HCE.out s.service w8).2 L1.out (by omega) hbase2).mono ?_
  rintro e w9 ⟨A9, c9, rfl, q9⟩
  have hl9 := pie_len s.service (by have := L1.out; omega)
  obtain ⟨m9, hm9⟩ : ∃ m9, m8 + (pie s.service).length = m9 := ⟨_, rfl⟩
  obtain ⟨y9, hy9⟩ : ∃ y9, y8 ++ pie s.service = y9 := ⟨_, rfl⟩
  rw [hm9, hy9] at q9
  rw [hm9]
  have hm9b : m9 ≤ 1099511627776 + 200 := by have := L1.out; omega
  have HY9 := Lib.hid hy9
  have b9 := app_bk q9 HBK.out hgo
  clear hm9 hy9 q8 b8 k4 hm8b hl9
  have k5 : w9.cell? ⟨g, 5, none⟩ = some (.string s.name) := b9.cell 5
  go_wp2_with fail
  refine (pieceS s.name q9 (HCE.out s.name w9).2 L2.out (by omega) hbase2).mono ?_
  rintro e w10 ⟨A10, c10, rfl, q10⟩
  have hl10 := pie_len s.name (by have := L2.out; omega)
  obtain ⟨m10, hm10⟩ : ∃ m10, m9 + (pie s.name).length = m10 := ⟨_, rfl⟩
  obtain ⟨y10, hy10⟩ : ∃ y10, y9 ++ pie s.name = y10 := ⟨_, rfl⟩
  rw [hm10, hy10] at q10
  rw [hm10]
  have hm10b : m10 ≤ 1099511627776 + 400 := by have := L2.out; omega
  have HY10 := Lib.hid hy10
  have b10 := app_bk q10 HBK.out hgo
  clear hm10 hy10 q9 b9 k5 hm9b hl10
  have k6 : w10.cell? ⟨g, 6, none⟩ = some (.int .i64 s.kind) := b10.cell 6
  obtain ⟨kv, hkv⟩ : ∃ kv : Int, s.kind = kv := ⟨_, rfl⟩
  have hkv0 : 0 ≤ kv := by have := HH.out.1; omega
  have hkv1 : kv ≤ 5 := by have := HH.out.2.1; omega
  have hwk : IntKind.u8.wrap kv = kv := by rw [IntKind.wrap_u8]; omega
  rw [hkv] at k6
  have HKV := Lib.hid hkv
  clear hkv
  go_wp2_with (at_builtin; go_loud (refine wpList_appbT _ rfl (.tmp 44) (.tmp 48) rfl base _ m10 y10 rfl (q10.own.alloc _) _ _ 1 1 [kv] rfl rfl (Rd.lit _ _ _) (by omega) (by have := q10.heap; simp; omega) ?_))
  intro A11 c11 w11 h11 _
  have q11 := (q10.alloc (.cells #[.int .u8 kv] 5)).trans h11
  obtain ⟨m11, hm11⟩ : ∃ m11, m10 + 1 = m11 := ⟨_, rfl⟩
  obtain ⟨y11, hy11⟩ : ∃ y11, y10 ++ [kv] = y11 := ⟨_, rfl⟩
  rw [hm11, hy11] at q11
  rw [hm11]
  have hm11b : m11 ≤ 1099511627776 + 401 := by omega
  have HY11 := Lib.hid hy11
  have b11 := app_bk q11 HBK.out hgo
  clear hm11 hy11 q10 b10 k6 hm10b h11 hwk hkv0 hkv1
  obtain ⟨r1, r2, r3, r4⟩ := HH.out.2.2
  obtain ⟨a1, ha1⟩ : ∃ a1 : Nat, s.start = a1 := ⟨s.start.toNat, by omega⟩
  obtain ⟨a2, ha2⟩ : ∃ a2 : Nat, s.length = a2 := ⟨s.length.toNat, by omega⟩
  have k7 : w11.cell? ⟨g, 7, none⟩ = some (.int .i64 a1) := by rw [← ha1]; exact b11.cell 7
  have k8 : w11.cell? ⟨g, 8, none⟩ = some (.int .i64 a2) := by rw [← ha2]; exact b11.cell 8
  have hl1 := numEnc_u64 (x := a1) (by omega)
  have hl2 := numEnc_u64 (x := a2) (by omega)
  have ha1b : a1 ≤ 4611686018427387903 := by omega
  have ha2b : a2 ≤ 4611686018427387903 := by omega
  have hwr1 : IntKind.u64.wrap (a1 : Int) = (a1 : Int) := IntWalk.u64_in _ ⟨by omega, by omega⟩
  have hwr2 : IntKind.u64.wrap (a2 : Int) = (a2 : Int) := IntWalk.u64_in _ ⟨by omega, by omega⟩
  have hle11 : base ≤ w11.drew.heap.size := Nat.le_trans hbase2 q11.heap
  have hx1 : a1 < 18446744073709551616 := by omega
  have hx2 : a2 < 18446744073709551616 := by omega
  have hmb6 : m11 + 10 ≤ 140737488355328 := by omega
  have hmb7 : m11 + (numEnc a1).length + 10 ≤ 140737488355328 := by omega
  have HA1 := Lib.hid ha1
  have HA2 := Lib.hid ha2
  clear b11 ha1 ha2 r1 r2 r3 r4
  go_wp2_with fail
  go_region_held3 (fun w' => w'.cell? ⟨g, 7, none⟩ = some (.int .i64 a1) ∧ w'.cell? ⟨g, 8, none⟩ = some (.int .i64 a2)) (go_keep)
    (first
      | (go_at_call_of 53 (Value.int .u64 (a1 : Nat))
         refine (refNumberT (base := base) (x := a1) (xs := y11) _ q11.drew.own hle11 hx1 hmb6).mono ?_
         rintro e w12 ⟨A12, c12, rfl, happ12, -⟩
         have q12 := q11.drew.trans happ12
         have hle12 := Nat.le_trans hbase2 q12.heap
         have k7' : w12.cell? ⟨g, 7, none⟩ = some (.int .i64 a1) := ((app_bk q12 HBK.out hgo).cell 7).trans (by rw [← HA1.out]; rfl)
         have k8' : w12.cell? ⟨g, 8, none⟩ = some (.int .i64 a2) := ((app_bk q12 HBK.out hgo).cell 8).trans (by rw [← HA2.out]; rfl))
      | (go_at_call_of 53 (Value.int .u64 (a2 : Nat))
         refine (refNumberT (base := base) (x := a2) (xs := y11 ++ numEnc a1) _ q12.own hle12 hx2 hmb7).mono ?_
         rintro e w13 ⟨A13, c13, rfl, happ13, -⟩
         have q13 := q12.trans happ13
         have k7b : w13.cell? ⟨g, 7, none⟩ = some (.int .i64 a1) := ((app_bk q13 HBK.out hgo).cell 7).trans (by rw [← HA1.out]; rfl)
         have k8b : w13.cell? ⟨g, 8, none⟩ = some (.int .i64 a2) := ((app_bk q13 HBK.out hgo).cell 8).trans (by rw [← HA2.out]; rfl))
      | fail)
  obtain ⟨y13, hy13⟩ : ∃ y13, y11 ++ numEnc a1 ++ numEnc a2 = y13 := ⟨_, rfl⟩
  obtain ⟨m13, hm13⟩ : ∃ m13, m11 + (numEnc a1).length + (numEnc a2).length = m13 := ⟨_, rfl⟩
  rw [hy13, hm13] at q13
  rw [hm13]
  have hm13b : m13 ≤ 1099511627776 + 421 := by omega
  have HY13 := Lib.hid hy13
  have b13 := app_bk q13 HBK.out hgo
  clear hy13 hm13 hm11b q11 q12 happ12 happ13 k7 k8 k7' k8' k7b k8b hl1 hl2 hmb6 hmb7 hle11 hle12 hwr1 hwr2 hx1 hx2 ha1b ha2b
  obtain ⟨fv, hfv⟩ : ∃ fv : Int, (if s.fails = true then 1 else 0) = fv := ⟨_, rfl⟩
  have hfv0 : 0 ≤ fv := by rw [← hfv]; split <;> omega
  have hfv1 : fv ≤ 1 := by rw [← hfv]; split <;> omega
  have hwru : IntKind.u8.wrap fv = fv := by rw [IntKind.wrap_u8]; omega
  have hT := fun W => rTruth W s.fails
  rw [hfv] at hT
  have HT := Lib.hid hT
  have HFV := Lib.hid hfv
  have k9 : w13.cell? ⟨g, 9, none⟩ = some (.bool s.fails) := b13.cell 9
  clear hfv hT
  go_wp2_with fail
  refine (HT.out _).mono ?_
  rintro e w' ⟨rfl, hw⟩
  rw [hw]
  clear hw w' k9
  go_wp2_with (at_builtin; go_loud (refine wpList_appbT _ rfl (.tmp 59) (.tmp 64) rfl base _ m13 y13 rfl (q13.own.alloc _) _ _ 1 1 [fv] rfl rfl (Rd.lit _ _ _) (by omega) (by have := q13.heap; simp; omega) ?_))
  intro A14 c14 w14 h14 _
  have q14 := (q13.alloc (.cells #[.int .u8 fv] 5)).trans h14
  obtain ⟨m14, hm14⟩ : ∃ m14, m13 + 1 = m14 := ⟨_, rfl⟩
  obtain ⟨y14, hy14⟩ : ∃ y14, y13 ++ [fv] = y14 := ⟨_, rfl⟩
  rw [hm14, hy14] at q14
  rw [hm14]
  have hm14b : m14 ≤ 1099511627776 + 422 := by omega
  have HY14 := Lib.hid hy14
  have b14 := app_bk q14 HBK.out hgo
  clear hm14 hy14 q13 b13 hm13b h14 hwru hfv0 hfv1
  have k10 : w14.cell? ⟨g, 10, none⟩ = some (.slice At nt ct) := b14.cell 10
  have hwr3 : IntKind.u64.wrap (nt : Int) = (nt : Int) := IntWalk.u64_in _ ⟨by omega, by omega⟩
  have hl3 := numEnc_u64 (x := nt) (by omega)
  have hn3 := refNumberT (base := base) (x := nt) (xs := y14) w14 q14.own (Nat.le_trans hbase2 q14.heap) (by omega) (by omega)
  have HN3 := Lib.hid hn3
  clear hn3
  go_wp2_with fail
  refine HN3.out.mono ?_
  rintro e w15 ⟨A15, c15, rfl, happ15, -⟩
  have q15 := q14.trans happ15
  obtain ⟨m15, hm15⟩ : ∃ m15, m14 + (numEnc nt).length = m15 := ⟨_, rfl⟩
  obtain ⟨y15, hy15⟩ : ∃ y15, y14 ++ numEnc nt = y15 := ⟨_, rfl⟩
  rw [hm15, hy15] at q15
  rw [hm15]
  have hm15b : m15 ≤ 1099511627776 + 432 := by omega
  have HY15 := Lib.hid hy15
  have HQ15 := Lib.hid q15
  clear hm15 hy15 q14 q15 b14 hm14b happ15 hwr3 hl3 HN3 k10
  go_wp2_with fail
  go_loopw [0, 7] (fun v iv_ wr => ∃ (A' : Option Addr) (c' m j : Nat), j ≤ nt ∧ v = .slice A' m c' ∧ iv_ = .int .i64 j ∧ m ≤ m15 + j * 300 ∧ AppT base 5 1 w2 (.slice A0 n c0) wr (.slice A' m c') m (bv (y15 ++ (s.tags.take j).flatMap tgEnc))) (fun _ i _ => nt - (intOf i).toNat)
  case atStart => exact ⟨A15, c15, m15, 0, by omega, rfl, rfl, by omega, by simpa using HQ15.out⟩
  case round =>
    obtain ⟨A', c', m, j, hj, rfl, rfl, hm, happ⟩ := hrel
    have hmb : m ≤ 1099511627776 + 6000 := by omega
    have br := app_bk happ HBK.out hgo
    have k10 : wr.cell? ⟨g, 10, none⟩ = some (.slice At nt ct) := br.cell 10
    by_cases hlt : j < nt
    · have hlt' : (j : Int) < (nt : Int) := by omega
      obtain ⟨x, hx⟩ : ∃ x, s.tags[j]? = some x := ⟨_, List.getElem?_eq_getElem (by rw [HNT.out]; exact hlt)⟩
      have hsx := L4.out x (List.mem_of_getElem? hx)
      have hlo : ∀ k, (Value.slice A0 n c0).ownBlock = some k → base ≤ k := fun k hk => HLO.out k hk
      have hbel := happ.below hbase2 hlo
      obtain ⟨b, o, e', hbb, c1, c2⟩ := RbT.get (Rd.below HF.out (hbel.mono hB)) hx
      cases e'
      have HX := Lib.hid hx
      clear hx hbel hlo
      go_wp2_with fail
      refine (pieceS x.key happ (HCE.out x.key wr).2 hsx.1 (by omega) hbase2).mono ?_
      rintro e w16 ⟨A16, c16, rfl, q16⟩
      have hl16 := pie_len x.key (by omega)
      obtain ⟨m16, hm16⟩ : ∃ m16, m + (pie x.key).length = m16 := ⟨_, rfl⟩
      rw [hm16] at q16
      rw [hm16]
      have hm16b : m16 ≤ m15 + j * 300 + 138 := by omega
      clear hm16 hl16 c1 c2 br k10
      have br := app_bk q16 HBK.out hgo
      have k10 : w16.cell? ⟨g, 10, none⟩ = some (.slice (some ⟨b, o, none⟩) nt ct) := br.cell 10
      have hlo : ∀ k, (Value.slice A0 n c0).ownBlock = some k → base ≤ k := fun k hk => HLO.out k hk
      obtain ⟨b', o', e', hbb', c1, c2⟩ := RbT.get (Rd.below HF.out ((q16.below hbase2 hlo).mono hB)) HX.out
      cases e'
      clear hlo
      go_wp2_with fail
      refine (pieceS x.val q16 (HCE.out x.val w16).2 hsx.2 (by omega) hbase2).mono ?_
      rintro e w17 ⟨A17, c17, rfl, q17⟩
      have hl17 := pie_len x.val (by omega)
      obtain ⟨m17, hm17⟩ : ∃ m17, m16 + (pie x.val).length = m17 := ⟨_, rfl⟩
      rw [hm17] at q17
      rw [hm17]
      have hm17b : m17 ≤ m15 + (j + 1) * 300 := by omega
      have e2 : y15 ++ (s.tags.take j).flatMap tgEnc ++ pie x.key ++ pie x.val = y15 ++ (s.tags.take (j + 1)).flatMap tgEnc := by
        rw [take_snoc HX.out, List.flatMap_append, List.flatMap_cons, List.flatMap_nil, List.append_nil, tgEnc, List.append_assoc, List.append_assoc]
      rw [e2] at q17
      clear e2 hm17 hl17 c1 c2 br k10 q16 happ hm16b
      go_wp2
      go_roundw
      case rel => exact ⟨A17, c17, m17, j + 1, by omega, rfl, by go_num, hm17b, q17⟩
      case measure => simp [intOf]; omega
    · have hlt' : decide ((j : Int) < (nt : Int)) = false := by simp; omega
      obtain rfl : j = nt := by omega
      have e1 : s.tags.take j = s.tags := List.take_of_length_le (by rw [HNT.out]; omega)
      rw [e1] at happ
      have hy : y15 ++ s.tags.flatMap tgEnc = zs ++ spEnc s := by
        have hk : s.kind % 256 = s.kind := by have := HH.out.1; have := HH.out.2.1; omega
        rw [← HY15.out, ← HY14.out, ← HY13.out, ← HY11.out, ← HY10.out, ← HY9.out, ← HY8.out, spEnc, spHead, hk, ← HFV.out, HNT.out, HA1.out, HA2.out, HKV.out]
        simp
      rw [hy] at happ
      have hml : m = (zs ++ spEnc s).length := by
        have := happ.own.1
        rw [bv_length] at this
        omega
      have HML := Lib.hid hml
      have HAPP := Lib.hid (HOUT.out happ)
      clear hy hml e1 happ
      go_wp2
      go_ret2
      exact .inr ⟨HK.out, A', c', m, rfl, HML.out, HAPP.out⟩
end Go.Proofs.Ytohnpogoldbplaa
