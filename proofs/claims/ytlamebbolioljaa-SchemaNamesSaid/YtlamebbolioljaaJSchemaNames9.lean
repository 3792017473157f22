/- Texts of the proof of SchemaNamesSaid, joined: RTr SrI RfB RfC RfF RfD RfE SpS. -/
import Derived.Test.YtlamebbolioljaaJSchemaNames2
import Derived.Deep.Cut
import Derived.Deep.RegionHeld3
import Derived.Test.YtlamebbolioljaaJSchemaNames8
import Derived.Test.YtlamebbolioljaaJSchemaNames5
import Derived.Deep.AppendLies
import Derived.BigQuiet
import Derived.Test.YtlamebbolioljaaJSchemaNames4
import Derived.Test.YtlamebbolioljaaJSchemaNames7
import Derived.BigRegion
import Derived.Test.YtlamebbolioljaaJSchemaNames6
import Derived.Deep.CutRange
/- The document's truth: bootprintref17.truth. -/
namespace Go.Proofs.Ytlamebbolioljaa
open Go.RowKit
theorem rTruth (w : World) (b : Bool) : Calls Try.prog 86 #[.bool b] w fun e w' => e = .returned (.int .i64 (if b = true then 1 else 0)) ∧ w' = w := by
  cases b
  · go_enter Try.func86, Try.ntmps86
    go_wp2
    go_ret
    exact ⟨rfl, rfl⟩
  · go_enter Try.func86, Try.ntmps86
    go_wp2
    go_ret
    exact ⟨rfl, rfl⟩

end Go.Proofs.Ytlamebbolioljaa

/- Spans, the document's answer: Append. -/
namespace Go.Proofs.Ytlamebbolioljaa
open Go.RowKit

/-- What the document's Append hands back. -/
def AppPostT (base : Nat) (w : World) (A0 : Option Addr) (n c0 : Nat) (zs : List Int) (s : Sp) (e : Ending) (w' : World) : Prop :=
  (spChk s ≠ 0 ∧ e = .returned (.tuple #[.slice none 0 0, .int .i64 (spChk s)]) ∧ Below w.heap.size w w') ∨
  (spChk s = 0 ∧ ∃ A' c' m, e = .returned (.tuple #[.slice A' m c', .int .i64 0]) ∧ m = (zs ++ spEnc s).length ∧ AppT base 5 1 w (.slice A0 n c0) w' (.slice A' m c') m (bv (zs ++ spEnc s)))

theorem app_bk {base n m c c' : Nat} {A A' : Option Addr} {w w' : World} {xs : List Value} {g : Nat} {t : TypeId} {cs : Array Value} (h : AppT base 5 1 w (.slice A n c) w' (.slice A' m c') m xs) (bk : Bk w g t cs) (hg : (Value.slice A n c).ownBlock ≠ some g) : Bk w' g t cs :=
  bk.grown h.grown (fun e => hg e.symm)

set_option maxRecDepth 100000 in
set_option maxHeartbeats 8000000 in
theorem rAppend {A0 At : Option Addr} {c0 ct B n nt base : Nat} {zs : List Int} (s : Sp) (w : World) (ho : ownsT w base 5 1 (.slice A0 n c0) n (bv zs)) (hbase : base ≤ w.heap.size) (hz : n ≤ 1099511627776) (hB : B ≤ base)
    (hf : RbT w B At s.tags) (hnt : s.tags.length = nt) (hnl : nt ≤ 9223372036854775807) (hu : s.U64) :
    Calls Try.prog 68 #[.slice A0 n c0, spV s At nt ct] w (AppPostT base w A0 n c0 zs s) := by
  have hb0 : Below w.heap.size w (w.alloc (.cells (spC s At nt ct) 43)) := (Below.refl _ w).alloc (Nat.le_refl _) _
  have hf1 := Rd.alloc hf (Nat.le_trans hB hbase) (.cells (spC s At nt ct) 43)
  have ha1 := (AppT.refl ho).alloc (.cells (spC s At nt ct) 43)
  have bk := Bk.new w 43 (spC s At nt ct)
  have hs1 : (w.alloc (.cells (spC s At nt ct) 43)).heap.size = w.heap.size + 1 := by simp
  obtain ⟨w1, hw1⟩ : ∃ w1, w.alloc (.cells (spC s At nt ct) 43) = w1 := ⟨_, rfl⟩
  rw [hw1] at hb0 hf1 ha1 bk hs1
  have HW := Lib.hid hw1
  have hc1 := rSpCheck (c := ct) s w1 hf1 hnt (by omega) hnl
  obtain ⟨k, hk⟩ : ∃ k, spChk s = k := ⟨_, rfl⟩
  rw [hk] at hc1
  have HC := Lib.hid hc1
  have HK := Lib.hid hk
  have HNT := Lib.hid hnt
  have hgo : (Value.slice A0 n c0).ownBlock ≠ some w.heap.size := fun e => by
    have := (ho.lt w.heap.size e).2
    omega
  have HLO : Hid (∀ k, (Value.slice A0 n c0).ownBlock = some k → base ≤ k) := fun k hk => (ho.lt k hk).1
  obtain ⟨g, hg⟩ : ∃ g, w.heap.size = g := ⟨_, rfl⟩
  have HG := Lib.hid hg
  rw [hg] at bk hgo
  obtain ⟨cp, ce, fa, hcv, hce⟩ := conv_str
  have HCE := Lib.hid hce
  clear hw1 hc1 hk hnt hg hce
  go_enter Try.func68, Try.ntmps68
  go_upto_region 1 with fail
  rw [HW.out, HG.out]
  go_wp2_with (refine wpList_load_row rfl 43 (.tmp 3) rfl g rfl 43 (spC s At nt ct) (0, 0) _ bk Try.underlying43 rfl (by rfl) ?_)
  refine HC.out.mono ?_
  rintro e w2 ⟨rfl, hb2⟩
  have hs2 := hb2.size
  have hb02 := hb0.trans (hb2.mono (by omega))
  have hf2 := Rd.below hf1 (hb2.mono (by omega))
  have ha2 := ha1.later hb2
  have bk2 := bk.below hb2 bk.lt
  clear bk hf1 ha1 hb0 HW hb2 ho hf HC
  by_cases hk0 : k = 0
  case neg =>
    have hk1 : ((k : Int) != 0) = true := by rw [bne_iff_ne]; omega
    go_wp2
    go_ret2
    exact .inl ⟨by rw [HK.out]; exact hk0, by rw [HK.out]; rfl, hb02⟩
  subst hk0
  have hk := HK.out
  have hlong : longB s = false := by
    cases h : longB s with
    | false => rfl
    | true => rw [spChk, if_pos h] at hk; cases hk
  have hhead : headB s = true := by
    cases h : headB s with
    | true => rfl
    | false => rw [spChk, if_neg (by rw [hlong]; simp), h] at hk; simp at hk
  simp only [headB, Bool.and_eq_true, Bool.or_eq_true, decide_eq_true_eq, ne_eq] at hhead
  obtain ⟨⟨⟨⟨⟨⟨⟨⟨⟨h0, h1⟩, h2⟩, h3⟩, h4⟩, h5⟩, h6⟩, h7⟩, h8⟩, h9⟩ := hhead
  simp only [longB, Bool.or_eq_false_iff, decide_eq_false_iff_not] at hlong
  obtain ⟨⟨⟨l1, l2⟩, l3⟩, l4⟩ := hlong
  have hnt16 : nt ≤ 16 := by have := HNT.out; omega
  have L4 : Hid (∀ t ∈ s.tags, t.key.size ≤ 128 ∧ t.val.size ≤ 128) := fun t ht => by
    have := List.any_eq_false.1 l4 t ht
    simp [tgLong] at this
    exact this
  have L1 := Lib.hid (show s.service.size ≤ 128 by omega)
  have L2 := Lib.hid (show s.name.size ≤ 128 by omega)
  have HH := Lib.hid (And.intro h4 (And.intro h5 (And.intro h6 (And.intro h7 (And.intro h8 h9)))))
  clear hk h0 h1 h2 h3 h4 h5 h6 h7 l1 l2 l3 l4 hnl h8 h9
  obtain ⟨u1, u2, u3, u4⟩ := hu
  have HF : Hid (RbT w2 B At s.tags) := hf2
  have HBW := Lib.hid hb02
  have hgl := bk2.lt
  -- from here on: what has been put behind zs
  have hq : AppT base 5 1 w2 (.slice A0 n c0) w2 (.slice A0 n c0) n (bv zs) := AppT.refl ha2.own
  have hbase2 : base ≤ w2.heap.size := by omega
  have HBK : Hid (Bk w2 g 43 (spC s At nt ct)) := bk2
  have HOUT : Hid (∀ {w' : World} {A' : Option Addr} {m c' : Nat} {ys : List Value}, AppT base 5 1 w2 (.slice A0 n c0) w' (.slice A' m c') m ys → AppT base 5 1 w (.slice A0 n c0) w' (.slice A' m c') m ys) := fun h => ha2.trans h
  have hq0 := hq.drew
  have bk3 := bk2.drew
  have k0 : w2.drew.cell? ⟨g, 0, none⟩ = some (.int .u64 s.hi) := bk3.cell 0
  have k1 : w2.drew.cell? ⟨g, 1, none⟩ = some (.int .u64 s.lo) := bk3.cell 1
  have k2 : w2.drew.cell? ⟨g, 2, none⟩ = some (.int .u64 s.id) := bk3.cell 2
  have k3 : w2.drew.cell? ⟨g, 3, none⟩ = some (.int .u64 s.parent) := bk3.cell 3
  have kk0 : w2.cell? ⟨g, 0, none⟩ = some (.int .u64 s.hi) := bk3.cell 0
  have kk1 : w2.cell? ⟨g, 1, none⟩ = some (.int .u64 s.lo) := bk3.cell 1
  have kk2 : w2.cell? ⟨g, 2, none⟩ = some (.int .u64 s.id) := bk3.cell 2
  have kk3 : w2.cell? ⟨g, 3, none⟩ = some (.int .u64 s.parent) := bk3.cell 3
  have hle0 : base ≤ w2.drew.heap.size := hbase2
  clear hf2 hb02 ha2 bk2
  go_wp2_with fail
  go_region_held3 (fun w' => w'.cell? ⟨g, 0, none⟩ = some (.int .u64 s.hi) ∧ w'.cell? ⟨g, 1, none⟩ = some (.int .u64 s.lo) ∧ w'.cell? ⟨g, 2, none⟩ = some (.int .u64 s.id) ∧ w'.cell? ⟨g, 3, none⟩ = some (.int .u64 s.parent)) (go_keep)
    (first
      | (go_at_call_of 84 (Value.int .u64 (s.hi : Nat))
         refine (dEight (base := base) (x := s.hi) (xs := zs) _ hq0.own hle0 u1 (by omega)).mono ?_
         rintro e w5 ⟨A5, c5, rfl, happ5, -⟩
         have q5 := hq0.trans happ5
         have b5 := app_bk happ5 bk3 hgo
         have r0 : w5.cell? ⟨g, 0, none⟩ = some (.int .u64 s.hi) := b5.cell 0
         have r1 : w5.cell? ⟨g, 1, none⟩ = some (.int .u64 s.lo) := b5.cell 1
         have r2 : w5.cell? ⟨g, 2, none⟩ = some (.int .u64 s.id) := b5.cell 2
         have r3 : w5.cell? ⟨g, 3, none⟩ = some (.int .u64 s.parent) := b5.cell 3
         have hle5 := Nat.le_trans hbase2 q5.heap)
      | (go_at_call_of 84 (Value.int .u64 (s.lo : Nat))
         refine (dEight (base := base) (x := s.lo) (xs := zs ++ ordEnc s.hi) _ q5.own hle5 u2 (by omega)).mono ?_
         rintro e w6 ⟨A6, c6, rfl, happ6, -⟩
         have q6 := q5.trans happ6
         have b6 := app_bk q6 HBK.out hgo
         have s0 : w6.cell? ⟨g, 0, none⟩ = some (.int .u64 s.hi) := b6.cell 0
         have s1 : w6.cell? ⟨g, 1, none⟩ = some (.int .u64 s.lo) := b6.cell 1
         have s2 : w6.cell? ⟨g, 2, none⟩ = some (.int .u64 s.id) := b6.cell 2
         have s3 : w6.cell? ⟨g, 3, none⟩ = some (.int .u64 s.parent) := b6.cell 3
         have hle6 := Nat.le_trans hbase2 q6.heap)
      | (go_at_call_of 84 (Value.int .u64 (s.id : Nat))
         refine (dEight (base := base) (x := s.id) (xs := zs ++ ordEnc s.hi ++ ordEnc s.lo) _ q6.own hle6 u3 (by omega)).mono ?_
         rintro e w7 ⟨A7, c7, rfl, happ7, -⟩
         have q7 := q6.trans happ7
         have b7 := app_bk q7 HBK.out hgo
         have t0 : w7.cell? ⟨g, 0, none⟩ = some (.int .u64 s.hi) := b7.cell 0
         have t1 : w7.cell? ⟨g, 1, none⟩ = some (.int .u64 s.lo) := b7.cell 1
         have t2 : w7.cell? ⟨g, 2, none⟩ = some (.int .u64 s.id) := b7.cell 2
         have t3 : w7.cell? ⟨g, 3, none⟩ = some (.int .u64 s.parent) := b7.cell 3
         have hle7 := Nat.le_trans hbase2 q7.heap)
      | (go_at_call_of 84 (Value.int .u64 (s.parent : Nat))
         refine (dEight (base := base) (x := s.parent) (xs := zs ++ ordEnc s.hi ++ ordEnc s.lo ++ ordEnc s.id) _ q7.own hle7 u4 (by omega)).mono ?_
         rintro e w8 ⟨A8, c8, rfl, happ8, -⟩
         have q8 := q7.trans happ8
         have b8 := app_bk q8 HBK.out hgo
         have v0 : w8.cell? ⟨g, 0, none⟩ = some (.int .u64 s.hi) := b8.cell 0
         have v1 : w8.cell? ⟨g, 1, none⟩ = some (.int .u64 s.lo) := b8.cell 1
         have v2 : w8.cell? ⟨g, 2, none⟩ = some (.int .u64 s.id) := b8.cell 2
         have v3 : w8.cell? ⟨g, 3, none⟩ = some (.int .u64 s.parent) := b8.cell 3)
      | fail)
  obtain ⟨y8, hy8⟩ : ∃ y8, zs ++ ordEnc s.hi ++ ordEnc s.lo ++ ordEnc s.id ++ ordEnc s.parent = y8 := ⟨_, rfl⟩
  obtain ⟨m8, hm8⟩ : ∃ m8, n + 8 + 8 + 8 + 8 = m8 := ⟨_, rfl⟩
  rw [hy8, hm8] at q8
  rw [hm8]
  have hm8b : m8 ≤ 1099511627776 + 32 := by omega
  have HY8 := Lib.hid hy8
  clear hy8 hm8 q5 q6 q7 happ5 happ6 happ7 happ8 b5 b6 b7 r0 r1 r2 r3 s0 s1 s2 s3 t0 t1 t2 t3 v0 v1 v2 v3 k0 k1 k2 k3 kk0 kk1 kk2 kk3 hle5 hle6 hle7 hq hq0 bk3 u1 u2 u3 u4
  have k4 : w8.cell? ⟨g, 4, none⟩ = some (.string s.service) := b8.cell 4
  go_wp2_with fail
  refine (pieceS s.service q8 (HCE.out s.service w8).2 L1.out (by omega) hbase2).mono ?_
  rintro e w9 ⟨A9, c9, rfl, q9⟩
  have hl9 := pie_len s.service (by have := L1.out; omega)
  obtain ⟨m9, hm9⟩ : ∃ m9, m8 + (pie s.service).length = m9 := ⟨_, rfl⟩
  obtain ⟨y9, hy9⟩ : ∃ y9, y8 ++ pie s.service = y9 := ⟨_, rfl⟩
  rw [hm9, hy9] at q9
  rw [hm9]
  have hm9b : m9 ≤ 1099511627776 + 200 := by have := L1.out; omega
  have HY9 := Lib.hid hy9
  have b9 := app_bk q9 HBK.out hgo
  clear hm9 hy9 q8 b8 k4 hm8b hl9
  have k5 : w9.cell? ⟨g, 5, none⟩ = some (.string s.name) := b9.cell 5
  go_wp2_with fail
  refine (pieceS s.name q9 (HCE.out s.name w9).2 L2.out (by omega) hbase2).mono ?_
  rintro e w10 ⟨A10, c10, rfl, q10⟩
  have hl10 := pie_len s.name (by have := L2.out; omega)
  obtain ⟨m10, hm10⟩ : ∃ m10, m9 + (pie s.name).length = m10 := ⟨_, rfl⟩
  obtain ⟨y10, hy10⟩ : ∃ y10, y9 ++ pie s.name = y10 := ⟨_, rfl⟩
  rw [hm10, hy10] at q10
  rw [hm10]
  have hm10b : m10 ≤ 1099511627776 + 400 := by have := L2.out; omega
  have HY10 := Lib.hid hy10
  have b10 := app_bk q10 HBK.out hgo
  clear hm10 hy10 q9 b9 k5 hm9b hl10
  have k6 : w10.cell? ⟨g, 6, none⟩ = some (.int .i64 s.kind) := b10.cell 6
  obtain ⟨kv, hkv⟩ : ∃ kv : Int, s.kind = kv := ⟨_, rfl⟩
  have hkv0 : 0 ≤ kv := by have := HH.out.1; omega
  have hkv1 : kv ≤ 5 := by have := HH.out.2.1; omega
  have hwk : IntKind.u8.wrap kv = kv := by rw [IntKind.wrap_u8]; omega
  rw [hkv] at k6
  have HKV := Lib.hid hkv
  clear hkv
  go_wp2_with (at_builtin; go_loud (refine wpList_appbT _ rfl (.tmp 44) (.tmp 48) rfl base _ m10 y10 rfl (q10.own.alloc _) _ _ 1 1 [kv] rfl rfl (Rd.lit _ _ _) (by omega) (by have := q10.heap; simp; omega) ?_))
  intro A11 c11 w11 h11 _
  have q11 := (q10.alloc (.cells #[.int .u8 kv] 5)).trans h11
  obtain ⟨m11, hm11⟩ : ∃ m11, m10 + 1 = m11 := ⟨_, rfl⟩
  obtain ⟨y11, hy11⟩ : ∃ y11, y10 ++ [kv] = y11 := ⟨_, rfl⟩
  rw [hm11, hy11] at q11
  rw [hm11]
  have hm11b : m11 ≤ 1099511627776 + 401 := by omega
  have HY11 := Lib.hid hy11
  have b11 := app_bk q11 HBK.out hgo
  clear hm11 hy11 q10 b10 k6 hm10b h11 hwk hkv0 hkv1
  obtain ⟨r1, r2, r3, r4⟩ := HH.out.2.2
  obtain ⟨a1, ha1⟩ : ∃ a1 : Nat, s.start = a1 := ⟨s.start.toNat, by omega⟩
  obtain ⟨a2, ha2⟩ : ∃ a2 : Nat, s.length = a2 := ⟨s.length.toNat, by omega⟩
  have k7 : w11.cell? ⟨g, 7, none⟩ = some (.int .i64 a1) := by rw [← ha1]; exact b11.cell 7
  have k8 : w11.cell? ⟨g, 8, none⟩ = some (.int .i64 a2) := by rw [← ha2]; exact b11.cell 8
  have hl1 := numEnc_u64 (x := a1) (by omega)
  have hl2 := numEnc_u64 (x := a2) (by omega)
  have ha1b : a1 ≤ 4611686018427387903 := by omega
  have ha2b : a2 ≤ 4611686018427387903 := by omega
  have hwr1 : IntKind.u64.wrap (a1 : Int) = (a1 : Int) := IntWalk.u64_in _ ⟨by omega, by omega⟩
  have hwr2 : IntKind.u64.wrap (a2 : Int) = (a2 : Int) := IntWalk.u64_in _ ⟨by omega, by omega⟩
  have hle11 : base ≤ w11.drew.heap.size := Nat.le_trans hbase2 q11.heap
  have hx1 : a1 < 18446744073709551616 := by omega
  have hx2 : a2 < 18446744073709551616 := by omega
  have hmb6 : m11 + 10 ≤ 140737488355328 := by omega
  have hmb7 : m11 + (numEnc a1).length + 10 ≤ 140737488355328 := by omega
  have HA1 := Lib.hid ha1
  have HA2 := Lib.hid ha2
  clear b11 ha1 ha2 r1 r2 r3 r4
  go_wp2_with fail
  go_region_held3 (fun w' => w'.cell? ⟨g, 7, none⟩ = some (.int .i64 a1) ∧ w'.cell? ⟨g, 8, none⟩ = some (.int .i64 a2)) (go_keep)
    (first
      | (go_at_call_of 69 (Value.int .u64 (a1 : Nat))
         refine (refNumberT (base := base) (x := a1) (xs := y11) _ q11.drew.own hle11 hx1 hmb6).mono ?_
         rintro e w12 ⟨A12, c12, rfl, happ12, -⟩
         have q12 := q11.drew.trans happ12
         have hle12 := Nat.le_trans hbase2 q12.heap
         have k7' : w12.cell? ⟨g, 7, none⟩ = some (.int .i64 a1) := ((app_bk q12 HBK.out hgo).cell 7).trans (by rw [← HA1.out]; rfl)
         have k8' : w12.cell? ⟨g, 8, none⟩ = some (.int .i64 a2) := ((app_bk q12 HBK.out hgo).cell 8).trans (by rw [← HA2.out]; rfl))
      | (go_at_call_of 69 (Value.int .u64 (a2 : Nat))
         refine (refNumberT (base := base) (x := a2) (xs := y11 ++ numEnc a1) _ q12.own hle12 hx2 hmb7).mono ?_
         rintro e w13 ⟨A13, c13, rfl, happ13, -⟩
         have q13 := q12.trans happ13
         have k7b : w13.cell? ⟨g, 7, none⟩ = some (.int .i64 a1) := ((app_bk q13 HBK.out hgo).cell 7).trans (by rw [← HA1.out]; rfl)
         have k8b : w13.cell? ⟨g, 8, none⟩ = some (.int .i64 a2) := ((app_bk q13 HBK.out hgo).cell 8).trans (by rw [← HA2.out]; rfl))
      | fail)
  obtain ⟨y13, hy13⟩ : ∃ y13, y11 ++ numEnc a1 ++ numEnc a2 = y13 := ⟨_, rfl⟩
  obtain ⟨m13, hm13⟩ : ∃ m13, m11 + (numEnc a1).length + (numEnc a2).length = m13 := ⟨_, rfl⟩
  rw [hy13, hm13] at q13
  rw [hm13]
  have hm13b : m13 ≤ 1099511627776 + 421 := by omega
  have HY13 := Lib.hid hy13
  have b13 := app_bk q13 HBK.out hgo
  clear hy13 hm13 hm11b q11 q12 happ12 happ13 k7 k8 k7' k8' k7b k8b hl1 hl2 hmb6 hmb7 hle11 hle12 hwr1 hwr2 hx1 hx2 ha1b ha2b
  obtain ⟨fv, hfv⟩ : ∃ fv : Int, (if s.fails = true then 1 else 0) = fv := ⟨_, rfl⟩
  have hfv0 : 0 ≤ fv := by rw [← hfv]; split <;> omega
  have hfv1 : fv ≤ 1 := by rw [← hfv]; split <;> omega
  have hwru : IntKind.u8.wrap fv = fv := by rw [IntKind.wrap_u8]; omega
  have hT := fun W => rTruth W s.fails
  rw [hfv] at hT
  have HT := Lib.hid hT
  have HFV := Lib.hid hfv
  have k9 : w13.cell? ⟨g, 9, none⟩ = some (.bool s.fails) := b13.cell 9
  clear hfv hT
  go_wp2_with fail
  refine (HT.out _).mono ?_
  rintro e w' ⟨rfl, hw⟩
  rw [hw]
  clear hw w' k9
  go_wp2_with (at_builtin; go_loud (refine wpList_appbT _ rfl (.tmp 59) (.tmp 64) rfl base _ m13 y13 rfl (q13.own.alloc _) _ _ 1 1 [fv] rfl rfl (Rd.lit _ _ _) (by omega) (by have := q13.heap; simp; omega) ?_))
  intro A14 c14 w14 h14 _
  have q14 := (q13.alloc (.cells #[.int .u8 fv] 5)).trans h14
  obtain ⟨m14, hm14⟩ : ∃ m14, m13 + 1 = m14 := ⟨_, rfl⟩
  obtain ⟨y14, hy14⟩ : ∃ y14, y13 ++ [fv] = y14 := ⟨_, rfl⟩
  rw [hm14, hy14] at q14
  rw [hm14]
  have hm14b : m14 ≤ 1099511627776 + 422 := by omega
  have HY14 := Lib.hid hy14
  have b14 := app_bk q14 HBK.out hgo
  clear hm14 hy14 q13 b13 hm13b h14 hwru hfv0 hfv1
  have k10 : w14.cell? ⟨g, 10, none⟩ = some (.slice At nt ct) := b14.cell 10
  have hwr3 : IntKind.u64.wrap (nt : Int) = (nt : Int) := IntWalk.u64_in _ ⟨by omega, by omega⟩
  have hl3 := numEnc_u64 (x := nt) (by omega)
  have hn3 := refNumberT (base := base) (x := nt) (xs := y14) w14 q14.own (Nat.le_trans hbase2 q14.heap) (by omega) (by omega)
  have HN3 := Lib.hid hn3
  clear hn3
  go_wp2_with fail
  refine HN3.out.mono ?_
  rintro e w15 ⟨A15, c15, rfl, happ15, -⟩
  have q15 := q14.trans happ15
  obtain ⟨m15, hm15⟩ : ∃ m15, m14 + (numEnc nt).length = m15 := ⟨_, rfl⟩
  obtain ⟨y15, hy15⟩ : ∃ y15, y14 ++ numEnc nt = y15 := ⟨_, rfl⟩
  rw [hm15, hy15] at q15
  rw [hm15]
  have hm15b : m15 ≤ 1099511627776 + 432 := by omega
  have HY15 := Lib.hid hy15
  have HQ15 := Lib.hid q15
  clear hm15 hy15 q14 q15 b14 hm14b happ15 hwr3 hl3 HN3 k10
  go_wp2_with fail
  go_loopw [0, 7] (fun v iv_ wr => ∃ (A' : Option Addr) (c' m j : Nat), j ≤ nt ∧ v = .slice A' m c' ∧ iv_ = .int .i64 j ∧ m ≤ m15 + j * 300 ∧ AppT base 5 1 w2 (.slice A0 n c0) wr (.slice A' m c') m (bv (y15 ++ (s.tags.take j).flatMap tgEnc))) (fun _ i _ => nt - (intOf i).toNat)
  case atStart => exact ⟨A15, c15, m15, 0, by omega, rfl, rfl, by omega, by simpa using HQ15.out⟩
  case round =>
    obtain ⟨A', c', m, j, hj, rfl, rfl, hm, happ⟩ := hrel
    have hmb : m ≤ 1099511627776 + 6000 := by omega
    have br := app_bk happ HBK.out hgo
    have k10 : wr.cell? ⟨g, 10, none⟩ = some (.slice At nt ct) := br.cell 10
    by_cases hlt : j < nt
    · have hlt' : (j : Int) < (nt : Int) := by omega
      obtain ⟨x, hx⟩ : ∃ x, s.tags[j]? = some x := ⟨_, List.getElem?_eq_getElem (by rw [HNT.out]; exact hlt)⟩
      have hsx := L4.out x (List.mem_of_getElem? hx)
      have hlo : ∀ k, (Value.slice A0 n c0).ownBlock = some k → base ≤ k := fun k hk => HLO.out k hk
      have hbel := happ.below hbase2 hlo
      obtain ⟨b, o, e', hbb, c1, c2⟩ := RbT.get (Rd.below HF.out (hbel.mono hB)) hx
      cases e'
      have HX := Lib.hid hx
      clear hx hbel hlo
      go_wp2_with fail
      refine (pieceS x.key happ (HCE.out x.key wr).2 hsx.1 (by omega) hbase2).mono ?_
      rintro e w16 ⟨A16, c16, rfl, q16⟩
      have hl16 := pie_len x.key (by omega)
      obtain ⟨m16, hm16⟩ : ∃ m16, m + (pie x.key).length = m16 := ⟨_, rfl⟩
      rw [hm16] at q16
      rw [hm16]
      have hm16b : m16 ≤ m15 + j * 300 + 138 := by omega
      clear hm16 hl16 c1 c2 br k10
      have br := app_bk q16 HBK.out hgo
      have k10 : w16.cell? ⟨g, 10, none⟩ = some (.slice (some ⟨b, o, none⟩) nt ct) := br.cell 10
      have hlo : ∀ k, (Value.slice A0 n c0).ownBlock = some k → base ≤ k := fun k hk => HLO.out k hk
      obtain ⟨b', o', e', hbb', c1, c2⟩ := RbT.get (Rd.below HF.out ((q16.below hbase2 hlo).mono hB)) HX.out
      cases e'
      clear hlo
      go_wp2_with fail
      refine (pieceS x.val q16 (HCE.out x.val w16).2 hsx.2 (by omega) hbase2).mono ?_
      rintro e w17 ⟨A17, c17, rfl, q17⟩
      have hl17 := pie_len x.val (by omega)
      obtain ⟨m17, hm17⟩ : ∃ m17, m16 + (pie x.val).length = m17 := ⟨_, rfl⟩
      rw [hm17] at q17
      rw [hm17]
      have hm17b : m17 ≤ m15 + (j + 1) * 300 := by omega
      have e2 : y15 ++ (s.tags.take j).flatMap tgEnc ++ pie x.key ++ pie x.val = y15 ++ (s.tags.take (j + 1)).flatMap tgEnc := by
        rw [take_snoc HX.out, List.flatMap_append, List.flatMap_cons, List.flatMap_nil, List.append_nil, tgEnc, List.append_assoc, List.append_assoc]
      rw [e2] at q17
      clear e2 hm17 hl17 c1 c2 br k10 q16 happ hm16b
      go_wp2
      go_roundw
      case rel => exact ⟨A17, c17, m17, j + 1, by omega, rfl, by go_num, hm17b, q17⟩
      case measure => simp [intOf]; omega
    · have hlt' : decide ((j : Int) < (nt : Int)) = false := by simp; omega
      obtain rfl : j = nt := by omega
      have e1 : s.tags.take j = s.tags := List.take_of_length_le (by rw [HNT.out]; omega)
      rw [e1] at happ
      have hy : y15 ++ s.tags.flatMap tgEnc = zs ++ spEnc s := by
        have hk : s.kind % 256 = s.kind := by have := HH.out.1; have := HH.out.2.1; omega
        rw [← HY15.out, ← HY14.out, ← HY13.out, ← HY11.out, ← HY10.out, ← HY9.out, ← HY8.out, spEnc, spHead, hk, ← HFV.out, HNT.out, HA1.out, HA2.out, HKV.out]
        simp
      rw [hy] at happ
      have hml : m = (zs ++ spEnc s).length := by
        have := happ.own.1
        rw [bv_length] at this
        omega
      have HML := Lib.hid hml
      have HAPP := Lib.hid (HOUT.out happ)
      clear hy hml e1 happ
      go_wp2
      go_ret2
      exact .inr ⟨HK.out, A', c', m, rfl, HML.out, HAPP.out⟩
end Go.Proofs.Ytlamebbolioljaa

/- The document's span value: bootprintref23.Span. -/
namespace Go.Proofs.Ytlamebbolioljaa
open Go.RowKit
theorem loadSp_shutR2 (a : Addr) : loadVar 43 a = loadK 43 a := rfl
attribute [local go_sem ↓] loadSp_shutR2

set_option maxRecDepth 100000 in
set_option maxHeartbeats 4000000 in
theorem rSpan {At : Option Addr} {ct B nt : Nat} (a : Ad) (w : World) (hf : RbT w B At a.s.tags) (hB : B ≤ w.heap.size) (hnt : a.s.tags.length = nt) (hnl : nt ≤ 9223372036854775807) (hu : a.Ok) :
    Calls Try.prog 46 #[adV a At nt ct] w (KeyMade w (adOut a)) := by
  have hb0 : Below w.heap.size w (w.alloc (.cells (adC a At nt ct) 45)) := (Below.refl _ w).alloc (Nat.le_refl _) _
  have bk := Bk.new w 45 (adC a At nt ct)
  have hf1 := Rd.alloc hf hB (.cells (adC a At nt ct) 45)
  obtain ⟨w1, hw1⟩ : ∃ w1, w.alloc (.cells (adC a At nt ct) 45) = w1 := ⟨_, rfl⟩
  rw [hw1] at hb0 bk hf1
  obtain ⟨g, hg⟩ : ∃ g, w.heap.size = g := ⟨_, rfl⟩
  rw [hg] at bk
  have HW := Lib.hid hw1
  have HG := Lib.hid hg
  have HB0 := Lib.hid hb0
  have la := loadK_adSp bk
  have hB1 : B ≤ w1.heap.size := Nat.le_trans hB hb0.size
  have ca := rAppend (A0 := none) (c0 := 0) (B := B) (n := 0) (zs := []) (ct := ct) (base := w1.heap.size) a.s w1 (ownsT.of (World.ownsRow_nil _ _ _ _)) (Nat.le_refl _) (by omega) hB1 hf1 hnt hnl hu.1
  obtain ⟨r, hr⟩ : ∃ r, adOut a = r := ⟨_, rfl⟩
  rw [hr]
  obtain ⟨q, hq⟩ : ∃ q, spChk a.s = q := ⟨_, rfl⟩
  unfold AppPostT at ca
  rw [hq] at ca
  simp only [List.nil_append] at ca
  have CA := Lib.hid ca
  clear hw1 hg hb0 hf1 ca hf hB hB1
  by_cases hq0 : q = 0
  case neg =>
    have HR : Hid (r = ([], q)) := by
      rw [← hr, adOut, adChk, hq, if_pos hq0, if_neg hq0]
      exact Lib.hid rfl
    have d : ((q : Int) != 0) = true := by rw [bne_iff_ne]; omega
    have HQ := Lib.hid hq0
    clear hr hq hq0
    go_enter Try.func46, Try.ntmps46
    go_upto_region 1 with fail
    rw [HW.out, HG.out]
    go_wp2_with fail
    refine CA.out.mono ?_
    rintro e w2 (⟨-, rfl, hb2⟩ | ⟨h, -⟩)
    · go_wp2
      go_ret2
      exact .no HR.out rfl (HB0.out.trans (hb2.mono HB0.out.size))
    · exact absurd h HQ.out
  case pos =>
    subst hq0
    have HQ := Lib.hid hq
    go_enter Try.func46, Try.ntmps46
    go_upto_region 1 with fail
    rw [HW.out, HG.out]
    go_wp2_with fail
    refine CA.out.mono ?_
    rintro e w2 (⟨h, -⟩ | ⟨-, A2, c2, m, rfl, hm, happ⟩)
    · exact absurd rfl h
    have hb2 : Below w1.heap.size w1 w2 := happ.below (Nat.le_refl _) (fun k hk => by cases hk)
    have bk2 := bk.bS hb2
    have hbw := HB0.out.trans (hb2.mono HB0.out.size)
    obtain ⟨e0, he0⟩ : ∃ e0, spEnc a.s = e0 := ⟨_, rfl⟩
    rw [he0] at happ hm
    have HM := Lib.hid hm
    have hml : m ≤ 100000 := by rw [hm, ← he0]; exact spEnc_small hq
    have k11 : w2.cell? ⟨g, 11, none⟩ = some (.int .u64 a.up) := bk2.cell 11
    have k12 : w2.cell? ⟨g, 12, none⟩ = some (.int .i64 a.shift) := bk2.cell 12
    have k13 : w2.cell? ⟨g, 13, none⟩ = some (.int .i64 a.flag) := bk2.cell 13
    have hcs : (a.flag < 0 ∧ r = ([], 2)) ∨ (0 ≤ a.flag ∧ 2 < a.flag ∧ r = ([], 2)) ∨ (0 ≤ a.flag ∧ a.flag ≤ 2 ∧ r = (adEnc a, 0)) := by
      have h0 : ¬ (0 : Nat) ≠ 0 := by simp
      by_cases h1 : a.flag < 0
      · have hc : adChk a = 2 := by rw [adChk, hq, if_neg h0, if_pos (Or.inl h1)]
        exact .inl ⟨h1, by rw [← hr, adOut, hc, if_neg (by omega)]⟩
      · by_cases h2 : 2 < a.flag
        · have hc : adChk a = 2 := by rw [adChk, hq, if_neg h0, if_pos (Or.inr h2)]
          exact .inr (.inl ⟨by omega, h2, by rw [← hr, adOut, hc, if_neg (by omega)]⟩)
        · have hc : adChk a = 0 := by rw [adChk, hq, if_neg h0, if_neg (by omega)]
          exact .inr (.inr ⟨by omega, by omega, by rw [← hr, adOut, if_pos hc]⟩)
    have HE0 := Lib.hid he0
    have HGL := Lib.hid bk.lt
    clear la hb2 hr hq CA bk he0 hm
    rcases hcs with ⟨h1, he⟩ | ⟨h1, h2, he⟩ | ⟨h1, h2, he⟩
    · have HR := Lib.hid he
      clear he
      go_wp2
      go_ret2
      exact .no HR.out rfl hbw
    · have HR := Lib.hid he
      clear he
      go_wp2
      go_ret2
      exact .no HR.out rfl hbw
    · have HR := Lib.hid he
      obtain ⟨y, hy⟩ : ∃ y, shU a.shift = y := ⟨_, rfl⟩
      have hsh := shU_wrap hu.2.2.1 hu.2.2.2
      rw [hy] at hsh
      have hylt : y < 18446744073709551616 := by rw [← hy]; exact shU_lt hu.2.2.2
      have hup := hu.2.1
      have hb2s : w1.heap.size ≤ w2.heap.size := happ.heap
      have hrow : (Value.slice A2 m c2).ownBlock ≠ some g := fun e => by
        have h1 := (happ.own.lt g e).1
        have h2 := HGL.out
        omega
      have HAD : Hid (adEnc a = e0 ++ ordEnc a.up ++ ordEnc y ++ [a.flag]) := by rw [adEnc, HE0.out, hy, show a.flag % 256 = a.flag from by omega]; simp [itsEnc, itEnc]; exact Lib.hid trivial
      have c1 := refOrderedT (x := a.up) w2.drew happ.drew.own hb2s hup (by omega)
      have C1 := Lib.hid c1
      have HBW := Lib.hid hbw
      have HAP := Lib.hid happ
      have HBK := Lib.hid bk2
      have HSH := Lib.hid hy
      clear he hy c1 hbw happ bk2
      have hwru : IntKind.u8.wrap a.flag = a.flag := by rw [IntKind.wrap_u8]; omega
      go_upto_region 6 with fail
      have bk6 := HBK.out.drew
      have t11 : w2.drew.cell? ⟨g, 11, none⟩ = some (.int .u64 a.up) := bk6.cell 11
      have t12 : w2.drew.cell? ⟨g, 12, none⟩ = some (.int .i64 a.shift) := bk6.cell 12
      go_region_held3 (fun w' => w'.cell? ⟨g, 11, none⟩ = some (.int .u64 a.up) ∧ w'.cell? ⟨g, 12, none⟩ = some (.int .i64 a.shift)) (go_keep)
        (first
          | (go_at_call_of 58 (Value.int IntKind.u64 (a.up : Int))
             refine C1.out.mono ?_
             rintro e w3 ⟨A3, c3, rfl, h3, -⟩
             have bk3 := bk6.grown h3.grown (fun e => hrow e.symm)
             have s11 : w3.cell? ⟨g, 11, none⟩ = some (.int .u64 a.up) := bk3.cell 11
             have s12 : w3.cell? ⟨g, 12, none⟩ = some (.int .i64 a.shift) := bk3.cell 12
             have c2 := refOrderedT (x := y) w3 h3.own (Nat.le_trans hb2s h3.heap) hylt (by omega)
             have C2 := Lib.hid c2
             clear c2)
          | (go_at_call_of 58 (Value.int IntKind.u64 (y : Int))
             refine C2.out.mono ?_
             rintro e w4 ⟨A4, c4, rfl, h4, -⟩
             have h34 := h3.trans h4
             have bk4 := bk6.grown h34.grown (fun e => hrow e.symm)
             have r11 : w4.cell? ⟨g, 11, none⟩ = some (.int .u64 a.up) := bk4.cell 11
             have r12 : w4.cell? ⟨g, 12, none⟩ = some (.int .i64 a.shift) := bk4.cell 12)
          | fail)
      have r13 : w4.cell? ⟨g, 13, none⟩ = some (.int .i64 a.flag) := bk4.cell 13
      have h04 := HAP.out.drew.trans h34
      have hl3 : m + 8 + 8 + 1 ≤ 140737488355328 := by omega
      clear s11 s12 r11 r12 h3 h4 h34 bk3 bk4
      go_wp2_with (at_builtin; go_loud (refine wpList_appbT _ rfl (.tmp 32) (.tmp 36) rfl w1.heap.size _ (m + 8 + 8) (e0 ++ ordEnc a.up ++ ordEnc y) rfl (h04.own.alloc _) _ _ 1 1 [a.flag] rfl rfl (Rd.lit _ _ _) hl3 (by have := h04.heap; simp; omega) ?_))
      intro A5 c5 w5 h5 _
      have h05 := (h04.alloc (.cells #[.int .u8 a.flag] 5)).trans h5
      go_wp2_with fail
      go_ret2
      have hlen : (adEnc a).length = m + 8 + 8 + 1 := by
        rw [HAD.out, HM.out]
        simp [ordEnc_len]
      rw [HR.out]
      have had2 : adEnc a = e0 ++ (ordEnc a.up ++ (ordEnc y ++ [a.flag])) := by rw [HAD.out]; simp
      rw [← had2, ← hlen] at h05
      have hn := BytNew.of h05
      have hno : A5 = none → (adEnc a, 0).1 = [] ∧ c5 = 0 := fun hA => by
        exfalso
        subst hA
        obtain ⟨b, o, e, _⟩ := hn.rd (by rw [HAD.out]; simp [bv])
        cases e
      exact ⟨A5, c5, by rw [hlen]; rfl, hn.rd, HB0.out.trans (hn.bel.mono HB0.out.size), hn.cap, hno, fun x e => Nat.le_trans HB0.out.size (hn.new x e)⟩
end Go.Proofs.Ytlamebbolioljaa

/- The document's put: bootprintref23.(*writer).put. -/
namespace Go.Proofs.Ytlamebbolioljaa
open Go.RowKit
theorem loadKy_shutRC (a : Addr) : loadVar 26 a = loadK 26 a := rfl
attribute [local go_sem ↓] loadKy_shutRC

/-- The memory of the document's put: the writer, its list. -/
structure RuM (w0 W : World) (gx lo : Nat) (A : Option Addr) (j c : Nat) (acc : List Wr) (hs : List Value) : Prop where
  bx : Bk W gx 95 #[.slice A j c]
  ws : WsU 48 W w0.heap.size lo A j c acc hs
  bel : Below w0.heap.size w0 W
  ge : w0.heap.size ≤ gx
  lt : gx < lo
section
variable {w0 W W' : World} {gx lo : Nat} {A : Option Addr} {j c : Nat} {acc : List Wr} {hs : List Value}
theorem RuM.below (h : RuM w0 W gx lo A j c acc hs) (hb : Below W.heap.size W W') : RuM w0 W' gx lo A j c acc hs :=
  ⟨h.bx.below hb h.bx.lt, h.ws.below hb, h.bel.trans (hb.mono h.bel.size), h.ge, h.lt⟩
end
def RuPost (w0 W : World) (gx lo : Nat) (A : Option Addr) (j c : Nat) (acc' : List Wr) (e : Ending) (w' : World) : Prop :=
  (∃ v, e = .returned v) ∧ ∃ A' j' c' hs', RuM w0 w' gx lo A' j' c' acc' hs' ∧ j' ≤ j + 1 ∧ PuF W w' gx gx (.slice A j c) (.slice A' j' c')
theorem strEqC {s t : ByteArray} : (s.toList == t.toList) = decide (s = t) := by
  by_cases h : s = t
  · subst h; simp
  · rw [decide_eq_false h, beq_eq_false_iff_ne, ByteArray.toList_eq, ByteArray.toList_eq]
    exact fun e => h (ByteArray.ext (Array.ext' e))
theorem hasS_take {acc : List Wr} {i : Nat} {x : Wr} {s : ByteArray} (hx : acc[i]? = some x) (h : hasS (keyStrs (acc.take i)) s = false) : hasS (keyStrs (acc.take (i + 1))) s = decide (strOfNums x.key = s) := by
  rw [take_snoc hx]
  have h1 : keyStrs (acc.take i ++ [x]) = keyStrs (acc.take i) ++ [strOfNums x.key] := by simp [keyStrs]
  rw [h1]
  rw [hasS_not] at h
  by_cases he : strOfNums x.key = s
  · subst he
    rw [hasS_iff.2 (by simp)]
    simp
  · rw [hasS_not.2 (by simp [h]; exact fun e => he e.symm)]
    simp [he]
set_option maxRecDepth 100000 in
set_option maxHeartbeats 4000000 in
theorem rPut {w0 W : World} {gx lo j c nv cv : Nat} {A Va : Option Addr} {acc : List Wr} {hs : List Value} (k : Ky) (vs : List Int) (h : RuM w0 W gx lo A j c acc hs) (hu : k.U64) (hj : j ≤ 10000)
    (hv : Rb W W.heap.size Va vs) (hnv : vs.length = nv) (hcv : nv ≤ cv) (hvb : vs ≠ [] → ∀ a, Va = some a → (a.block < w0.heap.size ∨ lo ≤ a.block) ∧ (Value.slice A j c).ownBlock ≠ some a.block) (hvz : Va = none → cv = 0) :
    Calls Try.prog 48 #[.pointer (some ⟨gx, 0, none⟩), kyV k, .slice Va nv cv] W (RuPost w0 W gx lo A j c (putW acc k vs)) := by
  obtain ⟨r, hr⟩ : ∃ r, packOf k = r := ⟨_, rfl⟩
  have hpu : putW acc k vs = if hasS (keyStrs acc) (strOfNums r.1) = true then acc else acc ++ [⟨1, r.1, vs⟩] := by rw [← hr]; rfl
  rw [hpu]
  obtain ⟨acc', hacc⟩ : ∃ acc', (if hasS (keyStrs acc) (strOfNums r.1) = true then acc else acc ++ [⟨1, r.1, vs⟩]) = acc' := ⟨_, rfl⟩
  rw [hacc]
  have HA := Lib.hid hacc
  have hb0 : Below W.heap.size W (W.alloc (.cells (kyC k) 26)) := (Below.refl _ W).alloc (Nat.le_refl _) _
  have bk := Bk.new W 26 (kyC k)
  obtain ⟨w1, hw1⟩ : ∃ w1, W.alloc (.cells (kyC k) 26) = w1 := ⟨_, rfl⟩
  rw [hw1] at hb0 bk
  have la := loadK_ky bk
  have hc := rPackK k w1 hu
  rw [hr] at hc
  have HC := Lib.hid hc
  have HW := Lib.hid hw1
  have HB0 := Lib.hid hb0
  have HM := Lib.hid h
  clear hr hpu hw1 hc h bk hacc
  go_enter Try.func48, Try.ntmps48
  go_upto_region 1 with fail
  rw [HW.out]
  go_upto_region 2 with (go_at_call 11; refine HC.out.mono ?_; rintro e w2 ⟨A2, c2, rfl, hr2, hb2, hl2, hz2, hk2⟩)
  have hbw : Below W.heap.size W w2 := HB0.out.trans (hb2.mono HB0.out.size)
  have m2 := HM.out.below hbw
  have HBW := Lib.hid hbw
  have HM2 := Lib.hid m2
  have hw2s := hbw.size
  have hlen : acc.length = j := m2.ws.len
  have HLEN := Lib.hid hlen
  have HB0s := HB0.out.size
  clear hb2 hbw m2 hlen hb0 la
  go_wp2_with fail
  go_loopw [8] (fun iv_ wr => ∃ (i : Nat) (d : Nat), i ≤ j ∧ iv_ = .int .i64 i ∧ hasS (keyStrs (acc.take i)) (strOfNums r.1) = false ∧ wr = w2.drewN d) (fun i _ => j - (intOf i).toNat)
  case atStart => exact ⟨0, 0, by omega, rfl, rfl, rfl⟩
  case round =>
    obtain ⟨i, d, hi, rfl, hno, rfl⟩ := hrel
    have m3 := HM2.out
    have kx0 : w2.cell? ⟨gx, 0, none⟩ = some (.slice A j c) := m3.bx.cell 0
    have kx : (w2.drewN d).cell? ⟨gx, 0, none⟩ = some (.slice A j c) := m3.bx.cell 0
    by_cases hlt : i < j
    · have hlt' : (i : Int) < (j : Int) := by omega
      obtain ⟨x, hx⟩ : ∃ x, acc[i]? = some x := ⟨_, List.getElem?_eq_getElem (by rw [HLEN.out]; exact hlt)⟩
      obtain ⟨b, o, B1, d1, B2, d2, rfl, hbb, e1, e2, e3, hl1, hr1, -⟩ := RbW.get m3.ws.rbw hx
      have e2' : (w2.drewN d).cell? ⟨b, o + i * 3 + 1, none⟩ = some (.slice B1 x.key.length d1) := e2
      have es' : (convert 27 9 (.slice B1 x.key.length d1)).run Try.prog (w2.drewN (d + 1)) = .ok (.string (strOfNums x.key)) (w2.drewN (d + 1)) := Rb.str (P := Try.prog) (Rd.drewN hr1 (d + 1)) Try.underlying27 Try.underlying5 Try.underlying9 d1
      have es2' : (convert 27 9 (.slice A2 r.1.length c2)).run Try.prog (w2.drewN (d + 1)) = .ok (.string (strOfNums r.1)) (w2.drewN (d + 1)) := Rb.str (P := Try.prog) (Rd.drewN hr2 (d + 1)) Try.underlying27 Try.underlying5 Try.underlying9 c2
      have es : (convert 27 9 (.slice B1 x.key.length d1)).run Try.prog (w2.drewN d) = .ok (.string (strOfNums x.key)) (w2.drewN d) := Rb.str (P := Try.prog) (Rd.drewN hr1 d) Try.underlying27 Try.underlying5 Try.underlying9 d1
      have es2 : (convert 27 9 (.slice A2 r.1.length c2)).run Try.prog (w2.drewN d) = .ok (.string (strOfNums r.1)) (w2.drewN d) := Rb.str (P := Try.prog) (Rd.drewN hr2 d) Try.underlying27 Try.underlying5 Try.underlying9 c2
      have hst := hasS_take hx hno
      have HST := Lib.hid hst
      have HX := Lib.hid hx
      clear hst hx hno e1 e3 hr1 m3
      by_cases hq : strOfNums x.key = strOfNums r.1
      · have hd : ((strOfNums x.key).toList == (strOfNums r.1).toList) = true := by rw [strEqC, decide_eq_true hq]
        have HQ := Lib.hid hq
        clear hq
        go_wp2_with fail
        go_region
        all_goals go_wp2_with fail
        all_goals go_end0
        all_goals
          have hmem : hasS (keyStrs acc) (strOfNums r.1) = true := by
            have h1 := HST.out
            rw [decide_eq_true HQ.out, hasS_iff, keyStrs] at h1
            obtain ⟨z, h2, h3⟩ := List.mem_map.1 h1
            rw [hasS_iff, keyStrs]
            exact List.mem_map.2 ⟨z, List.mem_of_mem_take h2, h3⟩
          have hacc' : acc = acc' := by rw [← HA.out, if_pos hmem]
          rw [← hacc']
          exact ⟨⟨_, rfl⟩, _, j, c, hs, HM2.out.below (below_drewN (Below.refl _ w2) (d + 1)), by omega, (below_drewN HBW.out (d + 1)).size, fun b hb _ _ _ => (below_drewN HBW.out (d + 1)).block b hb, .inl rfl⟩
      · have hd : ((strOfNums x.key).toList == (strOfNums r.1).toList) = false := by rw [strEqC, decide_eq_false hq]
        have HQ := Lib.hid hq
        clear hq
        go_wp2_with fail
        go_region
        all_goals go_wp2_with fail
        all_goals exact ⟨⟨i + 1, d + 1, by omega, by simp, by rw [HST.out, decide_eq_false HQ.out], rfl⟩, by simp only [intOf]; omega⟩
    · have hij : i = j := by omega
      subst hij
      have htk : acc.take i = acc := List.take_of_length_le (by rw [HLEN.out]; exact Nat.le_refl _)
      rw [htk] at hno
      have hacc' : acc ++ [⟨1, r.1, vs⟩] = acc' := by rw [← HA.out, if_neg (by rw [hno]; simp)]
      have m4 := HM2.out.below (below_drewN (Below.refl _ w2) d)
      have hbw4 := below_drewN HBW.out d
      have hr4 := Rd.drewN hr2 d
      have hs4 : (w2.drewN d).heap.size = w2.heap.size := rfl
      obtain ⟨w3, hw3⟩ : ∃ w3, w2.drewN d = w3 := ⟨_, rfl⟩
      rw [hw3] at m4 hbw4 hr4 kx hs4 ⊢
      have hr5 : Rb w3 w3.heap.size A2 r.1 := by rw [hs4]; exact hr4
      have hv3 : Rb w3 w3.heap.size Va vs := hv.belowS hbw4
      have hltb := m4.lt
      have hge2 := m4.ge
      have hlo3 := m4.ws.hlo
      have HACC := Lib.hid hacc'
      have HM4 := Lib.hid m4
      have HBW4 := Lib.hid hbw4
      have HV3 := Lib.hid hv3
      have HR5 := Lib.hid hr5
      have wsa := m4.ws.own.alloc (.cells #[.int .i64 1, .slice A2 r.1.length c2, .slice Va nv cv] 48)
      clear hw3 hno htk kx0 m3 hacc' m4 hbw4 hv3 hr4 hr5 hr2 hv hs4
      go_wp2_with (first
        | (at_builtin
           go_loud (refine wpList_appW _ rfl (.tmp 39) (.tmp 43) rfl lo _ i hs rfl wsa (w3.heap.size + 1) (some ⟨w3.heap.size, 0, none⟩) 1 [.int .i64 1, .slice A2 r.1.length c2, .slice Va nv cv] rfl rfl (Rd.lit w3 #[.int .i64 1, .slice A2 r.1.length c2, .slice Va nv cv] _) (by simp [Value.oneCell']) (by omega) (by simp; omega) ?_)
           intro A6 c6 w6 happ
           have b6x := (HM4.out.bx.alloc (.cells #[.int .i64 1, .slice A2 r.1.length c2, .slice Va nv cv] 48)).grown happ.grown (fun e => by have := (HM4.out.ws.own.lt gx e.symm).1; omega)
           have kx6 : w6.cell? ⟨gx, 0, none⟩ = some (.slice A i c) := b6x.cell 0
           have fx6 : w6.frozen? ⟨gx, 0, none⟩ = false := b6x.frozen 0))
      go_end0
      rw [← HACC.out]
      have ws3 := HM4.out.ws
      have hst : w6.grownBy (w6.setCell ⟨gx, 0, none⟩ (.slice A6 (i + 1) c6)) (some gx) := only_set (World.grownBy.refl _ _) _ _
      have hal : Below w3.heap.size w3 (w3.alloc (.cells #[.int .i64 1, .slice A2 r.1.length c2, .slice Va nv cv] 48)) := (Below.refl _ w3).alloc (Nat.le_refl _) _
      have hown : ∀ b, (Value.slice A i c).ownBlock = some b → lo ≤ b := fun b e => (ws3.own.lt b e).1
      have b2 := HM4.out.bel
      have b3 := b2.trans (hal.mono b2.size)
      have b4 := b3.trans (grown_below happ.grown b3.size (fun b e => by have := hown b e; omega))
      have b5 := b4.trans (grown_below hst b4.size (fun b e => by cases e; exact hge2))
      have hsz : w3.heap.size + 1 ≤ w6.heap.size := by have := happ.grown.size; simpa using this
      have hsz2 : w6.heap.size ≤ (w6.setCell ⟨gx, 0, none⟩ (.slice A6 (i + 1) c6)).heap.size := hst.size
      have hszW := HBW4.out.size
      have wsb := (ws3.below hal).push (x := ⟨1, r.1, vs⟩) (by rw [hnv]; exact happ) (HR5.out.belowS hal) hl2 (HV3.out.belowS hal) (by rw [hnv]; exact hcv)
        (fun _ a ha => by
          have h1 := hk2 a ha
          have h2 := HM.out.ws.hlo
          refine ⟨by omega, fun e => ?_⟩
          have h3 := (HM.out.ws.own.lt a.block e).2
          omega) hvb (fun e => (hz2 e).2) hvz
      rw [hnv] at wsb
      refine ⟨⟨_, rfl⟩, A6, i + 1, c6, _, ⟨b6x.set 0 _, wsb.beside hst (fun b e => by cases e; exact ⟨hge2, hltb⟩), b5, hge2, hltb⟩, Nat.le_refl _, by omega, fun b hb h1 h2 h3 => ?_, ?_⟩
      · have e1 := hst.block b (by omega) (fun e => h2 (Option.some.inj e))
        have e2 := happ.grown.block b (by simp; omega) (fun e => h3 e.symm)
        have e3 := hal.block b (by omega)
        exact e1.trans (e2.trans (e3.trans (HBW4.out.block b hb)))
      · rcases happ.block with h | ⟨b, h1, h2⟩
        · exact .inl h
        · exact .inr ⟨b, h1, by simp at h2; omega⟩
end Go.Proofs.Ytlamebbolioljaa

/- The document's put beside a span's box. -/
namespace Go.Proofs.Ytlamebbolioljaa
open Go.RowKit

/-- The document's writer, and the box of the span whose keys are put. -/
structure RwM (u0 W : World) (gx lo g : Nat) (s : Sp) (A : Option Addr) (n c : Nat) (acc : List Wr) : Prop where
  ru : ∃ A' j c' hs, RuM u0 W gx lo A' j c' acc hs ∧ (Value.slice A' j c').ownBlock ≠ some g
  bk : Bk W g 43 (spC s A n c)
  hg : lo ≤ g
section
variable {u0 W W' : World} {gx lo g n c : Nat} {s : Sp} {A : Option Addr} {acc : List Wr}
theorem RwM.bel (h : RwM u0 W gx lo g s A n c acc) : Below u0.heap.size u0 W := by
  obtain ⟨A', j, c', hs, h, -⟩ := h.ru
  exact h.bel
theorem RwM.below (h : RwM u0 W gx lo g s A n c acc) (hb : Below W.heap.size W W') : RwM u0 W' gx lo g s A n c acc := by
  obtain ⟨A', j, c', hs, h1, h2⟩ := h.ru
  exact ⟨⟨A', j, c', hs, h1.below hb, h2⟩, h.bk.below hb h.bk.lt, h.hg⟩
theorem RwM.drewN (h : RwM u0 W gx lo g s A n c acc) (d : Nat) : RwM u0 (W.drewN d) gx lo g s A n c acc := h.below (below_drewN (Below.refl _ _) d)
theorem RwM.drew (h : RwM u0 W gx lo g s A n c acc) : RwM u0 W.drew gx lo g s A n c acc := h.drewN 1
/-- Behind a put: what it leaves alone. -/
theorem RwM.put {A1 A2 : Option Addr} {j1 c1 j2 c2 : Nat} {acc' : List Wr} {hs2 : List Value} (hbk : Bk W g 43 (spC s A n c)) (hg : lo ≤ g) (hx : gx < lo) (ho : (Value.slice A1 j1 c1).ownBlock ≠ some g)
    (h : RuM u0 W' gx lo A2 j2 c2 acc' hs2) (hf : PuF W W' gx gx (.slice A1 j1 c1) (.slice A2 j2 c2)) : RwM u0 W' gx lo g s A n c acc' := by
  have hl := hbk.lt
  refine ⟨⟨A2, j2, c2, hs2, h, fun e => ?_⟩, (hf.2.1 g hl (by omega) (by omega) ho).trans hbk, hg⟩
  rcases hf.2.2 with h1 | ⟨b, h1, h2⟩
  · exact ho (h1.symm.trans e)
  · rw [h1] at e
    cases e
    omega
/-- A put without a value. -/
theorem rPutN (k : Ky) (h : RwM u0 W gx lo g s A n c acc) (hu : k.U64) (hl : acc.length ≤ 10000) :
    Calls Try.prog 48 #[.pointer (some ⟨gx, 0, none⟩), kyV k, .slice none 0 0] W fun e w' => (∃ v, e = .returned v) ∧ RwM u0 w' gx lo g s A n c (putW acc k []) := by
  obtain ⟨A', j, c', hs, h1, h2⟩ := h.ru
  refine (rPut (Va := none) (nv := 0) (cv := 0) k [] h1 hu (by have := h1.ws.len; omega) Rd.nil rfl (Nat.le_refl _) (fun h => absurd rfl h) (fun _ => rfl)).mono ?_
  rintro e w' ⟨hv, A2, j2, c2, hs2, h3, -, hf⟩
  exact ⟨hv, RwM.put h.bk h.hg h1.lt h2 h3 hf⟩
end
set_option maxRecDepth 100000 in
theorem loadK_aeSp {w : World} {b o i : Nat} {e : AE} (h : ∀ j, j < 14 → w.cell? ⟨b, o + (i * 14 + j), none⟩ = (aeC e)[j]?) : (loadK 43 ⟨b, o + i * 14, none⟩).run Try.prog w = .ok (spV e.a.s e.A e.n e.c) w :=
  run_loadVar_cellsK w _ _ ⟨b, o + i * 14, none⟩ (spC e.a.s e.A e.n e.c).toList Try.underlying43 rfl (by rfl) (fun j v hv => by
    have hj : j < 11 := (List.getElem?_eq_some_iff.1 hv).1
    rw [Addr.add_lit, Nat.add_assoc, h j (by omega), ← hv]
    have : j = 0 ∨ j = 1 ∨ j = 2 ∨ j = 3 ∨ j = 4 ∨ j = 5 ∨ j = 6 ∨ j = 7 ∨ j = 8 ∨ j = 9 ∨ j = 10 := by omega
    rcases this with rfl | rfl | rfl | rfl | rfl | rfl | rfl | rfl | rfl | rfl | rfl <;> rfl)
end Go.Proofs.Ytlamebbolioljaa

/- The document's bounds: bootprintref23.bounds. -/
namespace Go.Proofs.Ytlamebbolioljaa
open Go.RowKit
set_option maxRecDepth 100000 in
set_option maxHeartbeats 2000000 in
theorem rBounds {A : Option Addr} {n c B : Nat} (l : List AE) (w : World) (h : RbA w B A l) (hn : l.length = n) (hB : B ≤ w.heap.size) (h0 : 0 < n) (hnl : n ≤ 1000) (ht : ∀ e ∈ l, e.Tm) :
    Calls Try.prog 47 #[.slice A n c] w fun e w' => e = .returned (.tuple #[.int .i64 (bnds l).1, .int .i64 (bnds l).2]) ∧ Below w.heap.size w w' := by
  have HN := Lib.hid hn
  obtain ⟨y, hy⟩ : ∃ y, l[0]? = some y := ⟨_, List.getElem?_eq_getElem (by rw [hn]; exact h0)⟩
  have h0i : (0 : Int) < (n : Int) := by omega
  obtain ⟨b, o, e', hbB, hd, -⟩ := RbA.get h hy
  cases e'
  have bd := fun (W : World) (hW : Below w.heap.size w W) (k : Nat) (hk : k < 14) => (hW.cell (show b < _ by omega)).trans (hd k hk)
  have d6 : w.drew.cell? ⟨b, o + 7, none⟩ = some (.int .i64 y.a.s.start) := hd 7 (by omega)
  have d7 : w.drew.cell? ⟨b, o + 8, none⟩ = some (.int .i64 y.a.s.length) := hd 8 (by omega)
  have tm := ht y (List.mem_of_getElem? hy)
  have hw : IntKind.i64.wrap (y.a.s.start + y.a.s.length) = y.a.s.start + y.a.s.length := IntWalk.i64_in _ (by unfold AE.Tm at tm; constructor <;> omega)
  have ht1 : l.take 1 = [y] := by
    have := take_snoc hy
    simpa using this
  have hb1 : bnds (l.take 1) = (y.a.s.start, y.a.s.start + y.a.s.length) := by rw [ht1, bnds_one]
  have HB1 := Lib.hid hb1
  have HH := Lib.hid h
  have HT := Lib.hid ht
  clear hn h ht hy bd hd tm ht1 hb1
  go_enter Try.func47, Try.ntmps47
  go_wp2_with fail
  go_region
  all_goals go_wp2_with fail
  all_goals go_loopw [4, 5, 6] (fun f t iv_ wr => ∃ j : Nat, 1 ≤ j ∧ j ≤ n ∧ iv_ = .int .i64 j ∧ f = .int .i64 (bnds (l.take j)).1 ∧ t = .int .i64 (bnds (l.take j)).2 ∧ Below w.heap.size w wr) (fun _ _ i _ => n - (intOf i).toNat)
  case atStart => exact ⟨1, by omega, by omega, rfl, by rw [HB1.out], by rw [HB1.out], (Below.refl _ w).drew⟩
  case round =>
    obtain ⟨j, hj1, hj, rfl, rfl, rfl, hbr⟩ := hrel
    by_cases hlt : j < n
    · have hlt' : (j : Int) < (n : Int) := by omega
      obtain ⟨x, hx⟩ : ∃ x, l[j]? = some x := ⟨_, List.getElem?_eq_getElem (by rw [HN.out]; exact hlt)⟩
      obtain ⟨b', o', e', hbb, hc, -⟩ := RbA.get (HH.out.below (hbr.mono hB)) hx
      cases e'
      have c6 : wr.drew.cell? ⟨b, o + j * 14 + 7, none⟩ = some (.int .i64 x.a.s.start) := hc 7 (by omega)
      have c7 : wr.drew.cell? ⟨b, o + j * 14 + 8, none⟩ = some (.int .i64 x.a.s.length) := hc 8 (by omega)
      have tm := HT.out x (List.mem_of_getElem? hx)
      have hw : IntKind.i64.wrap (x.a.s.start + x.a.s.length) = x.a.s.start + x.a.s.length := IntWalk.i64_in _ (by unfold AE.Tm at tm; constructor <;> omega)
      have hne : l.take j ≠ [] := fun e => by
        have h := congrArg List.length e
        rw [List.length_take, HN.out] at h
        simp at h
        omega
      have hb1 : bnds (l.take (j + 1)) = bndStep (bnds (l.take j)) x := by rw [take_snoc hx, bnds_snoc hne]
      have HB2 := Lib.hid hb1
      clear hb1 hne hc tm hx
      go_wp2_with fail
      go_region
      all_goals go_wp2_with fail
      all_goals
        refine ⟨⟨j + 1, by omega, by omega, by simp, ?_, ?_, hbr.drew⟩, by simp only [intOf]; omega⟩
        · rw [HB2.out]
          simp only [bndStep]
          congr 1
          split <;> omega
        · rw [HB2.out]
          simp only [bndStep]
          congr 1
          split <;> omega
    · have hjn : j = n := by omega
      subst hjn
      have htk : l.take j = l := List.take_of_length_le (by rw [HN.out]; exact Nat.le_refl _)
      rw [htk]
      go_wp2
      go_ret2
      exact ⟨rfl, hbr⟩
end Go.Proofs.Ytlamebbolioljaa

/- The document's Writes: the walk (its answer: wrOut). -/
namespace Go.Proofs.Ytlamebbolioljaa
open Go.RowKit
theorem loadAd_shutE (a : Addr) : loadVar 45 a = loadK 45 a := rfl
attribute [local go_sem ↓] loadAd_shutE
theorem loadSp_shutE (a : Addr) : loadVar 43 a = loadK 43 a := rfl
attribute [local go_sem ↓] loadSp_shutE

set_option maxRecDepth 100000 in
theorem rWritesNone (w : World) (c : Nat) (A : Option Addr) : Calls Try.prog 20 #[.slice A 0 c] w (WrsPost w ([], 2)) := by
  go_enter Try.func20, Try.ntmps20
  go_wp2
  go_ret2
  exact WrsPost.no (Below.refl _ _)
set_option maxRecDepth 100000 in
theorem rWritesLong (w : World) (n c : Nat) (A : Option Addr) (h : 32 < n) : Calls Try.prog 20 #[.slice A n c] w (WrsPost w ([], 3)) := by
  have h0 : ((n : Int) == 0) = false := by simp; omega
  have h1 : decide ((32 : Int) < (n : Int)) = true := by simp; omega
  go_enter Try.func20, Try.ntmps20
  go_wp2
  go_ret2
  exact WrsPost.no (Below.refl _ _)
theorem wrErr_snocE (x : AE) : ∀ (l : List AE), wrErr (l ++ [x]) = if wrErr l ≠ 0 then wrErr l else adChk x.a
  | [] => by
    by_cases h : adChk x.a = 0 <;> simp [wrErr, h]
  | y :: l => by
    have ih := wrErr_snocE x l
    by_cases h : adChk y.a = 0
    · simp [wrErr, h, ih]
    · simp [wrErr, h]
theorem wrErr_appE (b : List AE) : ∀ (a : List AE), wrErr (a ++ b) = if wrErr a ≠ 0 then wrErr a else wrErr b
  | [] => rfl
  | y :: l => by
    have ih := wrErr_appE b l
    by_cases h : adChk y.a = 0
    · simp [wrErr, h, ih]
    · simp [wrErr, h]
theorem badAt_zero (l : List AE) : badAt l 0 = false := by
  unfold badAt
  cases h : l[0]? with
  | none => rfl
  | some e => simp
set_option maxRecDepth 100000 in
set_option maxHeartbeats 4000000 in
theorem rWrites {A : Option Addr} {n c B : Nat} (l : List AE) (w : World) (h : RbA w B A l) (hn : l.length = n) (hB : B ≤ w.heap.size) (h0 : 0 < n) (h32 : n ≤ 32) :
    Calls Try.prog 20 #[.slice A n c] w (WrsPost w (wrOut l)) := by
  have d0 : ((n : Int) == 0) = false := by simp; omega
  have d1 : decide ((32 : Int) < (n : Int)) = false := by simp; omega
  have HN := Lib.hid hn
  have HH := Lib.hid h
  clear hn h
  go_enter Try.func20, Try.ntmps20
  go_wp2_with fail
  go_loopw [4] (fun iv_ wr => ∃ (j : Nat), j ≤ n ∧ iv_ = .int .i64 j ∧ wrErr (l.take j) = 0 ∧ Below w.heap.size w wr) (fun i _ => n - (intOf i).toNat)
  case atStart => exact ⟨0, by omega, rfl, rfl, Below.refl _ _⟩
  case round =>
    obtain ⟨j, hj, rfl, he, hbr⟩ := hrel
    by_cases hlt : j < n
    · have hlt' : (j : Int) < (n : Int) := by omega
      obtain ⟨x, hx⟩ : ∃ x, l[j]? = some x := ⟨_, List.getElem?_eq_getElem (by rw [HN.out]; exact hlt)⟩
      obtain ⟨b, o, e', hbb, hc, hok⟩ := RbA.get (HH.out.below (hbr.mono hB)) hx
      cases e'
      have la := loadK_ae (e := x) hc
      have HX := Lib.hid hx
      have hcs := rSpan (At := x.A) (ct := x.c) (B := B) x.a wr hok.rd (Nat.le_trans hB hbr.size) hok.len hok.max hok.ok
      have HC := Lib.hid hcs
      clear hc hx hcs
      go_wp2_with fail
      refine HC.out.mono ?_
      rintro e w3 ⟨A3, c3, rfl, hr3, hb3, hl3, hz3, hk3⟩
      have hbr3 := hbr.trans (hb3.mono hbr.size)
      by_cases hq : adChk x.a = 0
      · have ho : adOut x.a = (adEnc x.a, 0) := by rw [adOut, if_pos hq]
        rw [ho] at hr3 hl3 hz3 ⊢
        go_wp2_with fail
        refine ⟨⟨j + 1, by omega, by simp, ?_, hbr3⟩, by simp only [intOf]; omega⟩
        rw [take_snoc HX.out, wrErr_snocE, he, hq]
        rfl
      · have ho : adOut x.a = ([], adChk x.a) := by rw [adOut, if_neg hq]
        rw [ho] at hr3 hl3 hz3 ⊢
        have hwo : wrOut l = ([], adChk x.a) := by
          have e1 : wrErr l = adChk x.a := by
            have h := wrErr_appE (l.drop (j + 1)) (l.take (j + 1))
            rw [List.take_append_drop, take_snoc HX.out, wrErr_snocE, he] at h
            simpa [hq] using h
          rw [wrOut, if_neg (by rw [HN.out]; omega), if_neg (by rw [HN.out]; omega), e1, if_pos hq]
        have d3 : ((adChk x.a : Int) == 0) = false := by simp; omega
        go_wp2_with fail
        rw [hwo]
        go_ret2
        exact WrsPost.no hbr3
    · have hjn : j = n := by omega
      subst hjn
      have htk : l.take j = l := List.take_of_length_le (by rw [HN.out]; exact Nat.le_refl _)
      rw [htk] at he
      go_wp2_with fail
      go_loopw [7] (fun iv_ w4 => ∃ i : Nat, 1 ≤ i ∧ i ≤ j ∧ iv_ = .int .i64 i ∧ (List.range i).any (badAt l) = false ∧ Below w.heap.size w w4) (fun i _ => j - (intOf i).toNat)
      case atStart => exact ⟨1, by omega, by omega, rfl, by simp [badAt_zero], hbr⟩
      case round =>
        obtain ⟨i, hi1, hi, rfl, hgood, hbr4⟩ := hrel
        by_cases hlt : i < j
        · have hlt' : (i : Int) < (j : Int) := by omega
          cases i with
          | zero => omega
          | succ k =>
          obtain ⟨x, hx⟩ : ∃ x, l[k + 1]? = some x := ⟨_, List.getElem?_eq_getElem (by rw [HN.out]; exact hlt)⟩
          obtain ⟨y, hy⟩ : ∃ y, l[0]? = some y := ⟨_, List.getElem?_eq_getElem (by rw [HN.out]; omega)⟩
          obtain ⟨p, hp⟩ : ∃ p, l[k]? = some p := ⟨_, List.getElem?_eq_getElem (by rw [HN.out]; omega)⟩
          have hrb := HH.out.below (hbr4.mono hB)
          obtain ⟨b, o, e', hbb, hc, hok⟩ := RbA.get hrb hx
          cases e'
          obtain ⟨b', o', e', -, hd, -⟩ := RbA.get hrb hy
          cases e'
          obtain ⟨b', o', e', -, hp', -⟩ := RbA.get hrb hp
          cases e'
          have d0 : wr.drew.cell? ⟨b, o, none⟩ = some (.int .u64 y.a.s.hi) := hd 0 (by omega)
          have d1 : wr.drew.cell? ⟨b, o + 1, none⟩ = some (.int .u64 y.a.s.lo) := hd 1 (by omega)
          have k0 : wr.drew.cell? ⟨b, o + (k + 1) * 14, none⟩ = some (.int .u64 x.a.s.hi) := hc 0 (by omega)
          have k1 : wr.drew.cell? ⟨b, o + (k + 1) * 14 + 1, none⟩ = some (.int .u64 x.a.s.lo) := hc 1 (by omega)
          have k2 : wr.drew.cell? ⟨b, o + (k + 1) * 14 + 2, none⟩ = some (.int .u64 x.a.s.id) := hc 2 (by omega)
          have p2 : wr.drew.cell? ⟨b, o + k * 14 + 2, none⟩ = some (.int .u64 p.a.s.id) := hp' 2 (by omega)
          have hbad : badAt l (k + 1) = (!(decide (x.a.s.hi = y.a.s.hi) && decide (x.a.s.lo = y.a.s.lo)) || decide (x.a.s.id ≤ p.a.s.id)) := by unfold badAt; rw [hy, hx, Nat.add_sub_cancel]; simp [hp]
          have hsn : (List.range (k + 1 + 1)).any (badAt l) = badAt l (k + 1) := by rw [List.range_succ, List.any_append, hgood]; simp
          have HSN := Lib.hid hsn
          have HBAD := Lib.hid hbad
          have HWO : Hid (badAt l (k + 1) = true → wrOut l = ([], 2)) := Lib.hid fun hb => by
            have h1 : wrBad l = true := List.any_eq_true.2 ⟨k + 1, List.mem_range.2 (by rw [HN.out]; exact hlt), hb⟩
            rw [wrOut, if_neg (by rw [HN.out]; omega), if_neg (by rw [HN.out]; omega), if_neg (by rw [he]; simp), if_pos h1]
          clear hbad hx hy hrb hp hc hd hp' hsn hgood
          by_cases hhi : x.a.s.hi = y.a.s.hi
          case neg =>
            have hbt : badAt l (k + 1) = true := by rw [HBAD.out]; simp [hhi]
            have HBT := Lib.hid hbt
            have hne : ¬ ((x.a.s.hi : Int) = (y.a.s.hi : Int)) := by omega
            clear hbt hhi
            go_wp2_with fail
            go_region
            all_goals go_wp2_with fail
            all_goals rw [HWO.out HBT.out]
            all_goals go_ret2
            all_goals exact WrsPost.no (below_drewN hbr4 _)
          case pos =>
          rw [← hhi] at d0
          by_cases hlo : x.a.s.lo = y.a.s.lo
          case neg =>
            have hbt : badAt l (k + 1) = true := by rw [HBAD.out]; simp [hlo]
            have HBT := Lib.hid hbt
            have hne : ¬ ((x.a.s.lo : Int) = (y.a.s.lo : Int)) := by omega
            clear hbt hlo hhi
            go_wp2_with fail
            go_region
            all_goals go_wp2_with fail
            all_goals rw [HWO.out HBT.out]
            all_goals go_ret2
            all_goals exact WrsPost.no (below_drewN hbr4 _)
          case pos =>
          rw [← hlo] at d1
          by_cases hle : x.a.s.id ≤ p.a.s.id
          · have hbt : badAt l (k + 1) = true := by rw [HBAD.out]; simp [hle]
            have HBT := Lib.hid hbt
            clear hbt hlo hhi
            go_wp2_with fail
            go_region
            all_goals go_wp2_with fail
            all_goals rw [HWO.out HBT.out]
            all_goals go_ret2
            all_goals exact WrsPost.no (below_drewN hbr4 _)
          · have hbf : badAt l (k + 1) = false := by rw [HBAD.out]; simp [hle, hhi, hlo]
            have HBF := Lib.hid hbf
            clear hbf hlo hhi
            go_wp2_with fail
            go_region
            all_goals go_wp2_with fail
            all_goals exact ⟨⟨k + 1 + 1, by omega, by omega, by simp, by rw [HSN.out, HBF.out], below_drewN hbr4 _⟩, by simp only [intOf]; omega⟩
        · have hij : i = j := by omega
          subst hij
          obtain ⟨u0, hu0⟩ : ∃ u0, u0 = wr := ⟨_, rfl⟩
          subst hu0
          have hfine : ∀ e ∈ l, e.Fine := fun e h => AE.fine (wrErr_zero he e h)
          have hgw : wrBad l = false := by rw [wrBad, HN.out]; exact hgood
          have hne : l ≠ [] := fun e => by have := HN.out; rw [e] at this; simp at this; omega
          have hwo : wrOut l = if 1024 < (wrAll l).length then ([], 3) else (wrAll l, 0) := by
            rw [wrOut, if_neg (by rw [HN.out]; omega), if_neg (by rw [HN.out]; omega), if_neg (by rw [he]; simp), if_neg (by rw [hgw]; simp)]
          have HWO := Lib.hid hwo
          have HNE := Lib.hid hne
          have HF := Lib.hid hfine
          have HE := Lib.hid he
          have HRB := Lib.hid (HH.out.below (hbr4.mono hB))
          have hB4 : B ≤ u0.heap.size := Nat.le_trans hB hbr4.size
          have HBR := Lib.hid hbr4
          obtain ⟨y, hy⟩ : ∃ y, l[0]? = some y := ⟨_, List.getElem?_eq_getElem (by rw [HN.out]; omega)⟩
          have HY := Lib.hid hy
          have ru0 : RuM u0 (u0.alloc (.cells #[.slice none 0 0] 95)) u0.heap.size (u0.heap.size + 1) none 0 0 [] [] :=
            ⟨Bk.new u0 _ #[.slice none 0 0], WsU.nil _ _ (by simp), (Below.refl _ u0).alloc (Nat.le_refl _) _, by omega, by omega⟩
          obtain ⟨W0, hW0⟩ : ∃ W0, u0.alloc (.cells #[.slice none 0 0] 95) = W0 := ⟨_, rfl⟩
          rw [hW0] at ru0
          obtain ⟨gx, hgx⟩ : ∃ gx, u0.heap.size = gx := ⟨_, rfl⟩
          rw [hgx] at ru0
          obtain ⟨lo, hlo⟩ : ∃ lo, gx + 1 = lo := ⟨_, rfl⟩
          rw [hlo] at ru0
          have HW0 := Lib.hid hW0
          have HGX := Lib.hid hgx
          have HLO := Lib.hid hlo
          have hBW0 : B ≤ W0.heap.size := Nat.le_trans hB4 ru0.bel.size
          have cbnd := rBounds (c := c) l W0 (HRB.out.below (ru0.bel.mono hB4)) HN.out hBW0 h0 (by omega) (fun e he => (hfine e he).tm)
          have CB := Lib.hid cbnd
          have HRU := Lib.hid ru0
          clear hfine hgw hne hwo hbr4 hy ru0 hW0 hgx hlo cbnd hgood he htk hlt hi
          go_upto_region 17 with fail
          rw [HW0.out, HGX.out]
          go_upto_region 18 with (go_at_call 47; refine CB.out.mono ?_; rintro e W1 ⟨rfl, hb1⟩)
          have hbf := bnds_fine HF.out
          have h0i : (0 : Int) < (i : Int) := by omega
          obtain ⟨f, hf⟩ : ∃ f : Nat, (bnds l).1 = (f : Int) := ⟨(bnds l).1.toNat, by omega⟩
          obtain ⟨t, ht⟩ : ∃ t : Nat, (bnds l).2 = (t : Int) := ⟨(bnds l).2.toNat, by omega⟩
          have hf1 : f < 9223372036854775808 := by omega
          have ht1 : t < 9223372036854775808 := by omega
          have hto0 : wrTo l 0 = putW [] (trKey y) (recEnc i f t) := by
            rw [wrTo, List.take_zero, List.foldl_nil, wrHead_eq HY.out, hf, ht, HN.out]
            rfl
          have HT0 := Lib.hid hto0
          rw [hf, ht]
          have ru1 := HRU.out.below hb1
          have ru1d : RuM u0 W1.drew gx lo none 0 0 [] [] := ru1.below (below_drewN (Below.refl _ _) 1)
          obtain ⟨b, o, e', hbB, hd, hyok⟩ := RbA.get HRB.out HY.out
          cases e'
          have CE : Hid (∀ W, Below u0.heap.size u0 W → W.cell? ⟨b, o, none⟩ = some (.int .u64 y.a.s.hi) ∧ W.cell? ⟨b, o + 1, none⟩ = some (.int .u64 y.a.s.lo)) := Lib.hid fun W h => ⟨(h.cell (show b < _ by omega)).trans (hd 0 (by omega)), (h.cell (show b < _ by omega)).trans (hd 1 (by omega))⟩
          obtain ⟨s0, s1⟩ := CE.out W1.drew ru1d.bel
          have huk : (trKey y).U64 := ⟨hyok.ok.1.1, hyok.ok.1.2.1, by simp [trKey], by simp [trKey]⟩
          have crec := (rRecord i f t W1.drew (by omega) hf1 ht1).mono (fun e w' => BytMade.ofT)
          have CR := Lib.hid crec
          have RU1 := Lib.hid ru1d
          have hlo1 := ru1d.ws.hlo
          clear crec hto0 hf ht hbf hd hyok ru1 ru1d hb1
          go_region_held3 (fun w' => w'.cell? ⟨b, o, none⟩ = some (.int .u64 y.a.s.hi) ∧ w'.cell? ⟨b, o + 1, none⟩ = some (.int .u64 y.a.s.lo)) (go_keep)
            (first
              | (go_at_call 49
                 refine CR.out.mono ?_
                 rintro e W2 ⟨A2, c2, rfl, hn2⟩
                 have ru2 := RU1.out.below hn2.bel
                 obtain ⟨q0, q1⟩ := CE.out _ ru2.bel
                 have cput := rPut (w0 := u0) (trKey y) (recEnc i f t) ru2 huk (by omega) hn2.rd rfl hn2.cap (fun _ a ha => ⟨.inr (Nat.le_trans hlo1 (hn2.new a ha)), fun e => by cases e⟩) hn2.nil
                 have CP := Lib.hid cput
                 clear cput)
              | (go_at_call 48
                 refine CP.out.mono ?_
                 rintro e W3 ⟨⟨v, rfl⟩, A3, j3, c3, hs3, ru3, hj3, -⟩
                 obtain ⟨v0, v1⟩ := CE.out _ ru3.bel)
              | fail)
          rw [← HT0.out] at ru3
          go_wp2_with fail
          go_loopw [11] (fun iv_ wp => ∃ (p : Nat) (A4 : Option Addr) (j4 c4 : Nat) (hs4 : List Value), p ≤ i ∧ iv_ = .int .i64 p ∧ RuM u0 wp gx lo A4 j4 c4 (wrTo l p) hs4) (fun i_ _ => i - (intOf i_).toNat)
          case atStart => exact ⟨0, A3, j3, c3, hs3, by omega, rfl, ru3⟩
          case round =>
            obtain ⟨p, A4, j4, c4, hs4, hp, rfl, ru4⟩ := hrel
            obtain ⟨wp, hwp⟩ : ∃ wp, wp = wr := ⟨_, rfl⟩
            subst hwp
            by_cases hlt : p < i
            · have hlt' : (p : Int) < (i : Int) := by omega
              obtain ⟨x, hx⟩ : ∃ x, l[p]? = some x := ⟨_, List.getElem?_eq_getElem (by rw [HN.out]; exact hlt)⟩
              obtain ⟨b', o', e', hbb, hc, hok⟩ := RbA.get (HRB.out.below (ru4.bel.mono hB4)) hx
              cases e'
              have hfx := HF.out x (List.mem_of_getElem? hx)
              have lsp := loadK_aeSp (e := x) hc
              have bk5 := Bk.new wp 43 (spC x.a.s x.A x.n x.c)
              have hal5 : Below wp.heap.size wp (wp.alloc (.cells (spC x.a.s x.A x.n x.c) 43)) := (Below.refl _ wp).alloc (Nat.le_refl _) _
              obtain ⟨W5, hW5⟩ : ∃ W5, wp.alloc (.cells (spC x.a.s x.A x.n x.c) 43) = W5 := ⟨_, rfl⟩
              rw [hW5] at bk5 hal5
              obtain ⟨g5, hg5⟩ : ∃ g5, wp.heap.size = g5 := ⟨_, rfl⟩
              rw [hg5] at bk5
              have ru5 := ru4.below hal5
              obtain ⟨b', o', e', hbb5, hc5, hok5⟩ := RbA.get (HRB.out.below (ru5.bel.mono hB4)) hx
              cases e'
              have la := loadK_ae (e := x) hc5
              have cs := rSpan (At := x.A) (ct := x.c) (B := B) x.a W5 hok5.rd (Nat.le_trans hB4 ru5.bel.size) hok5.len hok5.max hok5.ok
              have ho : adOut x.a = (adEnc x.a, 0) := by rw [adOut, if_pos (wrErr_zero HE.out x (List.mem_of_getElem? hx))]
              rw [ho] at cs
              have CS := Lib.hid cs
              have HW5 := Lib.hid hW5
              have HG5 := Lib.hid hg5
              have HX := Lib.hid hx
              have HOK := Lib.hid hok5
              have HFX := Lib.hid hfx
              have HAL5 := Lib.hid hal5
              have HRU5 := Lib.hid ru5
              have hown4 : ∀ k, (Value.slice A4 j4 c4).ownBlock = some k → k < wp.heap.size := fun k e => (ru4.ws.own.lt k e).2
              have HOW := Lib.hid hown4
              have hlog : lo ≤ g5 := by have := ru4.ws.hlo; omega
              have hwl := wrTo_len HF.out p (by rw [HN.out]; omega)
              have hj4 : j4 ≤ 10000 := by have := ru4.ws.len; omega
              clear hW5 hg5 hx hc hok hbb hc5 hok5 hbb5 hfx cs ho hal5 ru4 ru5 hown4
              go_upto_region 23 with fail
              rw [HW5.out, HG5.out]
              go_upto_region 24 with (go_at_call 46; refine CS.out.mono ?_; rintro e W6 ⟨A9, c9, rfl, hr6, hb6, hl6, hz6, hk6⟩)
              have bk6 := bk5.below hb6 bk5.lt
              have ru6 := HRU5.out.below hb6
              have CE5 : Hid (∀ W, Bk W g5 43 (spC x.a.s x.A x.n x.c) → W.cell? ⟨g5, 0, none⟩ = some (.int .u64 x.a.s.hi) ∧ W.cell? ⟨g5, 1, none⟩ = some (.int .u64 x.a.s.lo) ∧ W.cell? ⟨g5, 2, none⟩ = some (.int .u64 x.a.s.id) ∧ W.cell? ⟨g5, 4, none⟩ = some (.string x.a.s.service) ∧ W.cell? ⟨g5, 5, none⟩ = some (.string x.a.s.name) ∧ W.cell? ⟨g5, 7, none⟩ = some (.int .i64 x.a.s.start) ∧ W.cell? ⟨g5, 8, none⟩ = some (.int .i64 x.a.s.length) ∧ W.cell? ⟨g5, 10, none⟩ = some (.slice x.A x.n x.c)) := Lib.hid fun W h => ⟨h.cell 0, h.cell 1, h.cell 2, h.cell 4, h.cell 5, h.cell 7, h.cell 8, h.cell 10⟩
              have tm := HFX.out.tm
              have hu := HOK.out.ok.1
              have hnx := HOK.out.len
              have hx16 : x.n ≤ 16 := by have := HFX.out.tags; omega
              have ho4 : (Value.slice A4 j4 c4).ownBlock ≠ some g5 := fun e => by have := HOW.out g5 e; have := HG5.out; omega
              have hgl : gx < lo := by have := HLO.out; omega
              obtain ⟨z, hz⟩ : ∃ z, x.a.s.length.toNat = z := ⟨_, rfl⟩
              have hwz : IntKind.u64.wrap x.a.s.length = (z : Int) := by rw [IntWalk.u64_in _ ⟨by unfold AE.Tm at tm; omega, by unfold AE.Tm at tm; omega⟩]; unfold AE.Tm at tm; omega
              have hzl : z < 18446744073709551616 := by unfold AE.Tm at tm; omega
              have hu1 : Ky.U64 ⟨115, x.a.s.hi, x.a.s.lo, x.a.s.id, ⟨#[]⟩, ⟨#[]⟩, ⟨#[]⟩, 0, 0⟩ := ⟨hu.1, hu.2.1, hu.2.2.1, by simp⟩
              have hu2 : Ky.U64 ⟨105, x.a.s.hi, x.a.s.lo, x.a.s.id, x.a.s.service, ⟨#[]⟩, ⟨#[]⟩, 0, x.a.s.start⟩ := ⟨hu.1, hu.2.1, hu.2.2.1, by simp⟩
              have hu3 : Ky.U64 ⟨111, x.a.s.hi, x.a.s.lo, x.a.s.id, x.a.s.service, x.a.s.name, ⟨#[]⟩, 0, x.a.s.start⟩ := ⟨hu.1, hu.2.1, hu.2.2.1, by simp⟩
              have hu4 : Ky.U64 ⟨100, x.a.s.hi, x.a.s.lo, x.a.s.id, x.a.s.service, ⟨#[]⟩, ⟨#[]⟩, z, x.a.s.start⟩ := ⟨hu.1, hu.2.1, hu.2.2.1, hzl⟩
              have hu5 : Ky.U64 ⟨110, 0, 0, 0, x.a.s.service, x.a.s.name, ⟨#[]⟩, 0, 0⟩ := ⟨by simp, by simp, by simp, by simp⟩
              have hu6 : ∀ t : Tg, Ky.U64 ⟨103, x.a.s.hi, x.a.s.lo, x.a.s.id, x.a.s.service, t.key, t.val, 0, x.a.s.start⟩ := fun t => ⟨hu.1, hu.2.1, hu.2.2.1, by simp⟩
              have cp := rPut (w0 := u0) ⟨115, x.a.s.hi, x.a.s.lo, x.a.s.id, ⟨#[]⟩, ⟨#[]⟩, ⟨#[]⟩, 0, 0⟩ (adEnc x.a) ru6 hu1 hj4 hr6 rfl hl6 (fun _ a ha => by
                have h1 := hk6 a ha
                have h2 := HAL5.out.size
                have h3 := HG5.out
                refine ⟨.inr (by omega), fun e => ?_⟩
                have h4 := HOW.out _ e
                omega) (fun e => (hz6 e).2)
              have CP1 := Lib.hid cp
              have HU6 := Lib.hid hu6
              have HZ := Lib.hid hz
              have HNX := Lib.hid hnx
              obtain ⟨z0, z1, z2, z3, z4, z5, z6, z7⟩ := CE5.out W6 bk6
              clear hb6 hr6 hl6 hz6 hk6 cp hu6 hz tm hu hnx ru6
              go_upto_region 25 with (go_at_call 48; refine CP1.out.mono ?_; rintro e W7 ⟨⟨v1, rfl⟩, A7, j7, c7, hs7, ru7, hj7, hf7⟩)
              have rw7 := RwM.put bk6 hlog hgl ho4 ru7 hf7
              have hl1 := putW_len (wrTo l p) ⟨115, x.a.s.hi, x.a.s.lo, x.a.s.id, ⟨#[]⟩, ⟨#[]⟩, ⟨#[]⟩, 0, 0⟩ (adEnc x.a)
              obtain ⟨ac1, hac1⟩ : ∃ ac, putW (wrTo l p) ⟨115, x.a.s.hi, x.a.s.lo, x.a.s.id, ⟨#[]⟩, ⟨#[]⟩, ⟨#[]⟩, 0, 0⟩ (adEnc x.a) = ac := ⟨_, rfl⟩
              rw [hac1] at rw7 hl1
              have HAC1 := Lib.hid hac1
              clear ru7 hf7 hac1 bk6 z0 z1 z2 z3 z4 z5 z6 z7
              obtain ⟨z0, z1, z2, z3, z4, z5, z6, z7⟩ := CE5.out W7 rw7.bk
              have hl2 := putW_len ac1 ⟨105, x.a.s.hi, x.a.s.lo, x.a.s.id, x.a.s.service, ⟨#[]⟩, ⟨#[]⟩, 0, x.a.s.start⟩ []
              have cp := rPutN ⟨105, x.a.s.hi, x.a.s.lo, x.a.s.id, x.a.s.service, ⟨#[]⟩, ⟨#[]⟩, 0, x.a.s.start⟩ rw7 hu2 (by omega)
              obtain ⟨ac2, hac2⟩ : ∃ ac, putW ac1 ⟨105, x.a.s.hi, x.a.s.lo, x.a.s.id, x.a.s.service, ⟨#[]⟩, ⟨#[]⟩, 0, x.a.s.start⟩ [] = ac := ⟨_, rfl⟩
              rw [hac2] at cp hl2
              have CPN := Lib.hid cp
              have HAC2 := Lib.hid hac2
              clear cp hac2
              go_upto_region 26 with (go_at_call 48; refine CPN.out.mono ?_; rintro e W8 ⟨⟨v2, rfl⟩, rw8⟩)
              clear CPN z0 z1 z2 z3 z4 z5 z6 z7
              obtain ⟨z0, z1, z2, z3, z4, z5, z6, z7⟩ := CE5.out W8 rw8.bk
              have hl3 := putW_len ac2 ⟨111, x.a.s.hi, x.a.s.lo, x.a.s.id, x.a.s.service, x.a.s.name, ⟨#[]⟩, 0, x.a.s.start⟩ []
              have cp := rPutN ⟨111, x.a.s.hi, x.a.s.lo, x.a.s.id, x.a.s.service, x.a.s.name, ⟨#[]⟩, 0, x.a.s.start⟩ rw8 hu3 (by omega)
              obtain ⟨ac3, hac3⟩ : ∃ ac, putW ac2 ⟨111, x.a.s.hi, x.a.s.lo, x.a.s.id, x.a.s.service, x.a.s.name, ⟨#[]⟩, 0, x.a.s.start⟩ [] = ac := ⟨_, rfl⟩
              rw [hac3] at cp hl3
              have CPN := Lib.hid cp
              have HAC3 := Lib.hid hac3
              clear cp hac3
              go_upto_region 27 with (go_at_call 48; refine CPN.out.mono ?_; rintro e W9 ⟨⟨v3, rfl⟩, rw9⟩)
              clear CPN z0 z1 z2 z3 z4 z5 z6 z7
              obtain ⟨z0, z1, z2, z3, z4, z5, z6, z7⟩ := CE5.out W9 rw9.bk
              have hl4 := putW_len ac3 ⟨100, x.a.s.hi, x.a.s.lo, x.a.s.id, x.a.s.service, ⟨#[]⟩, ⟨#[]⟩, z, x.a.s.start⟩ []
              have cp := rPutN ⟨100, x.a.s.hi, x.a.s.lo, x.a.s.id, x.a.s.service, ⟨#[]⟩, ⟨#[]⟩, z, x.a.s.start⟩ rw9 hu4 (by omega)
              obtain ⟨ac4, hac4⟩ : ∃ ac, putW ac3 ⟨100, x.a.s.hi, x.a.s.lo, x.a.s.id, x.a.s.service, ⟨#[]⟩, ⟨#[]⟩, z, x.a.s.start⟩ [] = ac := ⟨_, rfl⟩
              rw [hac4] at cp hl4
              have CPN := Lib.hid cp
              have HAC4 := Lib.hid hac4
              clear cp hac4
              go_upto_region 28 with (go_at_call 48; refine CPN.out.mono ?_; rintro e W10 ⟨⟨v4, rfl⟩, rw10⟩)
              clear CPN z0 z1 z2 z3 z4 z5 z6 z7
              obtain ⟨z0, z1, z2, z3, z4, z5, z6, z7⟩ := CE5.out W10 rw10.bk
              have hl5 := putW_len ac4 ⟨110, 0, 0, 0, x.a.s.service, x.a.s.name, ⟨#[]⟩, 0, 0⟩ []
              have cp := rPutN ⟨110, 0, 0, 0, x.a.s.service, x.a.s.name, ⟨#[]⟩, 0, 0⟩ rw10 hu5 (by omega)
              obtain ⟨ac5, hac5⟩ : ∃ ac, putW ac4 ⟨110, 0, 0, 0, x.a.s.service, x.a.s.name, ⟨#[]⟩, 0, 0⟩ [] = ac := ⟨_, rfl⟩
              rw [hac5] at cp hl5
              have CPN := Lib.hid cp
              have HAC5 := Lib.hid hac5
              clear cp hac5
              go_upto_region 29 with (go_at_call 48; refine CPN.out.mono ?_; rintro e W11 ⟨⟨v5, rfl⟩, rw11⟩)
              clear CPN z0 z1 z2 z3 z4 z5 z6 z7
              obtain ⟨z0, z1, z2, z3, z4, z5, z6, z7⟩ := CE5.out W11 rw11.bk
              have h5 : ac5 = wrKeys (adEnc x.a) ((keysOf x.a.s).take 5) 0 (wrTo l p) := by
                have e1 : (keysOf x.a.s).take 5 = keys5 x.a.s := by rw [keysOf]; exact List.take_left' rfl
                rw [e1, ← HAC5.out, ← HAC4.out, ← HAC3.out, ← HAC2.out, ← HAC1.out, ← HZ.out]
                rfl
              rw [h5] at rw11
              obtain ⟨ks, hks⟩ : ∃ ks, keysOf x.a.s = ks := ⟨_, rfl⟩
              have htg : ∀ q t, x.a.s.tags[q]? = some t → ks[5 + q]? = some ⟨103, x.a.s.hi, x.a.s.lo, x.a.s.id, x.a.s.service, t.key, t.val, 0, x.a.s.start⟩ := fun q t h => by
                rw [← hks, keysOf, List.getElem?_append_right (by simp [keys5])]
                have : 5 + q - (keys5 x.a.s).length = q := by simp [keys5]
                rw [this, List.getElem?_map, h]
                rfl
              have hkl : ks.length = 5 + x.n := by rw [← hks, keysOf_len, HNX.out]
              have hto : wrTo l (p + 1) = wrKeys (adEnc x.a) (ks.take (5 + x.n)) 0 (wrTo l p) := by rw [wrTo_snoc HX.out, wrSpan, hks, ← hkl, List.take_of_length_le (Nat.le_refl _)]
              rw [hks] at rw11
              have hbig : ∀ q, (wrKeys (adEnc x.a) (ks.take q) 0 (wrTo l p)).length ≤ 10000 := fun q => by
                have h1 := wrKeys_len (adEnc x.a) (ks.take q) 0 (wrTo l p)
                have h2 : (ks.take q).length ≤ 21 := by rw [List.length_take, hkl]; omega
                omega
              have HTG := Lib.hid htg
              have HTO := Lib.hid hto
              have HBG := Lib.hid hbig
              clear h5 hks htg hkl hto hbig hl1 hl2 hl3 hl4 hl5 rw7 rw8 rw9 rw10 hwl
              go_wp2_with fail
              go_loopw [15] (fun iv_ wq => ∃ (q : Nat), q ≤ x.n ∧ iv_ = .int .i64 q ∧ RwM u0 wq gx lo g5 x.a.s x.A x.n x.c (wrKeys (adEnc x.a) (ks.take (5 + q)) 0 (wrTo l p))) (fun i_ _ => x.n - (intOf i_).toNat)
              case atStart => exact ⟨0, by omega, rfl, rw11⟩
              case round =>
                obtain ⟨q, hq, rfl, rwq⟩ := hrel
                obtain ⟨wq, hwq⟩ : ∃ wq, wq = wr := ⟨_, rfl⟩
                subst hwq
                clear z0 z1 z2 z3 z4 z5 z6 z7
                obtain ⟨z0, z1, z2, z3, z4, z5, z6, z7⟩ := CE5.out wq rwq.bk
                by_cases hlt2 : q < x.n
                · have hlt2' : (q : Int) < (x.n : Int) := by omega
                  obtain ⟨t1, ht1⟩ : ∃ t, x.a.s.tags[q]? = some t := ⟨_, List.getElem?_eq_getElem (by rw [HNX.out]; exact hlt2)⟩
                  obtain ⟨b', o', -, -, -, hokq⟩ := RbA.get (HRB.out.below (rwq.bel.mono hB4)) HX.out
                  obtain ⟨tb, tz, e2', htb, ht2, ht3⟩ := RbT.get hokq.rd ht1
                  have HXA := Lib.hid e2'
                  have hk := HTG.out q t1 ht1
                  have HTK := Lib.hid (wrKeys_take (zs := adEnc x.a) (acc := wrTo l p) hk)
                  have rwd := rwq.drew
                  have CT : Hid (∀ W, Below u0.heap.size u0 W → W.cell? ⟨tb, tz + q * 2, none⟩ = some (.string t1.key) ∧ W.cell? ⟨tb, tz + q * 2 + 1, none⟩ = some (.string t1.val)) := Lib.hid fun W h => by
                    obtain ⟨b', o', e', -, -, hokw⟩ := RbA.get (HRB.out.below (h.mono hB4)) HX.out
                    obtain ⟨tb', tz', e3', -, ht4, ht5⟩ := RbT.get hokw.rd ht1
                    rw [HXA.out] at e3'
                    cases e3'
                    exact ⟨ht4, ht5⟩
                  rw [e2'] at z7
                  have z7d : wq.drew.cell? ⟨g5, 10, none⟩ = some (.slice (some ⟨tb, tz, none⟩) x.n x.c) := z7
                  have CE7 : Hid (∀ W, RwM u0 W gx lo g5 x.a.s x.A x.n x.c (putW (wrKeys (adEnc x.a) (ks.take (5 + q)) 0 (wrTo l p)) ⟨103, x.a.s.hi, x.a.s.lo, x.a.s.id, x.a.s.service, t1.key, t1.val, 0, x.a.s.start⟩ []) → W.cell? ⟨g5, 0, none⟩ = some (.int .u64 x.a.s.hi) ∧ W.cell? ⟨g5, 1, none⟩ = some (.int .u64 x.a.s.lo) ∧ W.cell? ⟨g5, 2, none⟩ = some (.int .u64 x.a.s.id) ∧ W.cell? ⟨g5, 4, none⟩ = some (.string x.a.s.service) ∧ W.cell? ⟨g5, 7, none⟩ = some (.int .i64 x.a.s.start) ∧ W.cell? ⟨g5, 10, none⟩ = some (.slice (some ⟨tb, tz, none⟩) x.n x.c) ∧ W.cell? ⟨tb, tz + q * 2, none⟩ = some (.string t1.key) ∧ W.cell? ⟨tb, tz + q * 2 + 1, none⟩ = some (.string t1.val)) := Lib.hid fun W h => by
                    obtain ⟨h1, h2, h3, h4, -, h5, -, h6⟩ := CE5.out W h.bk
                    rw [HXA.out] at h6
                    exact ⟨h1, h2, h3, h4, h5, h6, (CT.out W h.bel).1, (CT.out W h.bel).2⟩
                  obtain ⟨y0, y1, y2, y4, y5, y7, y8, y10⟩ := CE5.out wq.drew rwd.bk
                  obtain ⟨x0, x1⟩ := CT.out wq.drew rwd.bel
                  have cp := rPutN ⟨103, x.a.s.hi, x.a.s.lo, x.a.s.id, x.a.s.service, t1.key, t1.val, 0, x.a.s.start⟩ rwd (HU6.out t1) (HBG.out _)
                  have CPT := Lib.hid cp
                  have hq5 : ¬ (5 + q = 0) := by omega
                  clear cp hk ht1 e2' ht2 ht3 rwd rwq y10 hokq
                  go_wp2_with fail
                  go_region_held3 (fun w' => w'.cell? ⟨g5, 0, none⟩ = some (.int .u64 x.a.s.hi) ∧ w'.cell? ⟨g5, 1, none⟩ = some (.int .u64 x.a.s.lo) ∧ w'.cell? ⟨g5, 2, none⟩ = some (.int .u64 x.a.s.id) ∧ w'.cell? ⟨g5, 4, none⟩ = some (.string x.a.s.service) ∧ w'.cell? ⟨g5, 7, none⟩ = some (.int .i64 x.a.s.start) ∧ w'.cell? ⟨g5, 10, none⟩ = some (.slice (some ⟨tb, tz, none⟩) x.n x.c) ∧ w'.cell? ⟨tb, tz + q * 2, none⟩ = some (.string t1.key) ∧ w'.cell? ⟨tb, tz + q * 2 + 1, none⟩ = some (.string t1.val)) (go_keep)
                    (first
                      | (go_at_call 48
                         refine CPT.out.mono ?_
                         rintro e W12 ⟨⟨v12, rfl⟩, rw12⟩
                         obtain ⟨n0, n1, n2, n3, n4, n5, n6, n7⟩ := CE7.out W12 rw12)
                      | fail)
                  go_wp2_with fail
                  exact ⟨⟨q + 1, by omega, by simp, by rw [← Nat.add_assoc, HTK.out, if_neg hq5]; exact rw12⟩, by simp only [intOf]; omega⟩
                · have hqn : q = x.n := by omega
                  subst hqn
                  rw [← HTO.out] at rwq
                  obtain ⟨A7, j7, c7, hs7, ru7, -⟩ := rwq.ru
                  clear rwq
                  go_wp2_with fail
                  exact ⟨⟨p + 1, A7, j7, c7, hs7, by omega, by simp, ru7⟩, by simp only [intOf]; omega⟩
            · have hpi : p = i := by omega
              subst hpi
              have hall : wrTo l p = wrAll l := by have := wrTo_all HNE.out; rwa [HN.out] at this
              rw [hall] at ru4
              have hlen := ru4.ws.len
              have k4' : wp.cell? ⟨gx, 0, none⟩ = some (.slice A4 j4 c4) := ru4.bx.cell 0
              have HP4 := Lib.hid ru4
              have HL4 := Lib.hid hlen
              have hwx : Below w.heap.size w wp := HBR.out.trans (ru4.bel.mono HBR.out.size)
              by_cases hbig : 1024 < j4
              · have hd : decide ((1024 : Int) < (j4 : Int)) = true := by simp; omega
                have HBIG := Lib.hid hbig
                clear hall ru4 hlen hbig
                go_wp2_with fail
                rw [HWO.out, if_pos (by rw [HL4.out]; exact HBIG.out)]
                go_ret2
                exact WrsPost.no hwx
              · have hd : decide ((1024 : Int) < (j4 : Int)) = false := by simp; omega
                have HBIG := Lib.hid hbig
                clear hall ru4 hlen hbig
                go_wp2_with fail
                rw [HWO.out, if_neg (by rw [HL4.out]; exact HBIG.out)]
                go_ret2
                exact ⟨A4, c4, by rw [HL4.out]; rfl, HP4.out.ws.rbw, hwx, by rw [HL4.out]; exact own_cap HP4.out.ws.own⟩
end Go.Proofs.Ytlamebbolioljaa

/- Spans: bootprintkit.SmallSpan, SameSpan. -/
namespace Go.Proofs.Ytlamebbolioljaa
open Go.RowKit

def tgSmall (most : Int) (t : Tg) : Bool := decide ((t.key.size : Int) ≤ most) && decide ((t.val.size : Int) ≤ most)
def smallB (s : Sp) (most : Int) : Bool := decide ((s.service.size : Int) ≤ most) && decide ((s.name.size : Int) ≤ most) && decide ((s.tags.length : Int) ≤ most) && s.tags.all (tgSmall most)
set_option maxRecDepth 100000 in
set_option maxHeartbeats 2000000 in
theorem kitSmall {A : Option Addr} {c n B : Nat} (s : Sp) (most : Int) (w : World) (hf : RbT w B A s.tags) (hn : s.tags.length = n) (hB : B ≤ w.heap.size) (hnl : n ≤ 9223372036854775807) :
    Calls Try.prog 23 #[spV s A n c, .int .i64 most] w fun e w' => e = .returned (.bool (smallB s most)) ∧ Below w.heap.size w w' := by
  obtain ⟨q, hq⟩ : ∃ q, smallB s most = q := ⟨_, rfl⟩
  rw [hq]
  unfold smallB at hq
  rw [hn] at hq
  have HQ := Lib.hid hq
  have HN := Lib.hid hn
  have hb0 : Below w.heap.size w (w.alloc (.cells (spC s A n c) 43)) := (Below.refl _ w).alloc (Nat.le_refl _) _
  have hf1 := Rd.alloc hf hB (.cells (spC s A n c) 43)
  have bk := Bk.new w 43 (spC s A n c)
  clear hq hn
  by_cases h1 : most < (s.service.size : Int)
  · go_enter Try.func23, Try.ntmps23
    go_wp2
    go_ret
    have : q = false := by rw [← HQ.out, decide_eq_false (show ¬ _ by omega)]; rfl
    exact ⟨by rw [this]; rfl, hb0⟩
  have d1 : decide (most < (s.service.size : Int)) = false := by simp; omega
  by_cases h2 : most < (s.name.size : Int)
  · go_enter Try.func23, Try.ntmps23
    go_wp2
    go_ret
    have : q = false := by rw [← HQ.out, decide_eq_false (p := (s.name.size : Int) ≤ most) (by omega)]; simp
    exact ⟨by rw [this]; rfl, hb0⟩
  have d2 : decide (most < (s.name.size : Int)) = false := by simp; omega
  by_cases h3 : most < (n : Int)
  · go_enter Try.func23, Try.ntmps23
    go_wp2
    go_ret
    have : q = false := by rw [← HQ.out, decide_eq_false (p := (n : Int) ≤ most) (by omega)]; simp
    exact ⟨by rw [this]; rfl, hb0⟩
  have d3 : decide (most < (n : Int)) = false := by simp; omega
  have hq2 : s.tags.all (tgSmall most) = q := by
    rw [← HQ.out, decide_eq_true (p := (s.service.size : Int) ≤ most) (by omega), decide_eq_true (p := (s.name.size : Int) ≤ most) (by omega), decide_eq_true (p := (n : Int) ≤ most) (by omega)]
    simp
  have HQ2 := Lib.hid hq2
  clear hq2
  obtain ⟨w1, hw1⟩ : ∃ w1, w.alloc (.cells (spC s A n c) 43) = w1 := ⟨_, rfl⟩
  rw [hw1] at hb0 hf1 bk
  obtain ⟨g, hg⟩ : ∃ g, w.heap.size = g := ⟨_, rfl⟩
  rw [hg] at bk
  have HW := Lib.hid hw1
  have HG := Lib.hid hg
  have k10 : w1.cell? ⟨g, 10, none⟩ = some (.slice A n c) := bk.cell 10
  have k4 : w1.cell? ⟨g, 4, none⟩ = some (.string s.service) := bk.cell 4
  have k5 : w1.cell? ⟨g, 5, none⟩ = some (.string s.name) := bk.cell 5
  clear hw1 bk hg
  go_enter Try.func23, Try.ntmps23
  go_wp2_with fail
  rw [HW.out, HG.out]
  go_loopw [5] (fun iv_ wr => ∃ j : Nat, j ≤ n ∧ iv_ = .int .i64 j ∧ (s.tags.take j).all (tgSmall most) = true ∧ ∃ d, wr = w1.drewN d) (fun i _ => n - (intOf i).toNat)
  case atStart => exact ⟨0, by omega, rfl, rfl, 0, rfl⟩
  case round =>
    obtain ⟨j, hj, rfl, hall, d, rfl⟩ := hrel
    have HA := Lib.hid hall
    clear hall
    have k10' : (w1.drewN d).cell? ⟨g, 10, none⟩ = some (.slice A n c) := k10
    by_cases hlt : j < n
    · have hlt' : (j : Int) < (n : Int) := by omega
      obtain ⟨x, hx⟩ : ∃ x, s.tags[j]? = some x := ⟨_, List.getElem?_eq_getElem (by rw [HN.out]; exact hlt)⟩
      obtain ⟨b, o, rfl, hbb, c1, c2⟩ := RbT.get hf1 hx
      have c1' : (w1.drewN d).cell? ⟨b, o + j * 2, none⟩ = some (.string x.key) := c1
      have c2' : (w1.drewN d).cell? ⟨b, o + j * 2 + 1, none⟩ = some (.string x.val) := c2
      have HX := Lib.hid hx
      clear hx c1 c2
      have hno : tgSmall most x = false → q = false := fun h => by
        rw [← HQ2.out, List.all_eq_false]
        exact ⟨x, List.mem_of_getElem? HX.out, by rw [h]; simp⟩
      have HNO := Lib.hid hno
      clear hno
      by_cases g1 : most < (x.key.size : Int)
      · go_wp2
        all_goals go_ret
        all_goals exact ⟨by rw [HNO.out (by rw [tgSmall, decide_eq_false (p := (x.key.size : Int) ≤ most) (by omega)]; rfl)]; rfl, below_drewN hb0 _⟩
      have e1 : decide (most < (x.key.size : Int)) = false := by simp; omega
      by_cases g2 : most < (x.val.size : Int)
      · go_wp2
        all_goals go_ret
        all_goals exact ⟨by rw [HNO.out (by rw [tgSmall, decide_eq_false (p := (x.val.size : Int) ≤ most) (by omega)]; simp)]; rfl, below_drewN hb0 _⟩
      have e2 : decide (most < (x.val.size : Int)) = false := by simp; omega
      go_wp2
      go_roundw
      case rel => exact ⟨j + 1, by omega, by go_num, by rw [take_snoc HX.out, List.all_append, HA.out]; simp [tgSmall]; omega, _, rfl⟩
      case measure => simp [intOf]; omega
    · have hlt' : decide ((j : Int) < (n : Int)) = false := by simp; omega
      go_wp2
      go_ret
      have : q = true := by
        rw [← HQ2.out]
        have h1 := HA.out
        rwa [List.take_of_length_le (by rw [HN.out]; omega)] at h1
      exact ⟨by rw [this]; rfl, below_drewN hb0 _⟩
end Go.Proofs.Ytlamebbolioljaa
