/- Adjusted spans: schema.ReadSpan of what schema.Span told. -/
import Derived.Test.YtlamebbolioljaaAdM
import Derived.Test.YtlamebbolioljaaScJ
import Derived.Test.YtlamebbolioljaaSpQ
import Derived.Test.YtlamebbolioljaaSpX
namespace Go.Proofs.Ytlamebbolioljaa
open Go.RowKit
theorem loadSp_shut2 (a : Addr) : loadVar 43 a = loadK 43 a := rfl
theorem loadAd_shut2 (a : Addr) : loadVar 45 a = loadK 45 a := rfl
attribute [local go_sem ↓] loadSp_shut2 loadAd_shut2

theorem shI_wrap {x : Int} (h0 : -9223372036854775808 ≤ x) (h1 : x ≤ 9223372036854775807) : IntKind.i64.wrap (IntKind.u64.wrap ((shU x : Int) - 9223372036854775808)) = x := by
  rw [IntKind.wrap_i64, IntKind.wrap_u64]
  unfold shU
  omega
theorem spEnc_bytK (s : Sp) : Byt (spEnc s) := by
  have flat : ∀ {α : Type} {f : α → List Int} (l : List α), (∀ x ∈ l, Byt (f x)) → Byt (l.flatMap f) := fun l h y hy => by
    obtain ⟨x, hx, hy⟩ := List.mem_flatMap.1 hy
    exact h x hx y hy
  have one : ∀ {x : Int}, 0 ≤ x → x ≤ 255 → Byt [x] := fun h0 h1 y hy => by simp at hy; omega
  have pb : ∀ s : ByteArray, Byt (pie s) := fun s => (numEnc_byt _).append (nums_byt s)
  unfold spEnc spHead
  refine (((((flat _ fun x _ => ordEnc_byt x).append ((pb _).append (pb _))).append (one (by omega) (by omega))).append ((numEnc_byt _).append (numEnc_byt _))).append ?_ |>.append (numEnc_byt _)).append (flat _ fun t _ => (pb _).append (pb _))
  split
  · exact one (by omega) (by omega)
  · exact one (by omega) (by omega)
abbrev zadC : Array Value := #[.int .u64 0, .int .u64 0, .int .u64 0, .int .u64 0, .string ⟨#[]⟩, .string ⟨#[]⟩, .int .i64 0, .int .i64 0, .int .i64 0, .bool false, .slice none 0 0, .int .u64 0, .int .i64 0, .int .i64 0]
theorem adC_one (a : Ad) (A : Option Addr) (n c : Nat) : (adC a A n c).all (·.oneCell') = true := by simp [Value.oneCell']
set_option maxRecDepth 100000 in
theorem loadK_ad {w : World} {g n c : Nat} {a : Ad} {A : Option Addr} (h : Bk w g 45 (adC a A n c)) : (loadK 45 ⟨g, 0, none⟩).run Try.prog w = .ok (adV a A n c) w :=
  run_loadVar_row w g _ _ (adC a A n c) (0, 0) _ h Try.underlying45 rfl (by rfl)
set_option maxRecDepth 100000 in
theorem loadK_spK {w : World} {g n c : Nat} {s : Sp} {A : Option Addr} (h : Bk w g 43 (spC s A n c)) : (loadK 43 ⟨g, 0, none⟩).run Try.prog w = .ok (spV s A n c) w :=
  run_loadVar_row w g _ _ (spC s A n c) (0, 0) _ h Try.underlying43 rfl (by rfl)
def AdPost (w : World) (a : Ad) (e : Ending) (w' : World) : Prop :=
  ∃ At ct, e = .returned (.tuple #[adV a At a.s.tags.length ct, .int .i64 0]) ∧ RbT w' w'.heap.size At a.s.tags ∧ Below w.heap.size w w' ∧ a.s.tags.length ≤ ct
set_option maxRecDepth 100000 in
set_option maxHeartbeats 4000000 in
theorem scReadSpan {A0 : Option Addr} {c0 B L : Nat} (a : Ad) (w : World) (ha : Rb w B A0 (adEnc a)) (hB : B ≤ w.heap.size) (hok : a.Ok) (hc : adChk a = 0) (hL : (adEnc a).length = L) (hcap : L ≤ c0) :
    Calls Try.prog 25 #[.slice A0 L c0] w (AdPost w a) := by
  have hsc : spChk a.s = 0 := by
    unfold adChk at hc
    by_cases h : spChk a.s ≠ 0
    · rw [if_pos h] at hc; exact absurd hc h
    · omega
  have hfl : 0 ≤ a.flag ∧ a.flag ≤ 2 := by
    unfold adChk at hc
    rw [if_neg (by omega)] at hc
    by_cases h : a.flag < 0 ∨ 2 < a.flag
    · rw [if_pos h] at hc; omega
    · omega
  obtain ⟨hp1, hp2⟩ := prSp_stands hsc hok.1
  have hsm := spEnc_small hsc
  have hbyt := spEnc_bytK a.s
  obtain ⟨e0, he0⟩ : ∃ e0, spEnc a.s = e0 := ⟨_, rfl⟩
  obtain ⟨y, hy⟩ : ∃ y, shU a.shift = y := ⟨_, rfl⟩
  have hyl : y < 18446744073709551616 := by rw [← hy]; exact shU_lt hok.2.2.2
  have hsh := shI_wrap hok.2.2.1 hok.2.2.2
  rw [hy] at hsh
  have hzs : adEnc a = e0 ++ (ordEnc a.up ++ (ordEnc y ++ [a.flag])) := by
    rw [adEnc, he0, hy, show a.flag % 256 = a.flag from by omega]
    simp [itsEnc, itEnc]
  rw [he0] at hp1 hp2 hsm hbyt
  rw [hzs] at ha hL
  obtain ⟨n, hn⟩ : ∃ n, e0.length = n := ⟨_, rfl⟩
  have hLn : L = n + 17 := by rw [← hL]; simp [ordEnc_len]; omega
  subst hLn
  obtain ⟨x0, hx0⟩ : ∃ x0, (e0 ++ (ordEnc a.up ++ (ordEnc y ++ [a.flag])))[0]? = some x0 := ⟨_, List.getElem?_eq_getElem (by rw [hL]; omega)⟩
  obtain ⟨b, o, rfl, hbb, -⟩ := Rd.get ha (bv_get hx0)
  have hb0 : Below w.heap.size w (w.alloc (.cells zadC 45)) := (Below.refl _ w).alloc (Nat.le_refl _) _
  have ha1 := (ha.alloc hB (.cells zadC 45))
  have bkr := Bk.new w 45 zadC
  have hs1 : (w.alloc (.cells zadC 45)).heap.size = w.heap.size + 1 := World.size_alloc w _
  obtain ⟨w1, hw1⟩ : ∃ w1, w.alloc (.cells zadC 45) = w1 := ⟨_, rfl⟩
  rw [hw1] at hb0 ha1 bkr hs1
  obtain ⟨rb, hrb⟩ : ∃ rb, w.heap.size = rb := ⟨_, rfl⟩
  rw [hrb] at bkr hs1
  have hBr : B ≤ rb := by omega
  have HW := Lib.hid hw1
  have HG := Lib.hid hrb
  have HB0 := Lib.hid hb0
  have hte : (e0 ++ (ordEnc a.up ++ (ordEnc y ++ [a.flag]))).take n = e0 := by rw [← hn]; exact List.take_left
  have hr0 : Rb w1 B (some ⟨b, o, none⟩) e0 := by have h := Rb.take ha1 n; rwa [hte] at h
  have cp := spParse (c0 := c0) w1 hr0 (show B ≤ w1.heap.size by omega) hbyt (by omega) (fun h => by cases h) hn
  unfold ParsePost at cp
  rw [hp1, hp2] at cp
  have CP := Lib.hid cp
  have hd0 : (e0 ++ (ordEnc a.up ++ (ordEnc y ++ [a.flag]))).drop n = ordEnc a.up ++ (ordEnc y ++ [a.flag]) := by rw [← hn]; exact List.drop_left
  have hd1 : (e0 ++ (ordEnc a.up ++ (ordEnc y ++ [a.flag]))).drop (n + 8) = ordEnc y ++ [a.flag] := by
    rw [← List.drop_drop, hd0, ← ordEnc_len a.up]
    exact List.drop_left
  have hd2 : (e0 ++ (ordEnc a.up ++ (ordEnc y ++ [a.flag])))[n + 16]? = some a.flag := by
    have h := List.getElem?_drop (xs := e0 ++ (ordEnc a.up ++ (ordEnc y ++ [a.flag]))) (i := n + 8) (j := 8)
    rw [hd1] at h
    rw [show n + 16 = n + 8 + 8 from by omega, ← h, List.getElem?_append_right (by rw [ordEnc_len]; omega), ordEnc_len]
    rfl
  have hn' : n ≤ 100000 := by omega
  have HD0 := Lib.hid hd0
  have HD1 := Lib.hid hd1
  have HD2 := Lib.hid hd2
  have HL := Lib.hid hL
  have HSH := Lib.hid hsh
  have HBY : Hid (Byt (e0 ++ (ordEnc a.up ++ (ordEnc y ++ [a.flag])))) := Lib.hid (hbyt.append ((ordEnc_byt _).append ((ordEnc_byt _).append (fun z hz => by simp at hz; omega))))
  obtain ⟨zs, hzz⟩ : ∃ zs, e0 ++ (ordEnc a.up ++ (ordEnc y ++ [a.flag])) = zs := ⟨_, rfl⟩
  rw [hzz] at ha1 HD0 HD1 HD2 HL HBY
  clear hw1 hrb hb0 ha cp hd0 hd1 hd2 hte hr0 hp1 hp2 hsm hbyt he0 hy hzs hL hsh hx0 hc hsc hn hzz
  have hsl1 : ∀ W, (Instr.slice 27 (.slice (some ⟨b, o, none⟩) (n + 17) c0) (some (.int .i64 (n : Nat))) none none).run Try.prog W = .ok (.slice (offA (some ⟨b, o, none⟩) c0 n) 17 (c0 - n)) W := fun W => by
    have h := run_slK W (some ⟨b, o, none⟩) (n + 17) c0 .i64 n (by omega) (by omega)
    rw [h]
    congr 2
    omega
  have hsl2 : ∀ W, (Instr.slice 27 (.slice (some ⟨b, o, none⟩) (n + 17) c0) (some (.int .i64 ((n : Int) + 8))) none none).run Try.prog W = .ok (.slice (offA (some ⟨b, o, none⟩) c0 (n + 8)) 9 (c0 - (n + 8))) W := fun W => by
    have h := run_slK W (some ⟨b, o, none⟩) (n + 17) c0 .i64 ((n : Int) + 8) (by omega) (by omega)
    rw [h, show ((n : Int) + 8).toNat = n + 8 from by omega]
    congr 2
    omega
  go_enter Try.func25, Try.ntmps25
  go_upto_region 1 with fail
  rw [HW.out, HG.out]
  go_wp2_with fail
  refine CP.out.mono ?_
  rintro e w2 ⟨At, ct, rfl, hT, hb2, hct, hfar⟩
  have hbS := hb2.alloc hb2.size (.cells (spC a.s At a.s.tags.length ct) 43)
  have hT2 := Rd.allocS hT (.cells (spC a.s At a.s.tags.length ct) 43)
  have bks := Bk.new w2 43 (spC a.s At a.s.tags.length ct)
  go_upto_region 5 with fail
  obtain ⟨sb, hsb⟩ : ∃ sb, w2.heap.size = sb := ⟨_, rfl⟩
  obtain ⟨w3, hw3⟩ : ∃ w3, w2.alloc (.cells (spC a.s At a.s.tags.length ct) 43) = w3 := ⟨_, rfl⟩
  rw [hw3] at hbS hT2 bks ⊢
  rw [hsb] at bks ⊢
  have hsbr : rb < sb := by have := hb2.size; omega
  have bkr3 := bkr.bS hbS
  have ha3 : Rb w3 rb (some ⟨b, o, none⟩) zs := (ha1.below (hbS.mono (by omega))).more hBr
  clear hw3 hsb hT hb2 ha1
  have hd17 : Rb w3 rb (offA (some ⟨b, o, none⟩) c0 n) (zs.drop n) := ha3.drop (by rw [HL.out]; exact hcap)
  have hd9 : Rb w3 rb (offA (some ⟨b, o, none⟩) c0 (n + 8)) (zs.drop (n + 8)) := ha3.drop (by rw [HL.out]; exact hcap)
  rw [HD0.out] at hd17
  rw [HD1.out] at hd9
  have hv1 : ordVal ((ordEnc a.up ++ (ordEnc y ++ [a.flag])).take 8) = a.up := by
    have : (ordEnc a.up ++ (ordEnc y ++ [a.flag])).take 8 = ordEnc a.up := by rw [← ordEnc_len a.up]; exact List.take_left
    rw [this]
    have h := ordTo_val a.up 8
    rw [ordEnc, h, Nat.mod_eq_of_lt hok.2.1]
  have hv2 : ordVal ((ordEnc y ++ [a.flag]).take 8) = y := by
    have : (ordEnc y ++ [a.flag]).take 8 = ordEnc y := by rw [← ordEnc_len y]; exact List.take_left
    rw [this]
    have h := ordTo_val y 8
    rw [ordEnc, h, Nat.mod_eq_of_lt hyl]
  have cr1 := wireReadOrdered1 (n := 17) (c := c0 - n) w3 hd17 ((ordEnc_byt _).append ((ordEnc_byt _).append (fun z hz => by simp at hz; omega))) (by simp [ordEnc_len, maxLen]) (by omega) (by simp [ordEnc_len]) (by omega)
  have cr2 := wireReadOrdered1 (n := 9) (c := c0 - (n + 8)) w3 hd9 ((ordEnc_byt _).append (fun z hz => by simp at hz; omega)) (by simp [ordEnc_len, maxLen]) (by omega) (by simp [ordEnc_len]) (by omega)
  rw [hv1] at cr1
  rw [hv2] at cr2
  have CR1 := Lib.hid cr1
  have CR2 := Lib.hid cr2
  clear hv1 hv2 cr1 cr2 hd17 hd9
  go_upto_region 9 with (first
    | (go_at_call 30; with_reducible refine CR1.out.mono ?_; rintro e w' ⟨rfl, rfl⟩)
    | (go_at_call 30; with_reducible refine CR2.out.mono ?_; rintro e w' ⟨rfl, rfl⟩))
  have lsp := loadK_spK bks.drew
  have hfc : w3.drew.cell? ⟨b, o + (n + 16), none⟩ = some (.int .u8 a.flag) := by
    obtain ⟨b', o', e', -, h'⟩ := Rd.get ha3 (bv_get HD2.out)
    cases e'
    exact h'
  have lspA : ∀ cs : Array Value, (loadK 43 ⟨sb, 0, none⟩).run Try.prog (w3.alloc (.cells cs 45)).drew = .ok (spV a.s At a.s.tags.length ct) (w3.alloc (.cells cs 45)).drew := fun cs => loadK_spK (bks.alloc (.cells cs 45)).drew
  have hfcA : ∀ cs : Array Value, (w3.alloc (.cells cs 45)).drew.cell? ⟨b, o + (n + 16), none⟩ = some (.int .u8 a.flag) := fun cs => by
    have h := ha3.alloc (show rb ≤ w3.heap.size by have := bkr3.lt; omega) (.cells cs 45)
    obtain ⟨b', o', e', -, h'⟩ := Rd.get h (bv_get HD2.out)
    cases e'
    exact h'
  have hq1 : IntKind.i64.wrap ((n : Int) + 16) = (n : Int) + 16 := IntWalk.i64_in _ ⟨by omega, by omega⟩
  have hq2 : (0 : Int) ≤ (n : Int) + 16 := by omega
  have hq3 : ((n : Int) + 16).toNat = n + 16 := by omega
  have hq4 : (n : Int) + 16 < ((n + 17 : Nat) : Int) := by omega
  have hsh := HSH.out
  have hwf : IntKind.i64.wrap a.flag = a.flag := IntWalk.i64_in _ ⟨by omega, by omega⟩
  go_region_held3 (fun w' => (loadK 43 ⟨sb, 0, none⟩).run Try.prog w' = .ok (spV a.s At a.s.tags.length ct) w' ∧ w'.cell? ⟨b, o + (n + 16), none⟩ = some (.int .u8 a.flag)) (go_keep) (fail)
  all_goals
    have bka : Bk (w3.alloc (.cells (adC a At a.s.tags.length ct) 45)).drew w3.heap.size 45 (adC a At a.s.tags.length ct) := (Bk.new w3 _ _).drew
    have hb4 : Below w3.heap.size w3 (w3.alloc (.cells (adC a At a.s.tags.length ct) 45)).drew := below_drewN ((Below.refl _ w3).alloc (Nat.le_refl _) _) 1
    obtain ⟨w4, hw4⟩ : ∃ w4, (w3.alloc (.cells (adC a At a.s.tags.length ct) 45)).drew = w4 := ⟨_, rfl⟩
    rw [hw4] at bka hb4 ⊢
    have bkr4 := bkr3.bS hb4
    have hT4 := hT2.belowS hb4
    have hbel : Below w.heap.size w w4 := (HB0.out.trans (hbS.mono HB0.out.size)).trans (hb4.mono (Nat.le_trans HB0.out.size hbS.size))
    have laA := loadK_ad bka
    have hf13 : w4.cell? ⟨w3.heap.size, 13, none⟩ = some (.int .i64 a.flag) := bka.cell 13
    have hf2 : decide (2 < a.flag) = false := by simp; omega
    have HRB : Hid (w.heap.size = rb) := HG
    clear lspA hfcA hsl1 hsl2 hq1 hq2 hq3 hq4 hsh hwf lsp hfc hw4
    go_upto_region 12 with fail
    go_wp2_with (refine wpList_store_row rfl 45 (.tmp 2) (.tmp 64) rfl rb (adC a At a.s.tags.length ct) rfl rfl 45 zadC bkr4 (by rfl) rfl (adC_one _ _ _ _) ?_)
    refine bodyPost_ret (results_cell_row_tmpK rfl _ _ rb 45 (adC a At a.s.tags.length ct) _ rfl (bkr4.rowK _) Try.underlying45 rfl (by rfl)) rfl ?_
    have hbw := below_rowK hbel (show w.heap.size ≤ rb by rw [HRB.out]; exact Nat.le_refl _) (adC a At a.s.tags.length ct)
    refine ⟨At, ct, rfl, fun hne => ?_, hbw, hct⟩
    obtain ⟨b', o', e', hb', hc'⟩ := hT4 hne
    refine ⟨b', o', e', by simpa [World.setRow] using hb', fun j u hu => ?_⟩
    have hne2 : b' ≠ rb := fun e => by
      have h := hfar _ e'
      have h1 : w1.heap.size ≤ b' := h
      omega
    exact (World.cell?_of_block (a := ⟨b', o' + j, none⟩) (setRow_other w4 rb b' _ (fun e => hne2 e))).trans (hc' j u hu)
end Go.Proofs.Ytlamebbolioljaa
