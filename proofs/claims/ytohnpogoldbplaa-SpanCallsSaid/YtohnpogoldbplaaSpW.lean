/- Spans: 'lives' answers true. -/
import Derived.Deep.Cut
import Derived.Test.YtohnpogoldbplaaSpV
namespace Go.Proofs.Ytohnpogoldbplaa
open Go.RowKit

theorem Byt.nil : Byt [] := fun x hx => by simp at hx
theorem Byt.one {x : Int} (h0 : 0 ≤ x) (h1 : x ≤ 255) : Byt [x] := fun y hy => by simp at hy; omega
theorem pie_byt (s : ByteArray) : Byt (pie s) := (numEnc_byt _).append (nums_byt s)
theorem byt_flat {α : Type} {f : α → List Int} (l : List α) (h : ∀ x ∈ l, Byt (f x)) : Byt (l.flatMap f) := fun y hy => by
  obtain ⟨x, hx, hy⟩ := List.mem_flatMap.1 hy
  exact h x hx y hy
theorem spEnc_byt (s : Sp) : Byt (spEnc s) := by
  unfold spEnc spHead
  refine (((((byt_flat _ fun x _ => ordEnc_byt x).append ((pie_byt _).append (pie_byt _))).append (Byt.one (by omega) (by omega))).append ((numEnc_byt _).append (numEnc_byt _))).append ?_ |>.append (numEnc_byt _)).append (byt_flat _ fun t _ => (pie_byt _).append (pie_byt _))
  split
  · exact Byt.one (by omega) (by omega)
  · exact Byt.one (by omega) (by omega)
/-- The first field of a span: its trace. -/
theorem field_trace (W : World) (a b c d e f g h i j k : Value) : (Instr.field 27 (.agg #[a, b, c, d, e, f, g, h, i, j, k]) 0).run Try.prog W = .ok (.agg #[a, b]) W := by
  kernel_rfl
theorem one_u64 : oneS.U64 := by unfold Sp.U64 oneS; simp
theorem one_len : (spEnc oneS).length ≤ 1000 ∧ spEnc oneS ≠ [] := by decide +kernel

/-- The eleven cells of a span that lies in a block. -/
def Cells11 (g : Nat) (s : Sp) (A : Option Addr) (n c : Nat) (w' : World) : Prop := w'.cell? ⟨g, 0, none⟩ = some (.int .u64 s.hi) ∧ w'.cell? ⟨g, 1, none⟩ = some (.int .u64 s.lo) ∧ w'.cell? ⟨g, 2, none⟩ = some (.int .u64 s.id) ∧ w'.cell? ⟨g, 3, none⟩ = some (.int .u64 s.parent) ∧ w'.cell? ⟨g, 4, none⟩ = some (.string s.service) ∧ w'.cell? ⟨g, 5, none⟩ = some (.string s.name) ∧ w'.cell? ⟨g, 6, none⟩ = some (.int .i64 s.kind) ∧ w'.cell? ⟨g, 7, none⟩ = some (.int .i64 s.start) ∧ w'.cell? ⟨g, 8, none⟩ = some (.int .i64 s.length) ∧ w'.cell? ⟨g, 9, none⟩ = some (.bool s.fails) ∧ w'.cell? ⟨g, 10, none⟩ = some (.slice A n c)
theorem cells11 {w' : World} {g : Nat} {s : Sp} {A : Option Addr} {n c : Nat} (h : Bk w' g 27 (spC s A n c)) : w'.cell? ⟨g, 0, none⟩ = some (.int .u64 s.hi) ∧ w'.cell? ⟨g, 1, none⟩ = some (.int .u64 s.lo) ∧ w'.cell? ⟨g, 2, none⟩ = some (.int .u64 s.id) ∧ w'.cell? ⟨g, 3, none⟩ = some (.int .u64 s.parent) ∧ w'.cell? ⟨g, 4, none⟩ = some (.string s.service) ∧ w'.cell? ⟨g, 5, none⟩ = some (.string s.name) ∧ w'.cell? ⟨g, 6, none⟩ = some (.int .i64 s.kind) ∧ w'.cell? ⟨g, 7, none⟩ = some (.int .i64 s.start) ∧ w'.cell? ⟨g, 8, none⟩ = some (.int .i64 s.length) ∧ w'.cell? ⟨g, 9, none⟩ = some (.bool s.fails) ∧ w'.cell? ⟨g, 10, none⟩ = some (.slice A n c) :=
  ⟨h.cell 0, h.cell 1, h.cell 2, h.cell 3, h.cell 4, h.cell 5, h.cell 6, h.cell 7, h.cell 8, h.cell 9, h.cell 10⟩
theorem kitSameOne {A1 A2 : Option Addr} {c1 c2 n : Nat} (w : World) (hn : n = oneS.tags.length) (h1 : RbT w w.heap.size A1 oneS.tags) (h2 : RbT w w.heap.size A2 oneS.tags) : Calls Try.prog 11 #[spV oneS A1 n c1, spV oneS A2 1 c2] w fun e w' => e = .returned (.bool true) ∧ Below w.heap.size w w' := by
  subst hn
  have h := kitSameTags (c1 := c1) (c2 := c2) (n := 1) oneS oneS.tags oneS.tags w h1 h2 rfl rfl (Nat.le_refl _) (by omega)
  rw [decide_eq_true rfl] at h
  exact h
set_option maxRecDepth 100000 in
set_option maxHeartbeats 4000000 in
theorem lawLives (w : World) : Calls Try.prog 7 #[] w fun e w' => e = .returned (.bool true) ∧ Below w.heap.size w w' := by
  obtain ⟨E, hE⟩ : ∃ E, [] ++ spEnc oneS = E := ⟨_, rfl⟩
  have hE' : spEnc oneS = E := by rw [← hE]; rfl
  have e0 : prErr E = 0 := by rw [← hE']; exact one_err
  have e1 : prSp E = oneS := by rw [prSp, if_pos e0, ← hE']; exact one_sp
  have hEb : Byt E := by rw [← hE']; exact spEnc_byt _
  have hEl : E.length ≤ 1000 := by rw [← hE']; exact one_len.1
  have hEn : E ≠ [] := by rw [← hE']; exact one_len.2
  have HE := Lib.hid hE
  clear hE hE'
  go_enter Try.func7, Try.ntmps7
  go_wp2_with fail
  refine (lawOne w).mono ?_
  rintro e w1 ⟨A1, rfl, ht1, hb1⟩
  go_wp2_with fail
  refine (spAppend (zs := []) (n := 0) (B := w1.heap.size) oneS w1 Rd.nil (Nat.le_refl _) (by simp) (fun _ => ⟨rfl, rfl⟩) rfl ht1 rfl (by decide) one_u64).mono ?_
  rintro e w2 ⟨hb2, ⟨h, -⟩ | ⟨-, A2, c2, rfl, hr2, hc2, hf2⟩⟩
  · exact absurd one_chk h
  rw [HE.out] at hr2 hc2 ⊢
  have hs1 := hb1.size
  have hs2 := hb2.size
  have hb02 := hb1.trans (hb2.mono hs1)
  have hA2 : A2 = none → E = [] ∧ c2 = 0 := fun h => by
    obtain ⟨b, o, e, _, _⟩ := hr2 (by cases E with | nil => exact absurd rfl hEn | cons x l => simp [bv])
    rw [h] at e
    cases e
  obtain ⟨n2, hn2⟩ : ∃ n2, E.length = n2 := ⟨_, rfl⟩
  rw [hn2] at hc2 ⊢
  have HN2 := Lib.hid hn2
  clear hn2
  go_wp2_with fail
  refine (spParse w2 hr2 (Nat.le_refl _) hEb (by omega) hA2 HN2.out).mono ?_
  rintro e w3 ⟨A3, c3, rfl, ht3, hb3, hl3, hf3⟩
  rw [e1] at ht3 hl3 ⊢
  rw [e0]
  have hs3 := hb3.size
  have hb03 := hb02.trans (hb3.mono (by omega))
  clear hb1 hb2 hb02 hb3 hr2 hf2 hf3 hA2 ht1 e0 e1 hEb hEl hEn
  have hfld := fun W a b c d e f g h i j k => field_trace W a b c d e f g h i j k
  go_upto_region 3 with fail
  have bk := Bk.new w3 27 (spC oneS A3 oneS.tags.length c3)
  have ht4 := Rd.allocS ht3 (.cells (spC oneS A3 oneS.tags.length c3) 27)
  have hb04 := hb03.alloc (by omega) (.cells (spC oneS A3 oneS.tags.length c3) 27)
  have hs4 : (w3.alloc (.cells (spC oneS A3 oneS.tags.length c3) 27)).heap.size = w3.heap.size + 1 := by simp
  obtain ⟨W, hW⟩ : ∃ W, w3.alloc (.cells (spC oneS A3 oneS.tags.length c3) 27) = W := ⟨_, rfl⟩
  rw [hW] at bk ht4 hb04 hs4 ⊢
  obtain ⟨g, hg⟩ : ∃ g, w3.heap.size = g := ⟨_, rfl⟩
  rw [hg] at bk ⊢
  have bkd : Bk W.drew g 27 (spC oneS A3 oneS.tags.length c3) := bk.drew
  have htd : RbT W.drew W.drew.heap.size A3 oneS.tags := ht4
  have hbd : Below w.heap.size w W.drew := below_drewN hb04 1
  have hwd : w.heap.size ≤ W.drew.heap.size := hbd.size
  clear hW bk ht4 hb04 ht3 hs4 hb03
  go_region_held3 (fun w' => w'.cell? ⟨g, 0, none⟩ = some (.int .u64 oneS.hi) ∧ w'.cell? ⟨g, 1, none⟩ = some (.int .u64 oneS.lo) ∧ w'.cell? ⟨g, 2, none⟩ = some (.int .u64 oneS.id) ∧ w'.cell? ⟨g, 3, none⟩ = some (.int .u64 oneS.parent) ∧ w'.cell? ⟨g, 4, none⟩ = some (.string oneS.service) ∧ w'.cell? ⟨g, 5, none⟩ = some (.string oneS.name) ∧ w'.cell? ⟨g, 6, none⟩ = some (.int .i64 oneS.kind) ∧ w'.cell? ⟨g, 7, none⟩ = some (.int .i64 oneS.start) ∧ w'.cell? ⟨g, 8, none⟩ = some (.int .i64 oneS.length) ∧ w'.cell? ⟨g, 9, none⟩ = some (.bool oneS.fails) ∧ w'.cell? ⟨g, 10, none⟩ = some (.slice A3 oneS.tags.length c3))
    (exact cells11 (by assumption))
    (first
      | (go_at_call 13
         refine (lawOne W.drew).mono ?_
         rintro e w5 ⟨A5, rfl, ht5, hb5⟩
         have b5 := bkd.below hb5 bkd.lt
         have htd5 := Rd.belowS htd hb5
         have hb05 := hbd.trans (hb5.mono hwd)
         have hw5 := hb05.size)
      | (go_at_call 11
         refine (kitSameOne (n := oneS.tags.length) w5 rfl htd5 ht5).mono ?_
         rintro e w6 ⟨rfl, hb6⟩
         have b6 := b5.below hb6 b5.lt
         have hb06 := hb05.trans (hb6.mono hw5)
         have hw6 := hb06.size)
      | (go_at_call 13
         refine (lawOne w6).mono ?_
         rintro e w7 ⟨A7, rfl, ht7, hb7⟩
         rw [show spV oneS A7 1 1 = .agg #[.int .u64 1, .int .u64 255, .int .u64 7, .int .u64 0, .string ⟨#[97]⟩, .string ⟨#[120]⟩, .int .i64 1, .int .i64 300, .int .i64 5, .bool true, .slice A7 1 1] from rfl]
         have b7 := b6.below hb7 b6.lt
         have hb07 := hb06.trans (hb7.mono hw6)
         have hw7 := hb07.size)
      | (go_at_call 26
         refine (spTraceText (hi := 1) (lo := 255) w7 (by decide) (by decide)).mono ?_
         rintro e w8 ⟨rfl, hb8⟩
         rw [one_trc]
         have b8 := b7.below hb8 b7.lt
         have hb08 := hb07.trans (hb8.mono hw7)
         have hw8 := hb08.size)
      | (go_at_call 14
         refine (spCheck (A := none) (c := 0) (n := 0) (B := 0) zeroSp w8 Rd.nil rfl (Nat.zero_le _) (by decide)).mono ?_
         rintro e w9 ⟨rfl, hb9⟩
         rw [zero_chk]
         have b9 := b8.below hb9 b8.lt
         have hb09 := hb08.trans (hb9.mono hw8))
      | fail)
  all_goals
    go_wp2
    go_ret
    exact ⟨rfl, hb09⟩
end Go.Proofs.Ytohnpogoldbplaa
