/- Entries: their order; Append. -/
import Derived.Lib.BytesEntry
import Derived.Lib.Bytealg
import Derived.Laws.Externs
import Derived.Test.YtpjdlcdkldomlaaBatK
namespace Go.Proofs.Ytpjdlcdkldomlaa
open Go.RowKit

/-- A call has handed back a slice and a number. -/
def Made (w : World) (xs : List Value) (e : Int) (en : Ending) (w' : World) : Prop := ∃ A' c', en = .returned (.tuple #[.slice A' xs.length c', .int .i64 e]) ∧ Rd w' w'.heap.size A' xs ∧ Below w.heap.size w w' ∧ xs.length ≤ c' ∧ (∀ a, A' = some a → w.heap.size ≤ a.block) ∧ (A' = none → xs = [] ∧ c' = 0)

theorem chk0 {a b : Prop} [Decidable a] [Decidable b] (h : (if a then 2 else if b then 3 else 0) = 0) : ¬ b := by
  intro hb
  by_cases ha : a
  · rw [if_pos ha] at h; cases h
  · rw [if_neg ha, if_pos hb] at h; cases h
theorem chk0' {seq : Nat} {ws : List Wr} (h : batChk seq ws = 0) : (∀ x ∈ ws, wrShort x = true) ∧ ws.length ≤ 1024 := by
  have hnn := chk0 h
  simp only [not_or] at hnn
  refine ⟨fun x hx => ?_, by omega⟩
  have h1 := hnn.1
  rw [Bool.not_eq_true, List.any_eq_false] at h1
  simpa using h1 x hx
set_option maxRecDepth 100000 in
theorem batAppend {Aw : Option Addr} {nw cw B seq : Nat} {ws : List Wr} (w : World) (hf : RbW w B Aw ws) (hb : ∀ x ∈ ws, BytW x) (hn : ws.length = nw) (hB : B ≤ w.heap.size) (hseq : seq < 18446744073709551616) (hnl : nw ≤ 9223372036854775807) :
    Calls Try.prog 15 #[.slice none 0 0, .agg #[.int .u64 seq, .slice Aw nw cw]] w (Made w (bv (if batChk seq ws ≠ 0 then [] else batEnc seq ws)) (batChk seq ws)) := by
  have bB : Bk (w.alloc (.cells #[.int .u64 seq, .slice Aw nw cw] 36)) w.heap.size 36 #[.int .u64 seq, .slice Aw nw cw] := Bk.new w _ _
  have hb0 : Below w.heap.size w (w.alloc (.cells #[.int .u64 seq, .slice Aw nw cw] 36)) := (Below.refl _ w).alloc (Nat.le_refl _) _
  have hf1 := hf.keep (w' := w.alloc (.cells #[.int .u64 seq, .slice Aw nw cw] 36)) (fun p hp => World.cell?_alloc_lt _ _ _ (by omega))
  obtain ⟨w1, hw1⟩ : ∃ w1, w.alloc (.cells #[.int .u64 seq, .slice Aw nw cw] 36) = w1 := ⟨_, rfl⟩
  have hs1 : w1.heap.size = w.heap.size + 1 := by rw [← hw1]; simp
  rw [hw1] at bB hb0 hf1
  have HW := Lib.hid hw1
  have HN := Lib.hid hn
  have HSEQ := Lib.hid hseq
  have hck := batCheck (cw := cw) w1 hf1 hb HN.out (by omega) HSEQ.out hnl
  obtain ⟨out, ho⟩ : ∃ out, (if batChk seq ws ≠ 0 then [] else batEnc seq ws) = out := ⟨_, rfl⟩
  rw [ho]
  obtain ⟨r, hr⟩ : ∃ r, batChk seq ws = r := ⟨_, rfl⟩
  rw [hr] at hck ho ⊢
  have HO := Lib.hid ho
  clear ho
  have HR := Lib.hid hr
  clear hw1 hn hr
  go_enter Try.func15, Try.ntmps15
  go_wp2_with fail
  rw [HW.out]
  refine hck.mono ?_
  rintro e w2 ⟨rfl, hb2⟩
  have bB2 : Bk w2 w.heap.size 36 #[.int .u64 seq, .slice Aw nw cw] := bB.below hb2 (by omega)
  have hf2 := hf1.below (hb2.mono (by omega : B ≤ w1.heap.size))
  have hb02 := hb0.trans (hb2.mono (by omega))
  have k0 : w2.cell? ⟨w.heap.size, 0, none⟩ = some (.int .u64 seq) := bB2.cell 0
  have k1 : w2.cell? ⟨w.heap.size, 1, none⟩ = some (.slice Aw nw cw) := bB2.cell 1
  have hs2 := hb2.size
  by_cases hr0 : r = 0
  · subst hr0
    have ho : batEnc seq ws = out := by have h := HO.out; rwa [if_neg (by simp)] at h
    obtain ⟨hshort, h1024⟩ := chk0' HR.out
    rw [HN.out] at h1024
    have hput := batPut (cw := cw) w2 hf2 hb hshort HN.out h1024 (by omega : B ≤ w2.heap.size) HSEQ.out
    rw [ho] at hput
    clear hshort ho
    go_wp2_with fail
    refine hput.mono ?_
    rintro e w5 ⟨A5, c5, rfl, happ5, hne5⟩
    go_wp2
    go_ret2
    exact ⟨A5, c5, by rw [bv_length]; rfl, happ5.rd, hb02.trans (happ5.below0.mono (by omega)), by rw [bv_length]; exact happ5.cap, fun a ha => by have := happ5.lo a ha; omega, fun e => absurd e hne5⟩
  · have hrb : (((r : Nat) : Int) != 0) = true := by rw [bne_iff_ne]; omega
    have ho : [] = out := by have h := HO.out; rwa [if_pos hr0] at h
    subst ho
    go_wp2
    go_ret2
    exact ⟨none, 0, rfl, Rd.nil, hb02, Nat.le_refl _, (fun a ha => by cases ha), fun _ => ⟨rfl, rfl⟩⟩

/-! ### the order of entries -/
def cmpN (a b : List Int) : Int :=
  match a, b with
  | [], [] => 0
  | [], _ :: _ => -1
  | _ :: _, [] => 1
  | x :: la, y :: lb => if x < y then -1 else if y < x then 1 else cmpN la lb
theorem compareBytes_cmpN : ∀ (a b : List Int), Byt a → Byt b → Lib.compareBytes (Lib.bytesOf a) (Lib.bytesOf b) = cmpN a b
  | [], [], _, _ => rfl
  | [], _ :: _, _, _ => rfl
  | _ :: _, [], _, _ => rfl
  | x :: la, y :: lb, ha, hb => by
    have hx := ha x (List.mem_cons_self ..)
    have hy := hb y (List.mem_cons_self ..)
    have ih := compareBytes_cmpN la lb (fun z hz => ha z (List.mem_cons_of_mem _ hz)) (fun z hz => hb z (List.mem_cons_of_mem _ hz))
    have lt : ∀ (p q : Int), 0 ≤ p ∧ p ≤ 255 → 0 ≤ q ∧ q ≤ 255 → ((UInt8.ofNat p.toNat < UInt8.ofNat q.toNat) ↔ p < q) := by
      intro p q hp hq
      rw [UInt8.lt_iff_toNat_lt, UInt8.toNat_ofNat', UInt8.toNat_ofNat']
      omega
    simp only [Lib.bytesOf, List.map_cons] at ih ⊢
    rw [Lib.compareBytes, cmpN, ih]
    by_cases h1 : x < y
    · rw [if_pos h1, if_pos ((lt x y hx hy).2 h1)]
    · rw [if_neg h1, if_neg (fun h => h1 ((lt x y hx hy).1 h))]
      by_cases h2 : y < x
      · rw [if_pos h2, if_pos ((lt y x hy hx).2 h2)]
      · rw [if_neg h2, if_neg (fun h => h2 ((lt y x hy hx).1 h))]
theorem run_bytesOfR {P : Program} {w : World} {B : Nat} {A : Option Addr} {zs : List Int} (h : Rb w B A zs) (c : Nat) : (Extern.Bytes.bytesOf (.slice A zs.length c)).run P w = .ok ⟨(Lib.bytesOf zs).toArray⟩ w := by
  cases A with
  | none =>
    have hz : zs = [] := by
      by_cases hz : zs = []
      · exact hz
      · obtain ⟨b, o, e, _⟩ := h (by simpa [bv] using hz)
        cases e
    subst hz
    rfl
  | some a =>
    have := Lib.run_loadBytesX (P := P) w zs a .empty (fun j x hj => by
      obtain ⟨b, o, e, _, hc⟩ := h (by rintro h0; simp [bv] at h0; subst h0; simp at hj)
      cases e
      rw [Addr.add_lit]
      exact hc j _ (bv_get hj))
    show (Extern.Bytes.loadBytes a zs.length .empty).run P w = _
    rw [this]
    simp
theorem run_compareR {P : Program} {w : World} {B B' : Nat} {A A' : Option Addr} {xs ys : List Int} (hx : Rb w B A xs) (hy : Rb w B' A' ys) (bx : Byt xs) (by_ : Byt ys) (c c' : Nat) :
    (Extern.BytealgCompare.compare #[.slice A xs.length c, .slice A' ys.length c']).run P w = .ok (.int .i64 (cmpN xs ys)) w := by
  change Sem.run P (do pure (goInt (Extern.BytealgCompare.cmp (← Extern.Bytes.bytesOf (.slice A xs.length c)) (← Extern.Bytes.bytesOf (.slice A' ys.length c'))))) w = _
  simp only [Sem.run_bind, run_bytesOfR hx, run_bytesOfR hy, Sem.run_pure, Result.andThen]
  rw [Lib.cmp_eq]
  show Result.ok (goInt (Lib.compareBytes (Lib.bytesOf xs).toArray.toList (Lib.bytesOf ys).toArray.toList)) w = _
  rw [List.toList_toArray, List.toList_toArray, compareBytes_cmpN xs ys bx by_]
  rfl
theorem bytesCompare {B B' n n' c c' : Nat} {A A' : Option Addr} {xs ys : List Int} (w : World) (hx : Rb w B A xs) (hy : Rb w B' A' ys) (bx : Byt xs) (by_ : Byt ys) (hn : xs.length = n) (hn' : ys.length = n') :
    Calls Try.prog 21 #[.slice A n c, .slice A' n' c'] w fun e w' => e = .returned (.int .i64 (cmpN xs ys)) ∧ w' = w := by
  subst hn hn'
  have hr := run_compareR (P := Try.prog) hx hy bx by_ c c'
  obtain ⟨r, hrr⟩ : ∃ r, cmpN xs ys = r := ⟨_, rfl⟩
  rw [hrr] at hr ⊢
  clear hrr
  go_enter Try.func21, Try.ntmps21
  go_wp2
  rw [run_callFunc_extern Try.func37 (by kernel_rfl) (by kernel_rfl) (by kernel_rfl) (e := Extern.BytealgCompare.compare) (by kernel_rfl), hr]
  simp only [Result.andThen]
  rw [Oper.upon_value]
  go_wp2
  go_ret
  exact ⟨rfl, rfl⟩
def cmpI (x y : Int) : Int := if x < y then -1 else if y < x then 1 else 0
theorem cmpCompare (x y : Int) (w : World) : Calls Try.prog 22 #[.int .u64 x, .int .u64 y] w fun e w' => e = .returned (.int .i64 (cmpI x y)) ∧ w' = w := by
  by_cases h1 : x < y
  · rw [show cmpI x y = -1 from by rw [cmpI, if_pos h1]]
    go_enter Try.func22, Try.ntmps22
    go_wp2
    go_ret
    exact ⟨rfl, rfl⟩
  · by_cases h2 : y < x
    · rw [show cmpI x y = 1 from by rw [cmpI, if_neg h1, if_pos h2]]
      go_enter Try.func22, Try.ntmps22
      go_wp2
      go_ret
      exact ⟨rfl, rfl⟩
    · rw [show cmpI x y = 0 from by rw [cmpI, if_neg h1, if_neg h2]]
      go_enter Try.func22, Try.ntmps22
      go_wp2
      go_ret
      exact ⟨rfl, rfl⟩
theorem cmpOr2 (x y : Int) (g : Nat) (w : World) (hb : Bk w g 3 #[.int .i64 x, .int .i64 y]) : Calls Try.prog 20 #[.slice (some ⟨g, 0, none⟩) 2 2] w fun e w' => e = .returned (.int .i64 (if x ≠ 0 then x else y)) ∧ w' = w := by
  have c0 : w.cell? ⟨g, 0, none⟩ = some (.int .i64 x) := hb.cell 0
  have c1 : w.cell? ⟨g, 1, none⟩ = some (.int .i64 y) := hb.cell 1
  by_cases hx : x = 0
  · subst hx
    by_cases hy : y = 0
    · subst hy
      go_enter Try.func20, Try.ntmps20
      go_wp2
      go_loop [8] (fun i => ∃ j : Nat, j ≤ 2 ∧ i = .int .i64 j) (fun i => 2 - (intOf i).toNat)
      case atStart => exact ⟨0, by omega, rfl⟩
      case round =>
        obtain ⟨j, hj, rfl⟩ := hrel
        have hj3 : j = 0 ∨ j = 1 ∨ j = 2 := by omega
        rcases hj3 with rfl | rfl | rfl
        · go_wp2
          go_round
          case rel => exact ⟨1, by omega, rfl⟩
          case measure => simp [intOf]
        · go_wp2
          go_round
          case rel => exact ⟨2, by omega, rfl⟩
          case measure => simp [intOf]
        · go_wp2
          go_ret
          exact ⟨by simp, rfl⟩
    · have hyb : (y != 0) = true := by simp [hy]
      go_enter Try.func20, Try.ntmps20
      go_wp2
      go_loop [8] (fun i => ∃ j : Nat, j ≤ 1 ∧ i = .int .i64 j) (fun i => 2 - (intOf i).toNat)
      case atStart => exact ⟨0, by omega, rfl⟩
      case round =>
        obtain ⟨j, hj, rfl⟩ := hrel
        have hj3 : j = 0 ∨ j = 1 := by omega
        rcases hj3 with rfl | rfl
        · go_wp2
          go_round
          case rel => exact ⟨1, by omega, rfl⟩
          case measure => simp [intOf]
        · go_wp2
          go_ret
          exact ⟨by simp, rfl⟩
  · have hxb : (x != 0) = true := by simp [hx]
    rw [if_pos hx]
    go_enter Try.func20, Try.ntmps20
    go_wp2
    go_loop [8] (fun i => i = .int .i64 0) (fun i => 2 - (intOf i).toNat)
    case atStart => rfl
    case round =>
      subst hrel
      go_wp2
      go_ret
      exact ⟨rfl, rfl⟩
end Go.Proofs.Ytpjdlcdkldomlaa
