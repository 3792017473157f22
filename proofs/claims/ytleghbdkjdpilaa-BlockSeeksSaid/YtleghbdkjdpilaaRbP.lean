/- The document's Put: an entry among others, in order. -/
import Derived.BigRegion
import Derived.BigQuiet
import Derived.Deep.Cut
import Derived.Deep.RegionHeld3
import Derived.Test.YtleghbdkjdpilaaRbR
import Derived.Test.YtleghbdkjdpilaaBkQ
namespace Go.Proofs.Ytleghbdkjdpilaa
open Go.RowKit
theorem loadEn_shutRp (a : Addr) : loadVar 29 a = loadK 29 a := rfl
attribute [local go_sem ↓] loadEn_shutRp

def putE (e : BE) : List BE → List BE
  | [] => [e]
  | a :: l => if enLt a.x e.x = true then a :: putE e l else e :: a :: l
def putN (e : En) : List En → List En
  | [] => [e]
  | a :: l => if enLt a e = true then a :: putN e l else e :: a :: l
theorem ens_put (e : BE) : ∀ l : List BE, ens (putE e l) = putN e.x (ens l)
  | [] => rfl
  | a :: l => by
    have ih := ens_put e l
    show ens (if enLt a.x e.x = true then a :: putE e l else e :: a :: l) = if enLt a.x e.x = true then a.x :: putN e.x (ens l) else e.x :: a.x :: ens l
    split
    · show a.x :: ens (putE e l) = _
      rw [ih]
    · rfl
theorem putE_at {e : BE} : ∀ {l : List BE} {k : Nat}, k ≤ l.length → (∀ a ∈ l.take k, enLt a.x e.x = true) → (∀ a, l[k]? = some a → enLt a.x e.x = false) → putE e l = l.take k ++ e :: l.drop k
  | [], k, h, _, _ => by simp [putE]
  | a :: l, 0, _, _, h2 => by
    rw [putE, if_neg (by rw [h2 a rfl]; simp)]
    rfl
  | a :: l, k + 1, h, h1, h2 => by
    rw [putE, if_pos (h1 a (by simp)), putE_at (l := l) (k := k) (by simpa using h) (fun b hb => h1 b (by simp [hb])) (fun b hb => h2 b (by simpa using hb))]
    simp
theorem putE_mem {e : BE} {l : List BE} {k : Nat} : ∀ x, x ∈ l.take k ++ e :: l.drop k → x = e ∨ x ∈ l := fun x hx => by
  rcases List.mem_append.1 hx with hx | hx
  · exact .inr (List.mem_of_mem_take hx)
  · rcases List.mem_cons.1 hx with rfl | hx
    · exact .inl rfl
    · exact .inr (List.mem_of_mem_drop hx)
def cutE (a : Option Addr) (c k : Nat) : Option Addr := if c = k then a else a.map (·.add (k * 4))
theorem flatE_append (a b : List BE) : flatR beC (a ++ b) = flatR beC a ++ flatR beC b := by simp [flatR]
theorem flatE_len (l : List BE) : (flatR beC l).length = l.length * 4 := flatR_length beC_length _
theorem Rd.takeE {w : World} {B : Nat} {A : Option Addr} {l : List BE} (h : Rd w B A (flatR beC l)) (k : Nat) : Rd w B A (flatR beC (l.take k)) := by
  have e : flatR beC (l.take k) = (flatR beC l).take ((l.take k).length * 4) := by
    have e2 : flatR beC l = flatR beC (l.take k) ++ flatR beC (l.drop k) := by rw [← flatE_append, List.take_append_drop]
    rw [e2, ← flatE_len, List.take_left]
  rw [e]
  exact Rd.take h _
theorem Rd.dropE {w : World} {B c : Nat} {A : Option Addr} {l : List BE} (h : Rd w B A (flatR beC l)) (k : Nat) (hk : k ≤ l.length) (hc : l.length ≤ c) : Rd w B (cutE A c k) (flatR beC (l.drop k)) := by
  have e : flatR beC (l.drop k) = (flatR beC l).drop (k * 4) := by
    have e2 : flatR beC l = flatR beC (l.take k) ++ flatR beC (l.drop k) := by rw [← flatE_append, List.take_append_drop]
    rw [e2, show k * 4 = (flatR beC (l.take k)).length from by rw [flatE_len, List.length_take]; omega, List.drop_left]
  have h1 := Rd.drop (k := k * 4) (cap := c * 4) h (by rw [flatE_len]; omega)
  rw [e]
  unfold cutE
  by_cases hk : c = k
  · rw [if_pos hk]
    rwa [if_pos (by omega)] at h1
  · rw [if_neg hk]
    rwa [if_neg (by omega)] at h1
theorem run_slE (w : World) (a : Option Addr) (n c : Nat) (kl : IntKind) (l : Int) (h0 : 0 ≤ l) (h1 : l ≤ n) :
    (Instr.slice 22 (.slice a n c) (some (.int kl l)) none none).run Try.prog w = .ok (.slice (cutE a c l.toNat) (n - l.toNat) (c - l.toNat)) w := by
  have h := run_slice_l (P := Try.prog) w 22 a n c Try.underlying22 kl l h0 h1
  rw [h]
  have hs : (sizeOf (Try.prog.elem 22)).run Try.prog w = .ok 4 w := by kernel_rfl
  rw [hs]
  simp [Result.andThen, sliced, cutE]
theorem run_slH (w : World) (a : Option Addr) (n c : Nat) (kl : IntKind) (l : Int) (h0 : 0 ≤ l) (h1 : l ≤ c) :
    (Instr.slice 22 (.slice a n c) none (some (.int kl l)) none).run Try.prog w = .ok (.slice a l.toNat c) w := by
  have h := run_slice_h (P := Try.prog) w 22 a n c Try.underlying22 kl l h0 h1
  rw [h]
  have hs : (sizeOf (Try.prog.elem 22)).run Try.prog w = .ok 4 w := by kernel_rfl
  rw [hs]
  have ha : ∀ b : Option Addr, b.map (fun x => x.add 0) = b := fun b => by cases b <;> simp [Addr.add]
  simp [Result.andThen, sliced, ha]
/-- append of entries, at a step of a region that draws its order. -/
theorem step_appE {w1 w : World} {ops : Array Oper} {o : Oper} {a : Act} {K : Act → World → Prop} {Q : Exit → Act → World → Prop} {E : Prop} (hgd : o.guard = none) (s x : Operand)
    (ho : o.op = .call { callee := .builtin .append, args := #[s, x], argTypes := #[22, 22] })
    (v : Value) (n : Nat) (xs : List Value) (hs : a.eval s = v) (hown : w.ownsRow w1.heap.size 29 4 v n xs) (hb : Below w1.heap.size w1 w)
    (B : Nat) (A : Option Addr) (m c : Nat) (news : List BE) (hx : a.eval x = .slice A m c) (hl : news.length = m) (hr : Rd w B A (flatR beC news))
    (hbytes : n + m ≤ 1048576) (p : Nat) (ys : List Value) (hp : n + m = p) (hy : xs ++ flatR beC news = ys)
    (h : ∀ A' c' w', App w1.heap.size 29 4 w v w' (.slice A' p c') p ys → Below w1.heap.size w1 w' → K (a.put o.dst (.slice A' p c')) w') :
    if Region.wanted o (yielded ops a.tmps) = true then Oper.wp Try.prog o a w K Q else E := by
  subst hp hy
  have hw : Region.wanted o (yielded ops a.tmps) = true := by simp [Region.wanted, hgd]
  rw [if_pos hw]
  obtain ⟨i0, hi0, hz0, hz1, hz2⟩ := info_parts eninfo
  refine wp_app w s x _ ho w1.heap.size 29 i0 _ 4 64 Try.underlying22 hi0 hz0 hz1 hz2 rfl (by omega) v n xs hs hown B A m c (flatR beC news) hx (by rw [flatE_len, hl]) hr (fun u hu => ?_) (by simp only [maxLen]; omega) (by omega) hb.size ?_
  · simp only [flatR, List.mem_flatMap] at hu
    obtain ⟨e, -, hu⟩ := hu
    simp only [beC, List.mem_cons, List.not_mem_nil, or_false] at hu
    rcases hu with rfl | rfl | rfl | rfl <;> rfl
  · intro A' c' w' h1 h2 h3 h4
    have happ := (App.refl hown).step h1 h2 h3
    exact h A' c' w' happ (hb.trans (happ.below hb.size (fun k e => (hown.lt k e).1)))
theorem Rd.besideR {w w' : World} {A : Option Addr} {xs : List Value} {row : Option Nat} (h : Rd w w.heap.size A xs) (hg : w.grownBy w' row) (hne : ∀ a, A = some a → row ≠ some a.block) : Rd w' w'.heap.size A xs := fun hx => by
  obtain ⟨b, o, e, hb, hc⟩ := h hx
  exact ⟨b, o, e, Nat.lt_of_lt_of_le hb hg.size, fun j u hu => by
    rw [← hc j u hu]
    exact World.cell?_of_block (a := ⟨b, o + j, none⟩) (hg.block b hb (fun q => hne _ e q.symm))⟩
/-- What Put hands back. -/
def RpPost (w : World) (l : List BE) (e : Ending) (w' : World) : Prop := ∃ A c, e = .returned (.slice A l.length c) ∧ RbE w' w'.heap.size A l ∧ Below w.heap.size w w' ∧ l.length ≤ c
set_option maxRecDepth 100000 in
set_option maxHeartbeats 4000000 in
theorem rPut {A : Option Addr} {n c : Nat} (l : List BE) (e : BE) (w : World) (h : RbE w w.heap.size A l) (he : BeOk w w.heap.size e) (hn : l.length = n) (hc : n ≤ c) (hnl : n ≤ 1000) :
    Calls Try.prog 8 #[.slice A n c, beV e] w (RpPost w (putE e l)) := by
  have hal : Below w.heap.size w (w.alloc (.cells (beA e) 29)) := (Below.refl _ w).alloc (Nat.le_refl _) _
  have bk := Bk.new w 29 (beA e)
  obtain ⟨w1, hw1⟩ : ∃ w1, w.alloc (.cells (beA e) 29) = w1 := ⟨_, rfl⟩
  obtain ⟨g, hg⟩ : ∃ g, w.heap.size = g := ⟨_, rfl⟩
  rw [hw1] at hal bk
  rw [hg] at bk
  obtain ⟨L, hL⟩ : ∃ L, putE e l = L := ⟨_, rfl⟩
  rw [hL]
  have HW := Lib.hid hw1
  have HG := Lib.hid hg
  have HBK := Lib.hid bk
  have HAL := Lib.hid hal
  have HRB := Lib.hid (h.bS hal)
  have HOK := Lib.hid ((he.below hal).more hal.size)
  have HN := Lib.hid hn
  have HL := Lib.hid hL
  clear hw1 hg bk hal h he hn hL
  go_enter Try.func8, Try.ntmps8
  go_upto_region 1 with fail
  rw [HW.out, HG.out]
  go_wp2_with fail
  go_loopw [5] (fun i_ wr => ∃ k : Nat, k ≤ n ∧ i_ = .int .i64 k ∧ (∀ a ∈ l.take k, enLt a.x e.x = true) ∧ Below w1.heap.size w1 wr) (fun i_ _ => n - (intOf i_).toNat)
  case atStart => exact ⟨0, by omega, rfl, fun a ha => by simp at ha, Below.refl _ _⟩
  case round =>
    obtain ⟨k, hk, rfl, hall, hbr⟩ := hrel
    by_cases hlt : k < n
    · have hlt' : (k : Int) < (n : Int) := by omega
      obtain ⟨a, ha⟩ : ∃ a, l[k]? = some a := ⟨_, List.getElem?_eq_getElem (by rw [HN.out]; exact hlt)⟩
      obtain ⟨b1, o1, e1, hb1, hc1, hok1⟩ := ((HRB.out.bS hbr).below (w' := wr.drew) (below_drewN (Below.refl _ _) 1)).get ha
      subst e1
      have bkd := (HBK.out.below hbr HBK.out.lt).drew
      have la := loadK_be hc1
      have lb := loadK_beB bkd
      have hcmp := rCompare (c1 := a.c1) (c3 := e.c1) (A2 := a.A2) (n2 := a.x.val.length) (c2 := a.c2) (A4 := e.A2) (n4 := e.x.val.length) (c4 := e.c2) (sa := a.x.seq) (sb := e.x.seq) (kinda := a.x.kind) (kindb := e.x.kind) wr.drew hok1.k ((HOK.out.below hbr).more hbr.size).k hok1.km HOK.out.km rfl rfl (Nat.le_refl _)
      obtain ⟨r, hr⟩ : ∃ r, entCmp a.x.key a.x.seq e.x.key e.x.seq = r := ⟨_, rfl⟩
      rw [hr] at hcmp
      have hlt1 : enLt a.x e.x = decide (r < 0) := by rw [← hr]; rfl
      have HLT := Lib.hid hlt1
      have HA := Lib.hid ha
      have HC := Lib.hid hcmp
      have HALL := Lib.hid hall
      have CLA : Hid (∀ W, Below wr.drew.heap.size wr.drew W → (loadK 29 ⟨b1, o1 + k * 4, none⟩).run Try.prog W = .ok (beV a) W ∧ (loadK 29 ⟨g, 0, none⟩).run Try.prog W = .ok (beV e) W) := Lib.hid fun W h =>
        ⟨loadK_be fun j hj => (h.cell hb1).trans (hc1 j hj), loadK_beB (bkd.below h bkd.lt)⟩
      clear hr hcmp hlt1 hc1 hok1 ha hall bkd
      by_cases hr0 : r < 0
      · have hd : decide (r < 0) = true := by simp [hr0]
        go_wp2_with fail
        go_region_held3 (fun w' => (loadK 29 ⟨b1, o1 + k * 4, none⟩).run Try.prog w' = .ok (beV a) w' ∧ (loadK 29 ⟨g, 0, none⟩).run Try.prog w' = .ok (beV e) w') (go_keep)
          (first
            | (go_at_call 21
               refine HC.out.mono ?_
               rintro en w3 ⟨rfl, hb3⟩
               obtain ⟨s1, s2⟩ := CLA.out w3 hb3)
            | fail)
        go_wp2_with fail
        exact ⟨⟨k + 1, by omega, by go_num, fun b hb => by
          rw [take_snoc HA.out] at hb
          rcases List.mem_append.1 hb with hb | hb
          · exact HALL.out b hb
          · rw [List.mem_singleton.1 hb, HLT.out, hd], hbr.drew.trans (hb3.mono hbr.drew.size)⟩, by simp only [intOf]; omega⟩
      · have hd : decide (r < 0) = false := by simp; omega
        go_wp2_with fail
        go_region_held3 (fun w' => (loadK 29 ⟨b1, o1 + k * 4, none⟩).run Try.prog w' = .ok (beV a) w' ∧ (loadK 29 ⟨g, 0, none⟩).run Try.prog w' = .ok (beV e) w') (go_keep)
          (first
            | (go_at_call 21
               refine HC.out.mono ?_
               rintro en w3 ⟨rfl, hb3⟩
               obtain ⟨s1, s2⟩ := CLA.out w3 hb3)
            | fail)
        have hpe : putE e l = l.take k ++ e :: l.drop k := putE_at (by rw [HN.out]; omega) HALL.out (fun b hb => by
          rw [HA.out] at hb
          cases hb
          rw [HLT.out, hd])
        have HPE := Lib.hid hpe
        have HBW := Lib.hid (hbr.drew.trans (hb3.mono hbr.drew.size))
        clear hpe hbr hb3 s1 s2
        obtain ⟨WX, hWX⟩ : ∃ WX, WX = w3 := ⟨_, rfl⟩
        subst hWX
        obtain ⟨AX, hAX⟩ : ∃ AX, AX = some (⟨b1, o1, none⟩ : Addr) := ⟨_, rfl⟩
        rw [← hAX] at HRB ⊢
        clear hAX la lb CLA HC
        go_wp2_with fail
        have hbd := below_drewN (Below.refl WX.heap.size WX) 1
        have hrd := (HRB.out.bS HBW.out).bS hbd
        obtain ⟨w4, hw4⟩ : ∃ w4, WX.drew = w4 := ⟨_, rfl⟩
        have bk4 := (HBK.out.below HBW.out HBK.out.lt).drew
        rw [show WX.drewN 1 = w4 from hw4] at hbd hrd
        rw [hw4] at bk4
        have hok4 := (((HOK.out.below HBW.out).more HBW.out.size).below hbd).more hbd.size
        have HBD := Lib.hid hbd
        have HBD2 := Lib.hid (HBW.out.trans (hbd.mono HBW.out.size))
        have HRD := Lib.hid hrd
        have HOK4 := Lib.hid hok4
        have HBK4 := Lib.hid bk4
        have HW4 := Lib.hid hw4
        have hld : (loadK 29 ⟨g, 0, none⟩).run Try.prog WX.drew = .ok (beV e) WX.drew := by rw [hw4]; exact loadK_beB bk4
        have LK : Hid (∀ W, Below w4.heap.size w4 W → (loadK 29 ⟨g, 0, none⟩).run Try.prog W = .ok (beV e) W) := Lib.hid fun W h => loadK_beB (bk4.below h bk4.lt)
        have sl1 : ∀ W, (Instr.slice 22 (.slice AX n c) none (some (.int .i64 (k : Nat))) none).run Try.prog W = .ok (.slice AX k c) W := fun W => run_slH W AX n c .i64 k (by omega) (by omega)
        have sl2 : ∀ W, (Instr.slice 22 (.slice AX n c) (some (.int .i64 (k : Nat))) none none).run Try.prog W = .ok (.slice (cutE AX c k) (n - k) (c - k)) W := fun W => run_slE W AX n c .i64 k (by omega) (by omega)
        have BA : Hid (∀ o, Below w4.heap.size w4 (w4.alloc o)) := Lib.hid fun o => (Below.refl _ _).alloc (Nat.le_refl _) o
        have BAA : Hid (∀ o o', Below w4.heap.size w4 ((w4.alloc o).alloc o')) := Lib.hid fun o o' => ((Below.refl _ _).alloc (Nat.le_refl _) o).alloc (by simp) o'
        clear hbd hrd hok4 bk4
        have RT : Hid (∀ W, Below w4.heap.size w4 W → Rd W w4.heap.size AX (flatR beC (l.take k))) := Lib.hid fun W h => (Rd.below HRD.out.rd h).takeE k
        have RDR : Hid (∀ W, Below w4.heap.size w4 W → Rd W w4.heap.size (cutE AX c k) (flatR beC (l.drop k))) := Lib.hid fun W h => (Rd.below HRD.out.rd h).dropE k (by rw [HN.out]; exact hk) (by rw [HN.out]; exact hc)
        have O1 : Hid ((w4.alloc (.cells #[] 29)).ownsRow w4.heap.size 29 4 (.slice (some ⟨w4.heap.size, 0, none⟩) 0 0) 0 []) := Lib.hid (World.ownsRow_lit w4 #[] 0 (Nat.le_refl _) (by simp [maxLen]) rfl)
        have O2 : Hid (∀ o, ((w4.alloc (.cells #[] 29)).alloc o).ownsRow w4.heap.size 29 4 (.slice (some ⟨w4.heap.size, 0, none⟩) 0 0) 0 []) := Lib.hid fun o => O1.out.alloc o
        have O3 : Hid (∀ o, ((w4.alloc o).alloc (.cells #[] 29)).ownsRow w4.heap.size 29 4 (.slice (some ⟨w4.heap.size + 1, 0, none⟩) 0 0) 0 []) := Lib.hid fun o => by
          have h := World.ownsRow_lit (base := w4.heap.size) (e := 29) (size := 4) (w4.alloc o) #[] 0 (by simp) (by simp [maxLen]) rfl
          simpa using h
        have LT : Hid ((l.take k).length = k) := Lib.hid (by rw [List.length_take, HN.out]; omega)
        have LD : Hid ((l.drop k).length = n - k) := Lib.hid (by rw [List.length_drop, HN.out])
        have FE : Hid (flatR beC [e] = beC e) := Lib.hid (by simp [flatR])
        have L2 : Hid (∀ (A3 : Option Addr) (n3 c3 : Nat) (xs3 : List Value) (w6 : World), App w4.heap.size 29 4 ((w4.alloc (.cells #[] 29)).alloc (.cells (beA e) 29)) (.slice (some ⟨w4.heap.size, 0, none⟩) 0 0) w6 (.slice A3 n3 c3) n3 xs3 → Rd w6 w6.heap.size (some ⟨w4.heap.size + 1, 0, none⟩) (flatR beC [e])) := Lib.hid fun A3 n3 c3 xs3 w6 h => by
          rw [FE.out]
          have h1 : Rd ((w4.alloc (.cells #[] 29)).alloc (.cells (beA e) 29)) (w4.heap.size + 2) (some ⟨w4.heap.size + 1, 0, none⟩) (beC e) := by
            have h2 := Rd.lit (w4.alloc (.cells #[] 29)) (beA e) 29
            simpa [beA, beC] using h2
          exact Rd.besideR (h1.more (by simp)) h.grown (fun a ha e => by cases ha; simp [Value.ownBlock] at e)
        have L3 : Hid (∀ (A3 : Option Addr) (n3 c3 : Nat) (xs3 : List Value) (w6 : World), App w4.heap.size 29 4 ((w4.alloc (.cells (beA e) 29)).alloc (.cells #[] 29)) (.slice (some ⟨w4.heap.size + 1, 0, none⟩) 0 0) w6 (.slice A3 n3 c3) n3 xs3 → Rd w6 w6.heap.size (some ⟨w4.heap.size, 0, none⟩) (flatR beC [e])) := Lib.hid fun A3 n3 c3 xs3 w6 h => by
          rw [FE.out]
          have h1 : Rd ((w4.alloc (.cells (beA e) 29)).alloc (.cells #[] 29)) (w4.heap.size + 1) (some ⟨w4.heap.size, 0, none⟩) (beC e) := (Rd.lit w4 (beA e) 29).alloc (by simp) _
          exact Rd.besideR (h1.more (by simp)) h.grown (fun a ha e => by cases ha; simp [Value.ownBlock] at e)
        have L1 : Hid (∀ w6 : World, Rd (w6.alloc (.cells (beA e) 29)) (w6.heap.size + 1) (some ⟨w6.heap.size, 0, none⟩) (flatR beC [e])) := Lib.hid fun w6 => by
          rw [FE.out]
          exact Rd.lit w6 (beA e) 29
        go_region_held3 (fun w' => (loadK 29 ⟨g, 0, none⟩).run Try.prog w' = .ok (beV e) w')
          (first | exact hld | exact LK.out _ (BA.out _) | exact LK.out _ (BAA.out _ _) | exact LK.out _ hb6 | exact LK.out _ (hb6.alloc hb6.size _) | exact LK.out _ hb7 | exact LK.out _ hb8)
          (first
            | (refine step_appE (w1 := w4) (by rfl) (.tmp 21) (.tmp 24) (by rfl) _ 0 [] (by rfl) (by first | exact O1.out | exact O2.out _ | exact O3.out _) (by first | exact BA.out _ | exact BAA.out _ _) w4.heap.size AX k c (l.take k) (by rfl) LT.out (RT.out _ (by first | exact BA.out _ | exact BAA.out _ _)) (by omega) k (flatR beC (l.take k)) (by omega) rfl ?_
               intro A6 c6 w6 happ6 hb6)
            | (refine step_appE (w1 := w4) (by rfl) (.tmp 25) (.tmp 27) (by rfl) (.slice A6 k c6) k (flatR beC (l.take k)) (by rfl) (by first | exact happ6.own | exact happ6.own.alloc _) (by first | exact hb6 | exact hb6.alloc hb6.size _) _ _ 1 1 [e] (by rfl) rfl (by first | exact L1.out w6 | exact L2.out _ _ _ _ _ happ6 | exact L3.out _ _ _ _ _ happ6) (by omega) (k + 1) (flatR beC (l.take k ++ [e])) (by omega) (flatE_append _ _).symm ?_
               intro A7 c7 w7 happ7 hb7)
            | (refine step_appE (w1 := w4) (by rfl) (.tmp 28) (.tmp 31) (by rfl) (.slice A7 (k + 1) c7) (k + 1) (flatR beC (l.take k ++ [e])) (by rfl) happ7.own hb7 w4.heap.size (cutE AX c k) (n - k) (c - k) (l.drop k) (by rfl) LD.out (RDR.out _ hb7) (by omega) (n + 1) (flatR beC (l.take k ++ [e] ++ l.drop k)) (by omega) (flatE_append _ _).symm ?_
               intro A8 c8 w8 happ8 hb8)
            | fail)
        all_goals go_wp2_with fail
        all_goals go_ret
        all_goals
          have hcap : n + 1 ≤ c8 := by
            rcases happ8.own.2 with ⟨h1, h2⟩ | ⟨g, cap, cur, h1, _, _, h2, _⟩
            · cases h1
            · cases h1; exact h2
          have hLe : L = l.take k ++ [e] ++ l.drop k := by rw [← HL.out, HPE.out]; simp
          have hLl : L.length = n + 1 := by rw [hLe, List.length_append, List.length_append, LT.out, LD.out, List.length_singleton]; omega
          have hb4 : Below w.heap.size w w4 := HAL.out.trans (HBD2.out.mono HAL.out.size)
          refine ⟨A8, c8, by rw [hLl]; rfl, ⟨by rw [hLe]; exact Rd.of_own happ8.own, fun x hx => ?_⟩, hb4.trans (hb8.mono hb4.size), by rw [hLl]; exact hcap⟩
          have hx4 : BeOk w4 w4.heap.size x := by
            rw [← HL.out, HPE.out] at hx
            rcases putE_mem x hx with rfl | hx
            · exact HOK4.out
            · exact HRD.out.ok x hx
          exact (hx4.below hb8).more hb8.size
    · have hkn : k = n := by omega
      have hlt' : decide ((k : Int) < (n : Int)) = false := by simp; omega
      have hpe : putE e l = l.take k ++ e :: l.drop k := putE_at (by rw [HN.out]; omega) hall (fun b hb => by
        rw [List.getElem?_eq_none (by rw [HN.out]; omega)] at hb
        cases hb)
      have HPE := Lib.hid hpe
      clear hpe hall hkn
      go_wp2_with fail
      go_quiet (fail)
      have HBW := Lib.hid (hbr.trans (below_drewN (Below.refl _ wr) nq))
      obtain ⟨WX, hWX⟩ : ∃ WX, WX = wr.drewN nq := ⟨_, rfl⟩
      rw [← hWX] at HBW ⊢
      clear hWX hbr
      obtain ⟨AX, hAX⟩ : ∃ AX, AX = A := ⟨_, rfl⟩
      subst hAX
      go_wp2_with fail
      have hbd := below_drewN (Below.refl WX.heap.size WX) 1
      have hrd := (HRB.out.bS HBW.out).bS hbd
      obtain ⟨w4, hw4⟩ : ∃ w4, WX.drew = w4 := ⟨_, rfl⟩
      have bk4 := (HBK.out.below HBW.out HBK.out.lt).drew
      rw [show WX.drewN 1 = w4 from hw4] at hbd hrd
      rw [hw4] at bk4
      have hok4 := (((HOK.out.below HBW.out).more HBW.out.size).below hbd).more hbd.size
      have HBD := Lib.hid hbd
      have HBD2 := Lib.hid (HBW.out.trans (hbd.mono HBW.out.size))
      have HRD := Lib.hid hrd
      have HOK4 := Lib.hid hok4
      have HBK4 := Lib.hid bk4
      have HW4 := Lib.hid hw4
      have hld : (loadK 29 ⟨g, 0, none⟩).run Try.prog WX.drew = .ok (beV e) WX.drew := by rw [hw4]; exact loadK_beB bk4
      have LK : Hid (∀ W, Below w4.heap.size w4 W → (loadK 29 ⟨g, 0, none⟩).run Try.prog W = .ok (beV e) W) := Lib.hid fun W h => loadK_beB (bk4.below h bk4.lt)
      have sl1 : ∀ W, (Instr.slice 22 (.slice AX n c) none (some (.int .i64 (k : Nat))) none).run Try.prog W = .ok (.slice AX k c) W := fun W => run_slH W AX n c .i64 k (by omega) (by omega)
      have sl2 : ∀ W, (Instr.slice 22 (.slice AX n c) (some (.int .i64 (k : Nat))) none none).run Try.prog W = .ok (.slice (cutE AX c k) (n - k) (c - k)) W := fun W => run_slE W AX n c .i64 k (by omega) (by omega)
      have BA : Hid (∀ o, Below w4.heap.size w4 (w4.alloc o)) := Lib.hid fun o => (Below.refl _ _).alloc (Nat.le_refl _) o
      have BAA : Hid (∀ o o', Below w4.heap.size w4 ((w4.alloc o).alloc o')) := Lib.hid fun o o' => ((Below.refl _ _).alloc (Nat.le_refl _) o).alloc (by simp) o'
      clear hbd hrd hok4 bk4
      have RT : Hid (∀ W, Below w4.heap.size w4 W → Rd W w4.heap.size AX (flatR beC (l.take k))) := Lib.hid fun W h => (Rd.below HRD.out.rd h).takeE k
      have RDR : Hid (∀ W, Below w4.heap.size w4 W → Rd W w4.heap.size (cutE AX c k) (flatR beC (l.drop k))) := Lib.hid fun W h => (Rd.below HRD.out.rd h).dropE k (by rw [HN.out]; exact hk) (by rw [HN.out]; exact hc)
      have O1 : Hid ((w4.alloc (.cells #[] 29)).ownsRow w4.heap.size 29 4 (.slice (some ⟨w4.heap.size, 0, none⟩) 0 0) 0 []) := Lib.hid (World.ownsRow_lit w4 #[] 0 (Nat.le_refl _) (by simp [maxLen]) rfl)
      have O2 : Hid (∀ o, ((w4.alloc (.cells #[] 29)).alloc o).ownsRow w4.heap.size 29 4 (.slice (some ⟨w4.heap.size, 0, none⟩) 0 0) 0 []) := Lib.hid fun o => O1.out.alloc o
      have O3 : Hid (∀ o, ((w4.alloc o).alloc (.cells #[] 29)).ownsRow w4.heap.size 29 4 (.slice (some ⟨w4.heap.size + 1, 0, none⟩) 0 0) 0 []) := Lib.hid fun o => by
        have h := World.ownsRow_lit (base := w4.heap.size) (e := 29) (size := 4) (w4.alloc o) #[] 0 (by simp) (by simp [maxLen]) rfl
        simpa using h
      have LT : Hid ((l.take k).length = k) := Lib.hid (by rw [List.length_take, HN.out]; omega)
      have LD : Hid ((l.drop k).length = n - k) := Lib.hid (by rw [List.length_drop, HN.out])
      have FE : Hid (flatR beC [e] = beC e) := Lib.hid (by simp [flatR])
      have L2 : Hid (∀ (A3 : Option Addr) (n3 c3 : Nat) (xs3 : List Value) (w6 : World), App w4.heap.size 29 4 ((w4.alloc (.cells #[] 29)).alloc (.cells (beA e) 29)) (.slice (some ⟨w4.heap.size, 0, none⟩) 0 0) w6 (.slice A3 n3 c3) n3 xs3 → Rd w6 w6.heap.size (some ⟨w4.heap.size + 1, 0, none⟩) (flatR beC [e])) := Lib.hid fun A3 n3 c3 xs3 w6 h => by
        rw [FE.out]
        have h1 : Rd ((w4.alloc (.cells #[] 29)).alloc (.cells (beA e) 29)) (w4.heap.size + 2) (some ⟨w4.heap.size + 1, 0, none⟩) (beC e) := by
          have h2 := Rd.lit (w4.alloc (.cells #[] 29)) (beA e) 29
          simpa [beA, beC] using h2
        exact Rd.besideR (h1.more (by simp)) h.grown (fun a ha e => by cases ha; simp [Value.ownBlock] at e)
      have L3 : Hid (∀ (A3 : Option Addr) (n3 c3 : Nat) (xs3 : List Value) (w6 : World), App w4.heap.size 29 4 ((w4.alloc (.cells (beA e) 29)).alloc (.cells #[] 29)) (.slice (some ⟨w4.heap.size + 1, 0, none⟩) 0 0) w6 (.slice A3 n3 c3) n3 xs3 → Rd w6 w6.heap.size (some ⟨w4.heap.size, 0, none⟩) (flatR beC [e])) := Lib.hid fun A3 n3 c3 xs3 w6 h => by
        rw [FE.out]
        have h1 : Rd ((w4.alloc (.cells (beA e) 29)).alloc (.cells #[] 29)) (w4.heap.size + 1) (some ⟨w4.heap.size, 0, none⟩) (beC e) := (Rd.lit w4 (beA e) 29).alloc (by simp) _
        exact Rd.besideR (h1.more (by simp)) h.grown (fun a ha e => by cases ha; simp [Value.ownBlock] at e)
      have L1 : Hid (∀ w6 : World, Rd (w6.alloc (.cells (beA e) 29)) (w6.heap.size + 1) (some ⟨w6.heap.size, 0, none⟩) (flatR beC [e])) := Lib.hid fun w6 => by
        rw [FE.out]
        exact Rd.lit w6 (beA e) 29
      go_region_held3 (fun w' => (loadK 29 ⟨g, 0, none⟩).run Try.prog w' = .ok (beV e) w')
        (first | exact hld | exact LK.out _ (BA.out _) | exact LK.out _ (BAA.out _ _) | exact LK.out _ hb6 | exact LK.out _ (hb6.alloc hb6.size _) | exact LK.out _ hb7 | exact LK.out _ hb8)
        (first
          | (refine step_appE (w1 := w4) (by rfl) (.tmp 21) (.tmp 24) (by rfl) _ 0 [] (by rfl) (by first | exact O1.out | exact O2.out _ | exact O3.out _) (by first | exact BA.out _ | exact BAA.out _ _) w4.heap.size AX k c (l.take k) (by rfl) LT.out (RT.out _ (by first | exact BA.out _ | exact BAA.out _ _)) (by omega) k (flatR beC (l.take k)) (by omega) rfl ?_
             intro A6 c6 w6 happ6 hb6)
          | (refine step_appE (w1 := w4) (by rfl) (.tmp 25) (.tmp 27) (by rfl) (.slice A6 k c6) k (flatR beC (l.take k)) (by rfl) (by first | exact happ6.own | exact happ6.own.alloc _) (by first | exact hb6 | exact hb6.alloc hb6.size _) _ _ 1 1 [e] (by rfl) rfl (by first | exact L1.out w6 | exact L2.out _ _ _ _ _ happ6 | exact L3.out _ _ _ _ _ happ6) (by omega) (k + 1) (flatR beC (l.take k ++ [e])) (by omega) (flatE_append _ _).symm ?_
             intro A7 c7 w7 happ7 hb7)
          | (refine step_appE (w1 := w4) (by rfl) (.tmp 28) (.tmp 31) (by rfl) (.slice A7 (k + 1) c7) (k + 1) (flatR beC (l.take k ++ [e])) (by rfl) happ7.own hb7 w4.heap.size (cutE AX c k) (n - k) (c - k) (l.drop k) (by rfl) LD.out (RDR.out _ hb7) (by omega) (n + 1) (flatR beC (l.take k ++ [e] ++ l.drop k)) (by omega) (flatE_append _ _).symm ?_
             intro A8 c8 w8 happ8 hb8)
          | fail)
      all_goals go_wp2_with fail
      all_goals go_ret
      all_goals
        have hcap : n + 1 ≤ c8 := by
          rcases happ8.own.2 with ⟨h1, h2⟩ | ⟨g, cap, cur, h1, _, _, h2, _⟩
          · cases h1
          · cases h1; exact h2
        have hLe : L = l.take k ++ [e] ++ l.drop k := by rw [← HL.out, HPE.out]; simp
        have hLl : L.length = n + 1 := by rw [hLe, List.length_append, List.length_append, LT.out, LD.out, List.length_singleton]; omega
        have hb4 : Below w.heap.size w w4 := HAL.out.trans (HBD2.out.mono HAL.out.size)
        refine ⟨A8, c8, by rw [hLl]; rfl, ⟨by rw [hLe]; exact Rd.of_own happ8.own, fun x hx => ?_⟩, hb4.trans (hb8.mono hb4.size), by rw [hLl]; exact hcap⟩
        have hx4 : BeOk w4 w4.heap.size x := by
          rw [← HL.out, HPE.out] at hx
          rcases putE_mem x hx with rfl | hx
          · exact HOK4.out
          · exact HRD.out.ok x hx
        exact (hx4.below hb8).more hb8.size
end Go.Proofs.Ytleghbdkjdpilaa
