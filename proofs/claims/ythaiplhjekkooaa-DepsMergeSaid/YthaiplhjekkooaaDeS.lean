/- deps: Between. -/
import Derived.Test.YthaiplhjekkooaaDeR
namespace Go.Proofs.Ythaiplhjekkooaa
open Go.RowKit Go.MapKept
theorem loadEd_shutS (a : Addr) : loadVar 47 a = loadK 47 a := rfl
attribute [local go_sem ↓] loadEd_shutS

/-- An edge over some buckets. -/
def betE (p q : Nat) (x : Ed) : Option Ed := if p ≤ x.b ∧ x.b ≤ q then some ⟨0, x.f, x.t, x.n⟩ else none
/-- What Between answers. -/
def betOut (l : List Ed) (p q : Nat) : List Ed × Nat := if edChk l ≠ 0 then ([], 2) else addOut (l.filterMap (betE p q))
set_option maxRecDepth 100000 in
set_option maxHeartbeats 8000000 in
theorem deBetween {A : Option Addr} {n c B : Nat} (l : List Ed) (p q : Nat) (w : World) (h : RbD w B A l) (hn : l.length = n) (hB : B ≤ w.heap.size) (hs : n ≤ 10000) :
    Calls Try.prog 21 #[.slice A n c, .int .u64 p, .int .u64 q] w (EdsPost w (betOut l p q)) := by
  have cc := deCheck (c := c) l w h hn hB (by omega)
  obtain ⟨r, hr⟩ : ∃ r, betOut l p q = r := ⟨_, rfl⟩
  rw [hr]
  rw [betOut] at hr
  have h2 := edChk_two l
  obtain ⟨ck, hck⟩ : ∃ ck, edChk l = ck := ⟨_, rfl⟩
  rw [hck] at cc hr h2
  have HR := Lib.hid hr
  have HN := Lib.hid hn
  have HH := Lib.hid h
  clear hr hn h hck
  have hmm := @run_makeMap Try.prog
  go_enter Try.func21, Try.ntmps21
  go_wp2_with fail
  refine cc.mono ?_
  rintro en w5 ⟨rfl, hb5⟩
  by_cases h0 : ck = 0
  · subst h0
    have HRO := Lib.hid (show addOut (l.filterMap (betE p q)) = r by rw [← HR.out, if_neg (by simp)])
    have m0 := Mg.new (kv := ekV) (vv := uvV) w5
    have hb0 := hb5.alloc hb5.size (.map #[] 0)
    obtain ⟨b, hb⟩ : ∃ b, w5.heap.size = b := ⟨_, rfl⟩
    have hwb : w.heap.size ≤ b := by rw [← hb]; exact hb5.size
    obtain ⟨w1, hw1⟩ : ∃ w1, w5.alloc (.map #[] 0) = w1 := ⟨_, rfl⟩
    rw [hw1] at m0 hb0
    rw [hb] at m0
    have HW1 := Lib.hid hw1
    have HBN := Lib.hid hb
    have HM0 := Lib.hid m0
    have HB0 := Lib.hid hb0
    clear hw1 hb m0 hb0 HR h2 cc hb5
    go_wp2_with fail
    rw [HW1.out, HBN.out]
    go_loopw [22] (fun i_ wr => ∃ i : Nat, i ≤ n ∧ i_ = .int .i64 i ∧ Hid (Mg ekV uvV wr b (mgAll ((l.take i).filterMap (betE p q)) [])) ∧ Hid (Below w.heap.size w wr)) (fun i_ _ => n - (intOf i_).toNat)
    case atStart => exact ⟨0, by omega, rfl, HM0, HB0⟩
    case round =>
      obtain ⟨i, hi, rfl, HM, HB⟩ := hrel
      by_cases hij : i < n
      · have hij' : (i : Int) < (n : Int) := by omega
        obtain ⟨x, hx⟩ : ∃ x, l[i]? = some x := ⟨_, List.getElem?_eq_getElem (by rw [HN.out]; exact hij)⟩
        obtain ⟨ob, oo, eA, hbb, hcl⟩ := RbD.at (Rd.below HH.out (HB.out.mono hB)) hx
        subst eA
        have hld := loadK_ed hcl
        have HB6 := Lib.hid (HB.out.alloc HB.out.size (.cells (edA x) 47))
        have HM6 := Lib.hid (HM.out.alloc (.cells (edA x) 47))
        have hst : ∀ o, betE p q x = o → mgAll ((l.take (i + 1)).filterMap (betE p q)) [] = match o with | some e => addK (edK e) e.n (mgAll ((l.take i).filterMap (betE p q)) []) | none => mgAll ((l.take i).filterMap (betE p q)) [] := fun o ho => by
          rw [take_snoc hx, List.filterMap_append]
          cases o with
          | none => rw [show [x].filterMap (betE p q) = [] by simp [ho], List.append_nil]
          | some e => rw [show [x].filterMap (betE p q) = [e] by simp [ho], mgAll_snoc]
        have HST := Lib.hid hst
        clear hx hcl hst HB HM
        by_cases h1 : p ≤ x.b
        · have h1' : (p : Int) ≤ (x.b : Int) := by omega
          by_cases h2 : x.b ≤ q
          · have h2' : (x.b : Int) ≤ (q : Int) := by omega
            have HS2 := Lib.hid (HST.out (some ⟨0, x.f, x.t, x.n⟩) (by rw [betE, if_pos ⟨h1, h2⟩]))
            go_wp2_with fail
            refine (deAdd ⟨0, x.f, x.t⟩ x.n _ HM6.out).mono ?_
            rintro en w9 ⟨rfl, hE9, hg9, hs9⟩
            go_wp2_with fail
            exact ⟨⟨i + 1, by omega, by go_num, Lib.hid (by rw [HS2.out]; exact hE9), Lib.hid (HB6.out.trans (below_grownJ hg9 HB6.out.size (fun k hk => by have := Option.some.inj hk; omega)))⟩, by simp only [intOf]; omega⟩
          · have h2' : decide ((x.b : Int) ≤ (q : Int)) = false := by simp; omega
            have HS2 := Lib.hid (HST.out none (by rw [betE, if_neg (fun h => h2 h.2)]))
            go_wp2_with fail
            exact ⟨⟨i + 1, by omega, by go_num, Lib.hid (by rw [HS2.out]; exact HM6.out), HB6⟩, by simp only [intOf]; omega⟩
        · have h1' : decide ((p : Int) ≤ (x.b : Int)) = false := by simp; omega
          have HS2 := Lib.hid (HST.out none (by rw [betE, if_neg (fun h => h1 h.1)]))
          go_wp2_with fail
          exact ⟨⟨i + 1, by omega, by go_num, Lib.hid (by rw [HS2.out]; exact HM6.out), HB6⟩, by simp only [intOf]; omega⟩
      · have hij' : decide ((i : Int) < (n : Int)) = false := by simp; omega
        obtain rfl : i = n := by omega
        have hm := HM.out
        rw [List.take_of_length_le (by rw [HN.out]; exact Nat.le_refl _)] at hm
        have hfl : (l.filterMap (betE p q)).length ≤ 10000 := Nat.le_trans (List.length_filterMap_le _ _) (by rw [HN.out]; omega)
        obtain ⟨xs, hxs⟩ : ∃ xs, l.filterMap (betE p q) = xs := ⟨_, rfl⟩
        rw [hxs] at HRO hm hfl
        have hll := mgAll_len xs []
        simp at hll
        have hli := deList wr hm (by omega)
        clear hm hll hfl hxs hij hij' HM
        go_wp2_with fail
        refine hli.mono ?_
        rintro en w8 (⟨hbad, rfl, hb8⟩ | ⟨hok, A8, c8, n8, out, hperm, hsort, hlen8, rfl, hown, hb8⟩)
        · have hre : r = ([], 3) := by rw [← HRO.out]; exact addOut_bad hbad
          subst hre
          go_wp2_with fail
          go_ret2
          exact EdsPost.no (HB.out.trans (hb8.mono HB.out.size))
        · have hre : r = (out, 0) := by rw [← HRO.out]; exact addOut_ok hok hperm hsort
          subst hre
          go_wp2_with fail
          go_ret2
          subst hlen8
          exact ⟨A8, c8, rfl, own_baseJ hown HB.out.size, HB.out.trans (hb8.mono HB.out.size)⟩
  · have h0' : ((ck : Int) != 0) = true := by simp; omega
    have hre : r = ([], ck) := by
      rcases h2 with h | h
      · exact absurd h h0
      · rw [← HR.out, if_pos h0, h]
    subst hre
    go_wp2_with fail
    go_ret2
    exact EdsPost.no hb5
end Go.Proofs.Ythaiplhjekkooaa
