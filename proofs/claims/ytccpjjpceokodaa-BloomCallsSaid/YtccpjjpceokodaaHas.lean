/- Has: whether a key may be there. -/
import Derived.Test.YtccpjjpceokodaaMake
namespace Go.Proofs.Ytccpjjpceokodaa
open Go.RowKit Go.Shelf
attribute [local go_sem] Oper.semAt_some

set_option maxHeartbeats 2000000 in
theorem bloomHas {A A1 : Option Addr} {c c1 n n1 B B1 : Nat} {fs zs : List Int} (w : World) (hf : Rb w B A fs) (hfb : Byt fs) (hz : Rb w B1 A1 zs) (hzb : Byt zs) (hfl : fs.length ≤ 140737488355328) (hzl : zs.length ≤ maxLen) (hn : fs.length = n) (hn1 : zs.length = n1) (hB : B ≤ w.heap.size) (hB1 : B1 ≤ w.heap.size) :
    Calls Try.prog 9 #[.slice A n c, .slice A1 n1 c1] w fun e w' => e = .returned (.bool (hasOf fs zs)) ∧ Below w.heap.size w w' := by
  obtain ⟨r, hr⟩ : ∃ r, hasOf fs zs = r := ⟨_, rfl⟩
  rw [hr]
  have hs := hashOf_rng zs
  rw [hn] at hfl
  refine (callsIn_wide (n := 4)).1 ?_
  refine callsIn_of_wp_marks Try.func9 rfl trivial ?_ rfl
  simp only [Try.ntmps9, List.size_toArray, List.length_cons, List.length_nil, Nat.reduceAdd, Nat.reduceSub, Array.replicate_succ, Array.replicate_zero, List.push_toArray, List.append_toArray, List.nil_append, List.cons_append]
  by_cases h2 : fs.length < 2 ∨ 1048577 < fs.length
  · rw [hasOf, if_pos h2] at hr
    subst hr
    rw [hn] at h2
    rcases h2 with h2 | h2
    · have d1 : ((n : Int) - 1) < 1 := by omega
      gi_wp2
      exact ⟨.bool true, by simp [results, Try.f9, go_sem], rfl, ((Below.refl _ w).alloc (Nat.le_refl _) _).alloc (by simp) _⟩
    · have h3 : ¬ (((n : Int) - 1) < 1) := by omega
      gi_wp2
      exact ⟨.bool true, by simp [results, Try.f9, go_sem], rfl, ((Below.refl _ w).alloc (Nat.le_refl _) _).alloc (by simp) _⟩
  · obtain ⟨h2a, h2b⟩ := not_or.1 h2
    obtain ⟨b, o, k, hk, rfl, hb, hc⟩ := hf.get (k := fs.length - 1) (by omega)
    have hkb := hfb.get hk
    rw [hasOf, if_neg h2, List.getD_eq_getElem?_getD, hk, hn] at hr
    simp only [Option.getD_some] at hr
    rw [hn] at hc h2a h2b
    have HR := Lib.hid hr
    clear hr h2
    have HN := Lib.hid hn
    clear hn
    have HK := Lib.hid hk
    clear hk
    obtain ⟨m, hm⟩ : ∃ m, n = m + 1 := ⟨n - 1, by omega⟩
    subst hm
    rw [show m + 1 - 1 = m from rfl] at hc
    have hm1 : 1 ≤ m := by omega
    have hm2 : m ≤ 1048576 := by omega
    have d1 : decide ((m : Int) < 1) = false := by simp; omega
    have d2 : decide ((1048576 : Int) < m) = false := by simp; omega
    obtain ⟨h, hh⟩ : ∃ h, hashOf zs = h := ⟨_, rfl⟩
    rw [hh] at hs HR
    have HS := Lib.hid hs.2
    have HH := Lib.hid hh
    have hs0 := hs.1
    clear hs hh
    obtain ⟨kn, rfl⟩ := Int.eq_ofNat_of_zero_le hkb.1
    have hc2 : ((w.alloc (.cells #[.slice (some ⟨b, o, none⟩) (m + 1) c] 25)).alloc (.cells #[.bool false] 4)).cell? ⟨b, o + m, none⟩ = some (.int .u8 kn) := ((World.cell?_alloc_lt _ _ _ (by simp; omega)).trans (World.cell?_alloc_lt _ _ _ (by simp; omega))).trans hc
    by_cases hk1 : (kn : Int) < 1
    · have hok : okp ((m : Int) * 8) kn = false := by
        rw [okp, show decide (1 ≤ (kn : Int)) = false from by simpa using hk1]; simp
      have hr := HR.out
      rw [if_pos (by simpa using hok)] at hr
      subst hr
      clear hok
      gi_wp2
      exact ⟨.bool true, by simp [results, Try.f9, go_sem], rfl, ((Below.refl _ w).alloc (Nat.le_refl _) _).alloc (by simp) _⟩
    by_cases hk2 : (30 : Int) < kn
    · have hok : okp ((m : Int) * 8) kn = false := by
        rw [okp, show decide ((kn : Int) ≤ 30) = false from by simpa using hk2]; simp
      have hr := HR.out
      rw [if_pos (by simpa using hok)] at hr
      subst hr
      clear hok
      gi_wp2
      exact ⟨.bool true, by simp [results, Try.f9, go_sem], rfl, ((Below.refl _ w).alloc (Nat.le_refl _) _).alloc (by simp) _⟩
    have hok : okp ((m : Int) * 8) kn = true := by
      simp only [okp, Bool.and_eq_true, decide_eq_true_eq]; omega
    have hr := HR.out
    rw [if_neg (by simpa using hok)] at hr
    have HR := Lib.hid hr
    clear hr hok
    have hz2 : Rb (((w.alloc (.cells #[.slice (some ⟨b, o, none⟩) (m + 1) c] 25)).alloc (.cells #[.bool false] 4))).drew B1 A1 zs := (hz.alloc hB1 _).alloc (by simp; omega) _
    have hh1 := bloomHash (A := A1) (c := c1) _ hz2 hzb hzl hn1
    rw [HH.out] at hh1
    have hlt1 : (m : Int) < (m : Int) + 1 := by omega
    have hw8 : IntKind.i64.wrap ((m : Int) * 8) = (m : Int) * 8 := wrap_i64_in (by omega) (by omega)
    gi_wp2
    refine wpIn_region_still_wide 9 (by kernel_rfl) (by kernel_rfl) (by kernel_rfl) ?_
    simp only [List.take_succ_cons, List.take_zero, List.drop_succ_cons, List.drop_zero]
    repeat first
      | still_step
      | still_call hh1
    refine wpStill_nil ?_
    change wpList _ _ _ _ _ (World.drew _)
    go_wp2_with (go_at_call 22; refine (callsIn_wide.1 (probes_in 3 _ _ _ _)).mono ?_; rintro e w' ⟨rfl, rfl⟩)
    gi_wp2
    have bF := ((((Boxed.new w 25 (.slice (some ⟨b, o, none⟩) (m + 1) c)).alloc (.cells #[.bool false] 4)).alloc (.cells #[.int .u64 h] 36)).alloc (.cells #[.int .i64 ((m : Int) * 8)] 3)).alloc (.cells #[.int .i64 kn] 3)
    have bR := (((Boxed.new (w.alloc (.cells #[.slice (some ⟨b, o, none⟩) (m + 1) c] 25)) 4 (.bool false)).alloc (.cells #[.int .u64 h] 36)).alloc (.cells #[.int .i64 ((m : Int) * 8)] 3)).alloc (.cells #[.int .i64 kn] 3)
    have bH := ((Boxed.new ((w.alloc (.cells #[.slice (some ⟨b, o, none⟩) (m + 1) c] 25)).alloc (.cells #[.bool false] 4)) 36 (.int .u64 h)).alloc (.cells #[.int .i64 ((m : Int) * 8)] 3)).alloc (.cells #[.int .i64 kn] 3)
    have bN := (Boxed.new (((w.alloc (.cells #[.slice (some ⟨b, o, none⟩) (m + 1) c] 25)).alloc (.cells #[.bool false] 4)).alloc (.cells #[.int .u64 h] 36)) 3 (.int .i64 ((m : Int) * 8))).alloc (.cells #[.int .i64 kn] 3)
    have bK := Boxed.new ((((w.alloc (.cells #[.slice (some ⟨b, o, none⟩) (m + 1) c] 25)).alloc (.cells #[.bool false] 4)).alloc (.cells #[.int .u64 h] 36)).alloc (.cells #[.int .i64 ((m : Int) * 8)] 3)) 3 (.int .i64 kn)
    simp only [World.size_alloc] at bR bH bN bK
    have hB0 : Below w.heap.size w (((((w.alloc (.cells #[.slice (some ⟨b, o, none⟩) (m + 1) c] 25)).alloc (.cells #[.bool false] 4)).alloc (.cells #[.int .u64 h] 36)).alloc (.cells #[.int .i64 ((m : Int) * 8)] 3)).alloc (.cells #[.int .i64 kn] 3)) :=
      (((((Below.refl _ w).alloc (Nat.le_refl _) _).alloc (by simp) _).alloc (by simp; omega) _).alloc (by simp; omega) _).alloc (by simp; omega) _
    obtain ⟨W0, hW0⟩ : ∃ W0, ((((w.alloc (.cells #[.slice (some ⟨b, o, none⟩) (m + 1) c] 25)).alloc (.cells #[.bool false] 4)).alloc (.cells #[.int .u64 h] 36)).alloc (.cells #[.int .i64 ((m : Int) * 8)] 3)).alloc (.cells #[.int .i64 kn] 3) = W0 := ⟨_, rfl⟩
    have hsz0 : W0.heap.size = w.heap.size + 5 := by rw [← hW0]; simp
    rw [hW0] at bF bR bH bN bK hB0
    rw [hW0]
    clear hW0
    refine wpIn_rangeFunc_ownG rfl (by omega) (gf := 24) (lb := #[.pointer (some ⟨w.heap.size + 1 + 1, 0, none⟩), .pointer (some ⟨w.heap.size + 1 + 1 + 2, 0, none⟩), .pointer (some ⟨w.heap.size + 1 + 1 + 1, 0, none⟩)]) rfl trivial (enters_of Try.func24 (by kernel_rfl) rfl)
      (probes_stopsB 3 (by omega) (w.heap.size + 1 + 1) (w.heap.size + 1 + 1 + 2) (w.heap.size + 1 + 1 + 1) h ((m : Int) * 8) kn hs0 HS.out (by omega) (by omega) (by omega) W0.drew bH.cell bK.cell bN.cell (by show _ < W0.heap.size; omega) (by show _ < W0.heap.size; omega) (by show _ < W0.heap.size; omega)) (fun a b => Eq.trans b a) (fun W l o o' hl ho _ _ => (grownBy_putObj' W l o').block _ (by have := (Array.getElem?_eq_some_iff.1 ho).1; have : W0.heap.size ≤ l := hl; omega) (by have : W0.heap.size ≤ l := hl; simp; omega)) (Below.refl _ _) (fun _ => rfl)
      (fun (pre : List (Pl ((m : Int) * 8))) W => Boxed W w.heap.size 25 (.slice (some ⟨b, o, none⟩) (m + 1) c) ∧ Boxed W (w.heap.size + 1) 4 (.bool false) ∧ Below w.heap.size w W ∧ hasAll fs (pre.map (·.1)) = true)
      (fun cd (pre : List (Pl ((m : Int) * 8))) W => cd = .ret ∧ Boxed W (w.heap.size + 1) 4 (.bool false) ∧ Below w.heap.size w W ∧ hasAll fs (pre.map (·.1)) = false)
      (OwnFrom.and (Own.from (boxed_own _ _ _) _) (OwnFrom.and (Own.from (boxed_own _ _ _) _) (OwnFrom.and (ownFrom_below (Nat.le_refl _) (by show _ ≤ W0.heap.size; omega)) (fun s W W' row hs hg hr => hs))))
      (fun cd => OwnFrom.and (fun s W W' row hs hg hr => hs) (OwnFrom.and (Own.from (boxed_own _ _ _) _) (OwnFrom.and (ownFrom_below (Nat.le_refl _) (by show _ ≤ W0.heap.size; omega)) (fun s W W' row hs hg hr => hs))))
      ⟨bF, bR, ⟨hB0.os, hB0.tape, hB0.output, hB0.size, hB0.block⟩, rfl⟩
      ?a1 ?assign ?body ?done ?stop
    case assign =>
      intro l x W K hK
      gi_wp2
      exact hK
    case body =>
      rintro l pre ⟨x, hx0, hx1⟩ W ⟨hv, hres, hB', hall⟩ hlt2
      have hcf := hv.cell
      have hcr := hres.cell
      have hfr := hres.frozen
      obtain ⟨b3, o3, y, hy, he3, hb3, hc3⟩ := Rb.get (zs := fs) (hf.below (hB'.mono hB)) (k := (x / 8).toNat) (by have := HN.out; omega)
      injection he3 with he3
      injection he3 with he3 he4
      subst he3 he4
      have hyb := hfb.get hy
      obtain ⟨z, hz'⟩ : ∃ z, y / 2 ^ (x % 8).toNat = z := ⟨_, rfl⟩
      have hzr : 0 ≤ z ∧ z ≤ 255 := by
        rw [← hz']
        refine ⟨Int.ediv_nonneg hyb.1 (Int.pow_nonneg (by decide)), ?_⟩
        have := Int.ediv_le_self (2 ^ (x % 8).toNat) hyb.1
        omega
      have hib : isb fs x = !(z % 2 == 0) := by rw [isb, List.getD_eq_getElem?_getD, hy, pw, ← hz']; rfl
      have hsn : hasAll fs ((pre ++ [(⟨x, hx0, hx1⟩ : Pl ((m : Int) * 8))]).map (·.1)) = !(z % 2 == 0) := by
        rw [hasAll] at hall ⊢
        rw [List.map_append, List.all_append, hall, ← hib]; simp
      have hand : bits .and .u8 z 1 = z % 2 := by
        obtain ⟨zn, rfl⟩ := Int.eq_ofNat_of_zero_le hzr.1
        rw [show (1 : Int) = ((1 : Nat) : Int) from rfl, u8_and_nat _ _ (by omega) (by omega), Nat.and_one_is_mod]
        rfl
      have HSN := Lib.hid hsn
      have HY := Lib.hid hy
      have HALL := Lib.hid hall
      clear hsn hib hy hall
      have hx8 : x / 8 < (m : Int) + 1 := by omega
      by_cases hzz : z % 2 = 0
      · gi_wp2
        have hb2 := hB'.setCell (p := ⟨w.heap.size + 1, 0, none⟩) (by simp) (.bool false)
        exact ⟨(KeepsOthers.setCell W _ _).from _, rfl, hres.set _, hb2, HSN.out.trans (by simp [hzz])⟩
      · gi_wp2
        exact ⟨(KeepsOthers.refl _).from _, rfl, hv, hres, hB', HSN.out.trans (by simp [hzz])⟩
    case done =>
      rintro D ys W hD hys ⟨hv, hres, hB', hall⟩ hK
      have hcr := hres.cell
      have hfr := hres.frozen
      have hD' : W0.heap.size ≤ D := hD
      have hrt : r = true := by
        rw [← HR.out, ← hall]
        have hys' : ys.map (·.1) = prb h ((m : Int) * 8) kn := hys
        rw [hys']
        rfl
      clear hall hys
      gi_wp2
      have hb2 := hB'.setCell (p := ⟨w.heap.size + 1, 0, none⟩) (by simp) (.bool true)
      have hK' := (KeepsOthers.setCell W ⟨w.heap.size + 1, 0, none⟩ (.bool true)).same D _ hK rfl
      refine ⟨by simp, .inl ⟨_, _, rfl, run_takeDeferred hK', ?_⟩⟩
      have hc5 := ((hres.set (.bool true)).kept (grownBy_putObj' _ D (.deferred none)) (by simp; omega)).cell
      refine ⟨.bool true, by simp [results, Try.f9, go_sem, hc5], by rw [hrt], hb2.trans (belowK_b (w := w) (Nat.le_refl _) _ D _ _ (by omega) hK' rfl rfl)⟩
    case stop =>
      rintro D cd pre W hD hpre ⟨rfl, hres, hB', hall⟩ hK
      have hD' : W0.heap.size ≤ D := hD
      have hrf : r = false := by
        rw [← HR.out]
        have hpre' : pre.map (·.1) <+: prb h ((m : Int) * 8) kn := hpre
        obtain ⟨t, ht⟩ := hpre'
        show hasAll fs (prb h ((m : Int) * 8) kn) = false
        rw [hasAll] at hall ⊢
        rw [← ht, List.all_append, hall]
        rfl
      clear hall hpre
      gi_wp2
      refine ⟨by simp, .inl ⟨_, _, rfl, run_takeDeferred hK, ?_⟩⟩
      have hc5 := (hres.kept (grownBy_putObj' _ D (.deferred none)) (by simp; omega)).cell
      refine ⟨.bool false, by simp [results, Try.f9, go_sem, hc5], by rw [hrf], hB'.trans (belowK_b (w := w) (Nat.le_refl _) _ D _ _ (by omega) hK rfl rfl)⟩
end Go.Proofs.Ytccpjjpceokodaa
