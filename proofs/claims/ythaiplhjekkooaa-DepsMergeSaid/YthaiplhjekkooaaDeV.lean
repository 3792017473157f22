/- deps: the law's few, small, calls. -/
import Derived.Test.YthaiplhjekkooaaDeU
namespace Go.Proofs.Ythaiplhjekkooaa
open Go.RowKit
theorem loadEd_shutV (a : Addr) : loadVar 47 a = loadK 47 a := rfl
attribute [local go_sem ↓] loadEd_shutV

theorem tot_all {M : Nat} : ∀ {l : List Ed}, (∀ e ∈ l, e.n ≤ M) → tot l ≤ l.length * M
  | [], _ => Nat.zero_le _
  | e :: l, h => by
    have h1 := tot_all (l := l) fun x hx => h x (List.mem_cons_of_mem _ hx)
    have h2 := h e (List.mem_cons_self ..)
    show (if true = true then e.n else 0) + tot l ≤ _
    rw [if_pos rfl, List.length_cons, Nat.add_mul]
    omega
theorem RbD.cells {w : World} {B : Nat} {A : Option Addr} {l : List Ed} (h : RbD w B A l) {i : Nat} {e : Ed} (hi : l[i]? = some e) :
    ∃ b o, A = some ⟨b, o, none⟩ ∧ w.cell? ⟨b, o + i * 4, none⟩ = some (.int .u64 e.b) ∧ w.cell? ⟨b, o + i * 4 + 1, none⟩ = some (.string e.f) ∧ w.cell? ⟨b, o + i * 4 + 2, none⟩ = some (.string e.t) ∧ w.cell? ⟨b, o + i * 4 + 3, none⟩ = some (.int .u64 e.n) := by
  obtain ⟨b, o, hA, -, hc⟩ := RbD.at h hi
  refine ⟨b, o, hA, hc 0 (by omega), ?_, ?_, ?_⟩ <;> rw [Nat.add_assoc]
  · exact hc 1 (by omega)
  · exact hc 2 (by omega)
  · exact hc 3 (by omega)
def SmallPost (n : Nat) (w : World) (e : Ending) (w' : World) : Prop := ∃ q, e = .returned (.bool q) ∧ w' = w ∧ (q = true → n ≤ 80)
set_option maxRecDepth 100000 in
set_option maxHeartbeats 2000000 in
theorem lawSmall {A : Option Addr} {n c B : Nat} (l : List Ed) (w : World) (h : RbD w B A l) (hn : l.length = n) (hnl : n ≤ 9223372036854775807) :
    Calls Try.prog 26 #[.slice A n c] w (SmallPost n w) := by
  have HN := Lib.hid hn
  have HH := Lib.hid h
  clear hn h
  go_enter Try.func26, Try.ntmps26
  go_wp2_with fail
  go_loopw [3] (fun i_ wr => ∃ i : Nat, i ≤ n ∧ i ≤ 81 ∧ i_ = .int .i64 i ∧ wr = w) (fun i_ _ => n - (intOf i_).toNat)
  case atStart => exact ⟨0, by omega, by omega, rfl, rfl⟩
  case round =>
    obtain ⟨i, hi, hi81, rfl, rfl⟩ := hrel
    have hfin : Hid (∀ q : Bool, q = decide ((n : Int) ≤ 80) → q = true → n ≤ 80) := Lib.hid fun q hq h => by rw [hq] at h; have := of_decide_eq_true h; omega
    by_cases hlt : i < n
    · have hlt' : (i : Int) < (n : Int) := by omega
      by_cases h80 : i ≤ 80
      · have h80' : (i : Int) ≤ 80 := by omega
        obtain ⟨x, hx⟩ : ∃ x, l[i]? = some x := ⟨_, List.getElem?_eq_getElem (by rw [HN.out]; exact hlt)⟩
        obtain ⟨b, o, eA, -, c1, c2, -⟩ := RbD.cells HH.out hx
        subst eA
        clear hx
        by_cases h1 : (1000 : Int) < (x.f.size : Int)
        · go_wp2_with fail
          go_ret
          exact ⟨false, rfl, rfl, fun h => by cases h⟩
        · have h1' : decide ((1000 : Int) < (x.f.size : Int)) = false := by simp; omega
          by_cases h2 : (1000 : Int) < (x.t.size : Int)
          · go_wp2_with fail
            go_ret
            exact ⟨false, rfl, rfl, fun h => by cases h⟩
          · have h2' : decide ((1000 : Int) < (x.t.size : Int)) = false := by simp; omega
            go_wp2_with fail
            exact ⟨⟨i + 1, by omega, by omega, by go_num, trivial⟩, by simp only [intOf]; omega⟩
      · have h80' : decide ((i : Int) ≤ 80) = false := by simp; omega
        go_wp2_with fail
        go_ret
        exact ⟨_, rfl, rfl, hfin.out _ rfl⟩
    · have hlt' : decide ((i : Int) < (n : Int)) = false := by simp; omega
      go_wp2_with fail
      go_ret
      exact ⟨_, rfl, rfl, hfin.out _ rfl⟩
def FewPost (l : List Ed) (w : World) (e : Ending) (w' : World) : Prop := ∃ q, e = .returned (.bool q) ∧ w' = w ∧ (q = true → l.length ≤ 80 ∧ ∀ e ∈ l, e.n ≤ 1099511627776)
set_option maxRecDepth 100000 in
set_option maxHeartbeats 2000000 in
theorem lawFew {A : Option Addr} {n c B : Nat} (l : List Ed) (w : World) (h : RbD w B A l) (hn : l.length = n) (hnl : n ≤ 9223372036854775807) :
    Calls Try.prog 19 #[.slice A n c] w (FewPost l w) := by
  have HN := Lib.hid hn
  have HH := Lib.hid h
  clear hn h
  go_enter Try.func19, Try.ntmps19
  go_wp2_with fail
  go_loopw [3] (fun i_ wr => ∃ i : Nat, i ≤ n ∧ i ≤ 81 ∧ i_ = .int .i64 i ∧ wr = w ∧ Hid (∀ e ∈ l.take i, e.n ≤ 1099511627776)) (fun i_ _ => n - (intOf i_).toNat)
  case atStart => exact ⟨0, by omega, by omega, rfl, rfl, Lib.hid (fun e he => by simp at he)⟩
  case round =>
    obtain ⟨i, hi, hi81, rfl, rfl, HF⟩ := hrel
    by_cases hlt : i < n
    · have hlt' : (i : Int) < (n : Int) := by omega
      by_cases h80 : i ≤ 80
      · have h80' : (i : Int) ≤ 80 := by omega
        obtain ⟨x, hx⟩ : ∃ x, l[i]? = some x := ⟨_, List.getElem?_eq_getElem (by rw [HN.out]; exact hlt)⟩
        obtain ⟨b, o, eA, -, -, -, c3⟩ := RbD.cells HH.out hx
        subst eA
        have HX := Lib.hid hx
        clear hx
        by_cases h1 : (1099511627776 : Int) < (x.n : Int)
        · go_wp2_with fail
          go_ret
          exact ⟨false, rfl, rfl, fun h => by cases h⟩
        · have h1' : decide ((1099511627776 : Int) < (x.n : Int)) = false := by simp; omega
          go_wp2_with fail
          exact ⟨⟨i + 1, by omega, by omega, by go_num, trivial, Lib.hid (fun e he => by
            rw [take_snoc HX.out] at he
            rcases List.mem_append.1 he with he | he
            · exact HF.out e he
            · rw [List.mem_singleton.1 he]; omega)⟩, by simp only [intOf]; omega⟩
      · have h80' : decide ((i : Int) ≤ 80) = false := by simp; omega
        have cs := lawSmall (c := c) l wr HH.out HN.out hnl
        go_wp2_with fail
        refine cs.mono ?_
        rintro en w2 ⟨q, rfl, rfl, hq⟩
        go_wp2_with fail
        go_ret
        exact ⟨q, rfl, rfl, fun h => absurd (hq h) (by omega)⟩
    · have hlt' : decide ((i : Int) < (n : Int)) = false := by simp; omega
      have cs := lawSmall (c := c) l wr HH.out HN.out hnl
      go_wp2_with fail
      refine cs.mono ?_
      rintro en w2 ⟨q, rfl, rfl, hq⟩
      go_wp2_with fail
      go_ret
      exact ⟨q, rfl, rfl, fun h => ⟨by rw [HN.out]; exact hq h, fun e he => HF.out e (by rw [List.take_of_length_le (by rw [HN.out]; omega)]; exact he)⟩⟩
theorem tot_snoc {l : List Ed} {i : Nat} {x : Ed} (h : l[i]? = some x) : tot (l.take (i + 1)) = tot (l.take i) + x.n := by
  rw [take_snoc h, tot, totP_append]
  show _ + ((if true = true then x.n else 0) + 0) = _
  rw [if_pos rfl]
  rfl
theorem tot_take (l : List Ed) (i : Nat) : tot (l.take i) ≤ tot l := by
  have h : tot (l.take i ++ l.drop i) = tot (l.take i) + tot (l.drop i) := totP_append _ _ _
  rw [List.take_append_drop] at h
  omega
set_option maxRecDepth 100000 in
set_option maxHeartbeats 2000000 in
theorem lawCalls {A : Option Addr} {n c B : Nat} (l : List Ed) (w : World) (h : RbD w B A l) (hn : l.length = n) (hnl : n ≤ 9223372036854775807) (ht : tot l ≤ 18446744073709551615) :
    Calls Try.prog 18 #[.slice A n c] w fun e w' => e = .returned (.int .u64 (tot l)) ∧ w' = w := by
  have HN := Lib.hid hn
  have HH := Lib.hid h
  obtain ⟨r, hr⟩ : ∃ r, tot l = r := ⟨_, rfl⟩
  have HTK := Lib.hid (fun i => show tot (l.take i) ≤ r by rw [← hr]; exact tot_take l i)
  rw [hr] at ht ⊢
  have HR := Lib.hid hr
  clear hn h hr
  go_enter Try.func18, Try.ntmps18
  go_wp2_with fail
  go_loopw [3, 4] (fun s_ i_ wr => ∃ i t : Nat, i ≤ n ∧ i_ = .int .i64 i ∧ s_ = .int .u64 t ∧ wr = w ∧ Hid (tot (l.take i) = t)) (fun _ i_ _ => n - (intOf i_).toNat)
  case atStart => exact ⟨0, 0, by omega, rfl, rfl, rfl, Lib.hid rfl⟩
  case round =>
    obtain ⟨i, t, hi, rfl, rfl, rfl, HT⟩ := hrel
    by_cases hlt : i < n
    · have hlt' : (i : Int) < (n : Int) := by omega
      obtain ⟨x, hx⟩ : ∃ x, l[i]? = some x := ⟨_, List.getElem?_eq_getElem (by rw [HN.out]; exact hlt)⟩
      obtain ⟨b, o, eA, -, -, -, c3⟩ := RbD.cells HH.out hx
      subst eA
      have hs := tot_snoc hx
      rw [HT.out] at hs
      have hk := HTK.out (i + 1)
      rw [hs] at hk
      have hw : IntKind.u64.wrap ((t : Int) + (x.n : Int)) = ((t + x.n : Nat) : Int) := by
        rw [show (t : Int) + (x.n : Int) = ((t + x.n : Nat) : Int) from by omega]
        exact IntWalk.u64_in _ ⟨by omega, by omega⟩
      have HS := Lib.hid hs
      clear hx hs hk
      go_wp2_with fail
      exact ⟨⟨i + 1, t + x.n, by omega, by go_num, rfl, trivial, HS⟩, by simp only [intOf]; omega⟩
    · have hlt' : decide ((i : Int) < (n : Int)) = false := by simp; omega
      obtain rfl : i = n := by omega
      obtain rfl : t = r := by
        have h1 := HT.out
        rw [List.take_of_length_le (by rw [HN.out]; exact Nat.le_refl _)] at h1
        rw [← h1, HR.out]
      go_wp2_with fail
      go_ret
      exact ⟨rfl, rfl⟩
end Go.Proofs.Ythaiplhjekkooaa
