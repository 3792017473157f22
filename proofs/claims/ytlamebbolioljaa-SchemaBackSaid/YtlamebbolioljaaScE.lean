/- Keys: a key's parts as interface values; pack. -/
import Derived.Test.YtlamebbolioljaaScC
import Derived.Test.YtlamebbolioljaaScW
import Derived.Test.YtlamebbolioljaaLoadK
namespace Go.Proofs.Ytlamebbolioljaa
open Go.RowKit

/-- A number or a text. -/
abbrev It := Nat ⊕ ByteArray
def ifV : It → Value
  | .inl n => .iface 22 (.int .u64 n)
  | .inr s => .iface 9 (.string s)
def ifs (l : List It) : List Value := l.map ifV
def itEnc : It → List Int
  | .inl n => ordEnc n
  | .inr s => txtEnc (nums s)
def itFine : It → Prop
  | .inl n => n < 18446744073709551616
  | .inr s => s.size ≤ 128
def itsEnc (l : List It) : List Int := l.flatMap itEnc
theorem itsEnc_snoc (l : List It) (x : It) : itsEnc (l ++ [x]) = itsEnc l ++ itEnc x := by simp [itsEnc]
theorem ifs_get {l : List It} {i : Nat} {x : It} (h : l[i]? = some x) : (ifs l)[i]? = some (ifV x) := by simp [ifs, h]
theorem itEnc_len {x : It} (h : itFine x) : (itEnc x).length ≤ 258 := by
  cases x with
  | inl n => simp [itEnc, ordEnc_len]
  | inr s =>
    have h1 := txtTo_len (nums s)
    have h2 := nums_len s
    have h3 : s.size ≤ 128 := h
    simp [itEnc, txtEnc]
    omega
theorem assertU (W : World) (v : Value) : (Instr.typeAssert (.iface 22 v) 20 22 true).run Try.prog W = .ok (.tuple #[v, .bool true]) W := by kernel_rfl
theorem assertUn (W : World) (v : Value) : (Instr.typeAssert (.iface 9 v) 20 22 true).run Try.prog W = .ok (.tuple #[.int .u64 0, .bool false]) W := by kernel_rfl
theorem assertS (W : World) (v : Value) : (Instr.typeAssert (.iface 9 v) 20 9 true).run Try.prog W = .ok (.tuple #[v, .bool true]) W := by kernel_rfl
set_option maxRecDepth 100000 in
set_option maxHeartbeats 2000000 in
theorem scPack {base A c n A1 c1 B k} {xs : List Int} {l : List It} (w : World) (ho : w.ownsRow base 5 1 (.slice A n c) n (bv xs)) (hb : base ≤ w.heap.size) (hr : Rd w B A1 (ifs l)) (hB : B ≤ w.heap.size) (hs : Sep A A1)
    (hf : ∀ x ∈ l, itFine x) (hl : l.length = k) (hk : k ≤ 8) (hn : n ≤ 1099511620000) :
    Calls Try.prog 34 #[.slice A n c, .slice A1 k c1] w (RetApp base 5 1 w (.slice A n c) (xs ++ itsEnc l).length (bv (xs ++ itsEnc l)) (fun _ => True)) := by
  have hlen : n = xs.length := by have := own_length ho; rw [bv_length] at this; exact this.symm
  have HN := Lib.hid hlen
  have HL := Lib.hid hl
  clear hlen hl
  go_enter Try.func34, Try.ntmps34
  go_wp2
  go_loopw [0, 11] (fun v i wr => ∃ (A' : Option Addr) (c' m j : Nat) (ys : List Int), v = .slice A' m c' ∧ i = .int .i64 j ∧ j ≤ k ∧ App base 5 1 w (.slice A n c) wr (.slice A' m c') m (bv ys) ∧ ys = xs ++ itsEnc (l.take j) ∧ m ≤ n + 258 * j) (fun _ i _ => k - (intOf i).toNat)
  case atStart => exact ⟨A, c, n, 0, xs, rfl, rfl, Nat.zero_le _, App.refl ho, by simp [itsEnc], by omega⟩
  case round =>
    obtain ⟨A', c', m, j, ys, rfl, rfl, hj, happ, hys, hm⟩ := hrel
    have HY := Lib.hid hys
    clear hys
    have hrd : Rd wr B A1 (ifs l) := hr.apart hB happ.grown hs
    have hbase : base ≤ wr.heap.size := Nat.le_trans hb happ.heap
    by_cases hlt : j < k
    · have hlt' : (j : Int) < (k : Int) := by omega
      obtain ⟨x, hx⟩ : ∃ x, l[j]? = some x := ⟨_, List.getElem?_eq_getElem (by rw [HL.out]; exact hlt)⟩
      obtain ⟨b, o, rfl, hbb, hc⟩ := hrd.get (ifs_get hx)
      have hfx := hf x (List.mem_of_getElem? hx)
      have hle := itEnc_len hfx
      have HX : Hid (l.take (j + 1) = l.take j ++ [x]) := take_snoc hx
      have HYN : Hid (ys ++ itEnc x = xs ++ itsEnc (l.take (j + 1))) := by
        rw [HX.out, itsEnc_snoc, ← List.append_assoc, ← HY.out]
        exact Lib.hid rfl
      clear hx hf hr
      cases x with
      | inl y =>
        have a1 := assertU wr (.int .u64 y)
        have hy : y < 18446744073709551616 := hfx
        change wr.cell? _ = some (.iface 22 (.int .u64 y)) at hc
        go_wp2_with (go_at_call 56; refine (wireOrdered wr happ.own hbase hy (by omega)).mono ?_; rintro e w' ⟨A2, c2, rfl, h2, -⟩)
        have hap := happ.trans h2
        go_roundw
        case rel => exact ⟨A2, c2, m + 8, j + 1, _, rfl, by go_num, by omega, hap, HYN.out, by omega⟩
        case measure => simp [intOf]; omega
      | inr s =>
        have a1 := assertUn wr (.string s)
        have a2 := assertS wr (.string s)
        have hs128 : s.size ≤ 128 := hfx
        change wr.cell? _ = some (.iface 9 (.string s)) at hc
        have hml : m = ys.length := by have := own_length happ.own; rw [bv_length] at this; exact this.symm
        have HM := Lib.hid hml
        clear hml
        have hlen2 : (ys ++ txtEnc (nums s)).length ≤ m + 258 := by rw [List.length_append, ← HM.out]; exact Nat.add_le_add_left hle m
        have ct := wireOrderedText wr happ.own hbase (show s.size ≤ 1073741824 by omega) (show m ≤ 1099511627776 by omega)
        obtain ⟨zs, hzs⟩ : ∃ zs, ys ++ txtEnc (nums s) = zs := ⟨_, rfl⟩
        rw [hzs] at ct hlen2
        have HYN2 : Hid (zs = xs ++ itsEnc (l.take (j + 1))) := by rw [← HYN.out, ← hzs]; exact Lib.hid rfl
        have CT := Lib.hid ct
        clear ct hzs
        go_wp2_with (go_at_call 57; refine CT.out.mono ?_; rintro e w' ⟨A2, c2, rfl, h2, -⟩)
        have hap := happ.trans h2
        go_roundw
        case rel => exact ⟨A2, c2, _, j + 1, zs, rfl, by go_num, by omega, hap, HYN2.out, by omega⟩
        case measure => simp [intOf]; omega
    · have hlt' : decide ((j : Int) < (k : Int)) = false := by simp; omega
      have hjk : j = k := by omega
      have HYE : Hid (ys = xs ++ itsEnc l) := by
        rw [HY.out, List.take_of_length_le (by rw [HL.out]; omega)]
        exact Lib.hid rfl
      have HM : Hid (m = (xs ++ itsEnc l).length) := by
        have := own_length happ.own
        rw [bv_length, HYE.out] at this
        exact Lib.hid this.symm
      clear hjk
      go_wp2
      go_ret
      exact ⟨A', c', by rw [← HM.out]; rfl, by rw [← HM.out, ← HYE.out]; exact happ, trivial⟩

/-- A key's parts. -/
def allOf (k : Ky) : List It := [.inl k.hi, .inl k.lo, .inl k.id, .inr k.service, .inr k.name, .inr k.value, .inl k.start.toNat, .inl k.number]
def AllPost (w : World) (k : Ky) (e : Ending) (w' : World) : Prop := ∃ g, e = .returned (.slice (some ⟨g, 0, none⟩) 8 8) ∧ (∀ i x, (allOf k)[i]? = some x → w'.cell? ⟨g, i, none⟩ = some (ifV x)) ∧ Below w.heap.size w w' ∧ g < w'.heap.size
set_option maxRecDepth 100000 in
set_option maxHeartbeats 2000000 in
theorem scAll (k : Ky) (w : World) (h0 : 0 ≤ k.start) (h1 : k.start ≤ 4611686018427387903) : Calls Try.prog 35 #[kyV k] w (AllPost w k) := by
  have hst : ((k.start.toNat : Nat) : Int) = k.start := by omega
  have HST := Lib.hid hst
  clear hst
  go_enter Try.func35, Try.ntmps35
  go_wp2
  go_ret
  refine ⟨w.heap.size + 1, rfl, ?_, ((Below.refl _ w).alloc (Nat.le_refl _) _).alloc (by simp) _, by simp⟩
  intro i x hx
  have hb := Bk.new (w.alloc (.cells (kyC k) 26)) 20 #[.iface 22 (.int .u64 k.hi), .iface 22 (.int .u64 k.lo), .iface 22 (.int .u64 k.id), .iface 9 (.string k.service), .iface 9 (.string k.name), .iface 9 (.string k.value), .iface 22 (.int .u64 k.start), .iface 22 (.int .u64 k.number)]
  have hc := hb.cell i
  simp only [World.size_alloc] at hc
  refine hc.trans ?_
  rw [← HST.out]
  have : #[Value.iface 22 (.int .u64 k.hi), .iface 22 (.int .u64 k.lo), .iface 22 (.int .u64 k.id), .iface 9 (.string k.service), .iface 9 (.string k.name), .iface 9 (.string k.value), .iface 22 (.int .u64 (k.start.toNat : Nat)), .iface 22 (.int .u64 k.number)] = (ifs (allOf k)).toArray := rfl
  rw [this]
  simp [ifs, hx]
end Go.Proofs.Ytlamebbolioljaa
