/- Adjusted spans: what they are, as they lie. -/
import Derived.Laws.Rows
import Derived.Laws.Tables
import Derived.Test.YthaiplhjekkooaaSpP0
import Derived.Test.YthaiplhjekkooaaLoadK
namespace Go.Proofs.Ythaiplhjekkooaa
open Go.RowKit

structure Ad where
  s : Sp
  up : Nat
  shift : Int
  flag : Int
abbrev adC (a : Ad) (A : Option Addr) (n c : Nat) : Array Value := #[.int .u64 a.s.hi, .int .u64 a.s.lo, .int .u64 a.s.id, .int .u64 a.s.parent, .string a.s.service, .string a.s.name, .int .i64 a.s.kind, .int .i64 a.s.start, .int .i64 a.s.length, .bool a.s.fails, .slice A n c, .int .u64 a.up, .int .i64 a.shift, .int .i64 a.flag]
abbrev adV (a : Ad) (A : Option Addr) (n c : Nat) : Value := .agg (adC a A n c)
def adChk (a : Ad) : Nat := if spChk a.s ≠ 0 then spChk a.s else if a.flag < 0 ∨ 2 < a.flag then 2 else 0
def Ad.Ok (a : Ad) : Prop := a.s.U64 ∧ a.up < 18446744073709551616 ∧ -9223372036854775808 ≤ a.shift ∧ a.shift ≤ 9223372036854775807
theorem run_loadVar_cellsK {P : Program} (w : World) (ty : TypeId) (d : TypeDesc) (a : Addr) (xs : List Value) (hu : P.underlying ty = some d) (hd : (match d with | .struct _ | .array _ _ => true | _ => false) = true) (hi : (P.info? ty).map (·.size) = some xs.length)
    (hc : ∀ j v, xs[j]? = some v → w.cell? (a.add j) = some v) : (loadVar ty a).run P w = .ok (.agg xs.toArray) w := by
  have hl := run_loadCells_list (P := P) w a xs hc
  cases hq : P.info? ty with
  | none => simp [hq] at hi
  | some i =>
    have hs : i.size = xs.length := by simpa [hq] using hi
    have hagg : (isAgg ty).run P w = .ok true w := by
      unfold isAgg
      rw [Sem.run_bind, run_underlying hu w]
      cases d <;> simp_all
    simp [loadVar, Sem.run_bind, hagg, sizeOf, typeInfo, hq, hs, hl]
set_option maxRecDepth 100000 in
theorem loadK_adSp {w : World} {g n c : Nat} {a : Ad} {A : Option Addr} (h : Bk w g 45 (adC a A n c)) : (loadK 43 ⟨g, 0, none⟩).run Try.prog w = .ok (spV a.s A n c) w :=
  run_loadVar_cellsK w _ _ ⟨g, 0, none⟩ (spC a.s A n c).toList Try.underlying43 rfl (by rfl) (fun j v hv => by
    have hj : j < 11 := (List.getElem?_eq_some_iff.1 hv).1
    rw [Addr.add_lit, Nat.zero_add, h.cell j, ← hv]
    have h14 : ∀ j, j < 11 → (adC a A n c)[j]? = (spC a.s A n c).toList[j]? := by
      intro j hj
      have : j = 0 ∨ j = 1 ∨ j = 2 ∨ j = 3 ∨ j = 4 ∨ j = 5 ∨ j = 6 ∨ j = 7 ∨ j = 8 ∨ j = 9 ∨ j = 10 := by omega
      rcases this with rfl | rfl | rfl | rfl | rfl | rfl | rfl | rfl | rfl | rfl | rfl <;> rfl
    exact h14 j hj)
abbrev zadC : Array Value := #[.int .u64 0, .int .u64 0, .int .u64 0, .int .u64 0, .string ⟨#[]⟩, .string ⟨#[]⟩, .int .i64 0, .int .i64 0, .int .i64 0, .bool false, .slice none 0 0, .int .u64 0, .int .i64 0, .int .i64 0]
theorem adC_one (a : Ad) (A : Option Addr) (n c : Nat) : (adC a A n c).all (·.oneCell') = true := by simp [Value.oneCell']
set_option maxRecDepth 100000 in
theorem loadK_ad {w : World} {g n c : Nat} {a : Ad} {A : Option Addr} (h : Bk w g 45 (adC a A n c)) : (loadK 45 ⟨g, 0, none⟩).run Try.prog w = .ok (adV a A n c) w :=
  run_loadVar_row w g _ _ (adC a A n c) (0, 0) _ h Try.underlying45 rfl (by rfl)
set_option maxRecDepth 100000 in
theorem loadK_spK {w : World} {g n c : Nat} {s : Sp} {A : Option Addr} (h : Bk w g 43 (spC s A n c)) : (loadK 43 ⟨g, 0, none⟩).run Try.prog w = .ok (spV s A n c) w :=
  run_loadVar_row w g _ _ (spC s A n c) (0, 0) _ h Try.underlying43 rfl (by rfl)
end Go.Proofs.Ythaiplhjekkooaa
