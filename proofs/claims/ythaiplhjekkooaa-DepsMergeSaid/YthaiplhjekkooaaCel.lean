/- A span's cells in a block. -/
import Derived.Test.YthaiplhjekkooaaSpM0
namespace Go.Proofs.Ythaiplhjekkooaa
open Go.RowKit

/-- The first field of a span: its trace. -/
theorem field_trace (W : World) (a b c d e f g h i j k : Value) : (Instr.field 43 (.agg #[a, b, c, d, e, f, g, h, i, j, k]) 0).run Try.prog W = .ok (.agg #[a, b]) W := by
  kernel_rfl
/-- The eleven cells of a span that lies in a block. -/
def Cells11 (g : Nat) (s : Sp) (A : Option Addr) (n c : Nat) (w' : World) : Prop := w'.cell? ⟨g, 0, none⟩ = some (.int .u64 s.hi) ∧ w'.cell? ⟨g, 1, none⟩ = some (.int .u64 s.lo) ∧ w'.cell? ⟨g, 2, none⟩ = some (.int .u64 s.id) ∧ w'.cell? ⟨g, 3, none⟩ = some (.int .u64 s.parent) ∧ w'.cell? ⟨g, 4, none⟩ = some (.string s.service) ∧ w'.cell? ⟨g, 5, none⟩ = some (.string s.name) ∧ w'.cell? ⟨g, 6, none⟩ = some (.int .i64 s.kind) ∧ w'.cell? ⟨g, 7, none⟩ = some (.int .i64 s.start) ∧ w'.cell? ⟨g, 8, none⟩ = some (.int .i64 s.length) ∧ w'.cell? ⟨g, 9, none⟩ = some (.bool s.fails) ∧ w'.cell? ⟨g, 10, none⟩ = some (.slice A n c)
theorem cells11 {w' : World} {g : Nat} {s : Sp} {A : Option Addr} {n c : Nat} (h : Bk w' g 43 (spC s A n c)) : w'.cell? ⟨g, 0, none⟩ = some (.int .u64 s.hi) ∧ w'.cell? ⟨g, 1, none⟩ = some (.int .u64 s.lo) ∧ w'.cell? ⟨g, 2, none⟩ = some (.int .u64 s.id) ∧ w'.cell? ⟨g, 3, none⟩ = some (.int .u64 s.parent) ∧ w'.cell? ⟨g, 4, none⟩ = some (.string s.service) ∧ w'.cell? ⟨g, 5, none⟩ = some (.string s.name) ∧ w'.cell? ⟨g, 6, none⟩ = some (.int .i64 s.kind) ∧ w'.cell? ⟨g, 7, none⟩ = some (.int .i64 s.start) ∧ w'.cell? ⟨g, 8, none⟩ = some (.int .i64 s.length) ∧ w'.cell? ⟨g, 9, none⟩ = some (.bool s.fails) ∧ w'.cell? ⟨g, 10, none⟩ = some (.slice A n c) :=
  ⟨h.cell 0, h.cell 1, h.cell 2, h.cell 3, h.cell 4, h.cell 5, h.cell 6, h.cell 7, h.cell 8, h.cell 9, h.cell 10⟩
end Go.Proofs.Ythaiplhjekkooaa
