/- Strings into bytes: '[]byte(s)' of a variable and of a constant. -/
import Derived.Laws.IdiomStrings
import Derived.Lib.SmallJoins
import Derived.Test.YtleghbdkjdpilaaByt
namespace Go.Proofs.Ytleghbdkjdpilaa
open Go.RowKit

/-- '[]byte(s)': what it hands back and lays, behind letters. -/
theorem conv_str : ∃ (cp : World → ByteArray → Nat) (ce : World → ByteArray → Array Value) (fa : World → ByteArray → Nat × Nat),
    (∀ (s : ByteArray) (W : World), (convert 9 26 (.string s)).run Try.prog W = .ok (.slice (some ⟨W.heap.size, 0, none⟩) s.size (cp W s)) (W.drew.alloc (.cells (ce W s) 5 (fa W s)))) ∧
    (∀ (s : ByteArray) (W : World), s.size ≤ cp W s ∧ ∀ (j : Nat) (u : Value), (bv (nums s))[j]? = some u → (ce W s)[j]? = some u) := by
  refine ⟨fun W s => grownCap W s.size 0 5, fun W s => bytesRow s (grownCap W s.size 0 5), fun W s => ((bytesRow s (grownCap W s.size 0 5)).size, (bytesRow s (grownCap W s.size 0 5)).size + 1),
    fun s W => run_bytes_of_string W _ _ _ s Try.underlying9 Try.underlying26 Try.underlying5, fun s W => ⟨?_, fun j u hu => ?_⟩⟩
  · exact grownCap_ge W s.size 0 5
  · have hj : j < (nums s).length := by
      have := (List.getElem?_eq_some_iff.1 hu).1
      simpa [bv] using this
    rw [nums_len] at hj
    have h1 : (bytesRow s (grownCap W s.size 0 5))[j]? = (s.data.map (fun b => Value.int .u8 b.toNat))[j]? := by
      unfold bytesRow
      rw [Array.getElem?_append_left (by simpa using hj)]
    rw [h1, ← hu]
    simp [bv, nums]
    rfl
theorem Rd.of_alloc {w : World} {cs : Array Value} {t : TypeId} {fr : Nat × Nat} {xs : List Value} (h : ∀ (j : Nat) (u : Value), xs[j]? = some u → cs[j]? = some u) : Rd (w.alloc (.cells cs t fr)) (w.heap.size + 1) (some ⟨w.heap.size, 0, none⟩) xs := fun _ =>
  ⟨w.heap.size, 0, rfl, by omega, fun j u hu => by rw [Nat.zero_add, World.cell?_alloc_mark]; exact h j u hu⟩

theorem conv_const (w : World) (C : Array Value) (n c g : Nat) (hg : g = w.heap.size) :
    (convert 26 26 (.slice (some ⟨g, 0, none⟩) n c)).run Try.prog (w.alloc (.cells C 5)) = .ok (.slice (some ⟨g, 0, none⟩) n c) (w.alloc (.cells C 5 (C.size, C.size + 1))) := by
  subst hg
  exact Lib.run_convert_bytes_const w _ _ C n c Try.underlying26 Try.underlying5

theorem Rd.litm {w : World} {cs : Array Value} {t : TypeId} {fr : Nat × Nat} {g : Nat} (hg : w.heap.size = g) : Rd (w.alloc (.cells cs t fr)) (g + 1) (some ⟨g, 0, none⟩) cs.toList := fun _ => by
  subst hg
  exact ⟨w.heap.size, 0, rfl, by omega, fun j u hu => by
    rw [Nat.zero_add, World.cell?_alloc_mark]
    simpa using hu⟩
end Go.Proofs.Ytleghbdkjdpilaa
