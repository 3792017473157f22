/- deps: what Edges of the code does, plain. -/
import Derived.Test.YthaiplhjekkooaaDeE
import Derived.Test.YthaiplhjekkooaaDeL
import Derived.Test.YthaiplhjekkooaaDeN
namespace Go.Proofs.Ythaiplhjekkooaa
open Go.RowKit

abbrev idV (n : Nat) : Value := .int .u64 n
abbrev spvE (e : AE) : Value := spV e.a.s e.A e.n e.c
/-- The spans by their IDs. -/
def atTo (l : List AE) : List (Nat × AE) := l.foldl (fun M e => mgPut e.a.s.id e M) []
theorem atTo_snoc (l : List AE) (e : AE) : atTo (l ++ [e]) = mgPut e.a.s.id e (atTo l) := by simp [atTo]
/-- A span's call. -/
def callC (size : Int) (M : List (Nat × AE)) (x : AE) : Option Ed :=
  match mgGet x.a.up M with
  | some y => if y.a.s.service ≠ x.a.s.service then some ⟨(bktOf x.a.s.start size).1, y.a.s.service, x.a.s.service, 1⟩ else none
  | none => none
def callsC (size : Int) (l : List AE) : List Ed := l.filterMap (callC size (atTo l))
theorem callC_one {size : Int} {M : List (Nat × AE)} {x : AE} {e : Ed} (h : callC size M x = some e) : e.n = 1 := by
  unfold callC at h
  split at h
  · split at h
    · injection h with h; rw [← h]
    · cases h
  · cases h
theorem mgAll_few {xs : List Ed} : ∀ {M : List (Ek × Nat)} {c : Nat}, (∀ x ∈ xs, x.n = 1) → (∀ p ∈ M, p.2 ≤ c) → (M.map (·.1)).Nodup → ∀ p ∈ mgAll xs M, p.2 ≤ c + xs.length := by
  induction xs with
  | nil => intro M c _ h _ p hp; exact h p hp
  | cons x xs ih =>
    intro M c h1 h2 hn p hp
    have h3 : ∀ p ∈ addK (edK x) x.n M, p.2 ≤ c + 1 := fun p hp => by
      rcases (mgPut_mem hn p).1 hp with ⟨h4, _⟩ | rfl
      · have := h2 p h4; omega
      · show min ((mgGet (edK x) M).getD 0) 4611686018427387905 + min x.n 4611686018427387905 ≤ c + 1
        have h5 := h1 x (List.mem_cons_self ..)
        have h6 : (mgGet (edK x) M).getD 0 ≤ c := by
          cases hg : mgGet (edK x) M with
          | none => exact Nat.zero_le _
          | some v => exact h2 _ (mgGet_mem hg)
        omega
    have := ih (fun y hy => h1 y (List.mem_cons_of_mem _ hy)) h3 (mgPut_nodup hn) p hp
    simp only [List.length_cons]
    omega
/-- What Edges of the code hands back. -/
def EdgC (l : List AE) (size : Int) (w : World) (e : Ending) (w' : World) : Prop :=
  Below w.heap.size w w' ∧
  ((size < 1 ∨ (atTo l).length ≠ l.length ∨ l.any negA = true) ∧ e = .returned (.tuple #[.slice none 0 0, .int .i64 2]) ∨
   ¬ (size < 1 ∨ (atTo l).length ≠ l.length ∨ l.any negA = true) ∧
    (spErr (l.map (·.a.s)) ≠ 0 ∧ e = .returned (.tuple #[.slice none 0 0, .int .i64 (spErr (l.map (·.a.s)))]) ∨
     spErr (l.map (·.a.s)) = 0 ∧ ∃ A c n out, out.Perm ((mgAll (callsC size l) []).map mkEd) ∧ SortEd out ∧ out.length = n ∧ e = .returned (.tuple #[.slice A n c, .int .i64 0]) ∧ w'.ownsRow w.heap.size 47 4 (.slice A n c) n (eds out)))
end Go.Proofs.Ythaiplhjekkooaa
