/- Blocks: plain words; entries as they lie. -/
import Derived.Test.YtleghbdkjdpilaaEnC
import Derived.Test.YtleghbdkjdpilaaLoadK
import Derived.Test.YtleghbdkjdpilaaRow
namespace Go.Proofs.Ytleghbdkjdpilaa
open Go.RowKit

/-- How many bytes two keys have in common. -/
def lcp : List Int → List Int → Nat
  | x :: a, y :: b => if x = y then lcp a b + 1 else 0
  | _, _ => 0
theorem lcp_le : ∀ (a b : List Int), lcp a b ≤ a.length ∧ lcp a b ≤ b.length
  | [], _ => by simp [lcp]
  | _ :: _, [] => by simp [lcp]
  | x :: a, y :: b => by
    have ih := lcp_le a b
    rw [lcp]
    split
    · simp only [List.length_cons]; omega
    · simp
theorem lcp_in : ∀ (a b : List Int) (n : Nat), n < lcp a b → ∃ x, a[n]? = some x ∧ b[n]? = some x
  | [], _, n, h => by simp [lcp] at h
  | _ :: _, [], n, h => by simp [lcp] at h
  | x :: a, y :: b, n, h => by
    rw [lcp] at h
    split at h
    · rename_i he
      cases n with
      | zero => exact ⟨x, rfl, by rw [he]; rfl⟩
      | succ n =>
        obtain ⟨z, h1, h2⟩ := lcp_in a b n (by omega)
        exact ⟨z, h1, h2⟩
    · omega
theorem lcp_out : ∀ (a b : List Int), lcp a b = a.length ∨ lcp a b = b.length ∨ ∃ x y, a[lcp a b]? = some x ∧ b[lcp a b]? = some y ∧ x ≠ y
  | [], _ => by simp [lcp]
  | _ :: _, [] => by simp [lcp]
  | x :: a, y :: b => by
    by_cases he : x = y
    · have e : lcp (x :: a) (y :: b) = lcp a b + 1 := by rw [lcp, if_pos he]
      rw [e]
      rcases lcp_out a b with h | h | ⟨u, v, h1, h2, h3⟩
      · exact .inl (by simp [h])
      · exact .inr (.inl (by simp [h]))
      · exact .inr (.inr ⟨u, v, by simpa using h1, by simpa using h2, h3⟩)
    · have e : lcp (x :: a) (y :: b) = 0 := by rw [lcp, if_neg he]
      rw [e]
      exact .inr (.inr ⟨x, y, rfl, rfl, he⟩)
/-- How many bytes the i-th entry takes over. -/
def nAt (l : List En) (i : Nat) : Nat :=
  if i % 16 = 0 then 0 else match l[i - 1]?, l[i]? with
    | some p, some x => lcp p.key x.key
    | _, _ => 0
def eEnc (n : Nat) (x : En) : List Int := numEnc n ++ numEnc (x.key.length - n) ++ numEnc (x.seq * 4 + x.kind.toNat) ++ numEnc x.val.length ++ x.key.drop n ++ x.val
def esTo (l : List En) : Nat → List Int
  | 0 => []
  | i + 1 => esTo l i ++ (match l[i]? with | some x => eEnc (nAt l i) x | none => [])
def plTo (l : List En) : Nat → List Nat
  | 0 => []
  | i + 1 => if i % 16 = 0 then plTo l i ++ [(esTo l i).length] else plTo l i
def w4 (x : Nat) : List Int := [((x % 256 : Nat) : Int), ((x / 256 % 256 : Nat) : Int), ((x / 65536 % 256 : Nat) : Int), ((x / 16777216 % 256 : Nat) : Int)]
/-- A block's bytes. -/
def blk (l : List En) : List Int := esTo l l.length ++ (plTo l l.length ++ [(plTo l l.length).length]).flatMap w4
def enLt (a b : En) : Bool := decide (entCmp a.key a.seq b.key b.seq < 0)
/-- Is the i-th entry behind the one ahead? -/
def risAt (l : List En) (i : Nat) : Bool :=
  match l[i]?, l[i + 1]? with
  | some a, some b => enLt a b
  | _, _ => true
def risB (l : List En) : Bool := (List.range (l.length - 1)).all (risAt l)
def enErr : List En → Nat
  | [] => 0
  | x :: l => if enChk x ≠ 0 then enChk x else enErr l
/-- What Append answers. -/
def blkOut (l : List En) : List Int × Nat :=
  if enErr l ≠ 0 then ([], enErr l) else if l = [] ∨ risB l = false then ([], 2) else if 262144 < (blk l).length then ([], 3) else (blk l, 0)

/-- An entry as it lies. -/
structure BE where
  x : En
  A1 : Option Addr
  c1 : Nat
  A2 : Option Addr
  c2 : Nat
def beC (e : BE) : List Value := [.slice e.A1 e.x.key.length e.c1, .int .u64 e.x.seq, .int .i64 e.x.kind, .slice e.A2 e.x.val.length e.c2]
theorem beC_length (e : BE) : (beC e).length = 4 := rfl
abbrev beV (e : BE) : Value := enV e.A1 e.x.key.length e.c1 e.x.seq e.x.kind e.A2 e.x.val.length e.c2
abbrev beA (e : BE) : Array Value := #[.slice e.A1 e.x.key.length e.c1, .int .u64 e.x.seq, .int .i64 e.x.kind, .slice e.A2 e.x.val.length e.c2]
structure BeOk (w : World) (B : Nat) (e : BE) : Prop where
  k : Rb w B e.A1 e.x.key
  v : Rb w B e.A2 e.x.val
  kc : e.x.key.length ≤ e.c1
  vc : e.x.val.length ≤ e.c2
  km : e.x.key.length ≤ maxLen
  vm : e.x.val.length ≤ maxLen
  kb : Byt e.x.key
  vb : Byt e.x.val
  seq : e.x.seq < 18446744073709551616
  kn : e.A1 = none → e.c1 = 0
  vn : e.A2 = none → e.c2 = 0
theorem BeOk.below {w w' : World} {B : Nat} {e : BE} (h : BeOk w B e) (hb : Below B w w') : BeOk w' B e := ⟨Rd.below h.k hb, Rd.below h.v hb, h.kc, h.vc, h.km, h.vm, h.kb, h.vb, h.seq, h.kn, h.vn⟩
theorem BeOk.more {w : World} {B B' : Nat} {e : BE} (h : BeOk w B e) (hb : B ≤ B') : BeOk w B' e := ⟨Rd.more h.k hb, Rd.more h.v hb, h.kc, h.vc, h.km, h.vm, h.kb, h.vb, h.seq, h.kn, h.vn⟩
/-- Entries that lie from A on. -/
structure RbE (w : World) (B : Nat) (A : Option Addr) (l : List BE) : Prop where
  rd : Rd w B A (flatR beC l)
  ok : ∀ e ∈ l, BeOk w B e
section
variable {w w' : World} {B B' : Nat} {A : Option Addr} {l : List BE}
theorem RbE.nil : RbE w B A [] := ⟨Rd.nil, fun _ h => by cases h⟩
theorem RbE.below (h : RbE w B A l) (hb : Below B w w') : RbE w' B A l := ⟨Rd.below h.rd hb, fun e he => (h.ok e he).below hb⟩
theorem RbE.more (h : RbE w B A l) (hB : B ≤ B') : RbE w B' A l := ⟨Rd.more h.rd hB, fun e he => (h.ok e he).more hB⟩
theorem RbE.bS (h : RbE w w.heap.size A l) (hb : Below w.heap.size w w') : RbE w' w'.heap.size A l := (h.below hb).more hb.size
theorem RbE.get (h : RbE w B A l) {i : Nat} {e : BE} (hi : l[i]? = some e) :
    ∃ b o, A = some ⟨b, o, none⟩ ∧ b < B ∧ (∀ j, j < 4 → w.cell? ⟨b, o + (i * 4 + j), none⟩ = (beC e)[j]?) ∧ BeOk w B e := by
  obtain ⟨b, o, hA, hb, hc⟩ := flatR_at beC_length (by omega) h.rd hi
  exact ⟨b, o, hA, hb, hc, h.ok e (List.mem_of_getElem? hi)⟩
end
theorem run_loadVar_cellsE {P : Program} (w : World) (ty : TypeId) (d : TypeDesc) (a : Addr) (xs : List Value) (hu : P.underlying ty = some d) (hd : (match d with | .struct _ | .array _ _ => true | _ => false) = true) (hi : (P.info? ty).map (·.size) = some xs.length)
    (hc : ∀ j v, xs[j]? = some v → w.cell? (a.add j) = some v) : (loadVar ty a).run P w = .ok (.agg xs.toArray) w := by
  have hl := run_loadCells_list (P := P) w a xs hc
  cases hq : P.info? ty with
  | none => simp [hq] at hi
  | some i =>
    have hs : i.size = xs.length := by simpa [hq] using hi
    have hagg : (isAgg ty).run P w = .ok true w := by
      unfold isAgg
      rw [Sem.run_bind, run_underlying hu w]
      cases d <;> simp_all
    simp [loadVar, Sem.run_bind, hagg, sizeOf, typeInfo, hq, hs, hl]
theorem loadK_be {w : World} {b o i : Nat} {e : BE} (h : ∀ j, j < 4 → w.cell? ⟨b, o + (i * 4 + j), none⟩ = (beC e)[j]?) : (loadK 29 ⟨b, o + i * 4, none⟩).run Try.prog w = .ok (beV e) w :=
  run_loadVar_cellsE w _ _ ⟨b, o + i * 4, none⟩ (beC e) Try.underlying29 rfl (by rfl) (fun j v hv => by
    have hj : j < 4 := by have := (List.getElem?_eq_some_iff.1 hv).1; rwa [beC_length] at this
    rw [Addr.add_lit, Nat.add_assoc, h j hj, hv])
theorem loadK_beB {w : World} {g : Nat} {e : BE} (h : Bk w g 29 (beA e)) : (loadK 29 ⟨g, 0, none⟩).run Try.prog w = .ok (beV e) w :=
  run_loadVar_row w g _ _ (beA e) (0, 0) _ h Try.underlying29 rfl (by rfl)
end Go.Proofs.Ytleghbdkjdpilaa
