/- block.Parse: its memory; bytes.Equal. -/
import Derived.Deep.Cut
import Derived.Test.YtleghbdkjdpilaaBkE
namespace Go.Proofs.Ytleghbdkjdpilaa
open Go.RowKit

theorem strEqQ {s t : ByteArray} : (s.toList == t.toList) = decide (s = t) := by
  by_cases h : s = t
  · subst h; simp
  · rw [decide_eq_false h, beq_eq_false_iff_ne, ByteArray.toList_eq, ByteArray.toList_eq]
    exact fun e => h (ByteArray.ext (Array.ext' e))
theorem strOfNums_eq {a b : List Int} (ha : Byt a) (hb : Byt b) : decide (strOfNums a = strOfNums b) = decide (a = b) := by
  by_cases h : a = b
  · subst h; simp
  · rw [decide_eq_false h, decide_eq_false (fun e => h (by rw [← nums_strOf ha, ← nums_strOf hb, e]))]
theorem blkEqual {A1 A2 : Option Addr} {n1 n2 c1 c2 B1 B2 : Nat} {a b : List Int} (w : World) (ha : Rb w B1 A1 a) (hb : Rb w B2 A2 b) (ba : Byt a) (bb : Byt b) (h1 : a.length = n1) (h2 : b.length = n2) :
    Calls Try.prog 33 #[.slice A1 n1 c1, .slice A2 n2 c2] w fun e w' => e = .returned (.bool (decide (a = b))) ∧ w' = w := by
  subst h1 h2
  have es := Rb.str (P := Try.prog) ha Try.underlying26 Try.underlying5 Try.underlying9 c1
  have et := Rb.str (P := Try.prog) hb Try.underlying26 Try.underlying5 Try.underlying9 c2
  have hd : ((strOfNums a).toList == (strOfNums b).toList) = decide (a = b) := by rw [strEqQ, strOfNums_eq ba bb]
  obtain ⟨q, hq⟩ : ∃ q, decide (a = b) = q := ⟨_, rfl⟩
  rw [hq] at hd ⊢
  clear hq
  go_enter Try.func33, Try.ntmps33
  go_wp2
  go_ret
  exact ⟨by simp [hd], rfl⟩

/-- The entries that Parse reads, k rounds to come. -/
def parGo (zs : List Int) : Nat → Nat → List Int → List En → Bool × List En
  | 0, _, _, acc => (true, acc)
  | k + 1, p, key, acc =>
    if zs.length ≤ p then (true, acc)
    else if (entOf zs p key).ok = false ∨ enChk (entOf zs p key).x ≠ 0 then (false, [])
    else parGo zs k (entOf zs p key).p (entOf zs p key).x.key (acc ++ [(entOf zs p key).x])
def parBody (zs : List Int) : Bool × List En := parGo (zs.take (tailEnd zs)) (zs.length + 1) 0 [] []
/-- What Parse answers. -/
def parOf (zs : List Int) : List En × Nat :=
  if 262144 < zs.length then ([], 3) else if tailOk zs = false then ([], 4) else if (parBody zs).1 = false then ([], 4)
  else if (blkOut (parBody zs).2).2 ≠ 0 ∨ ¬ (blkOut (parBody zs).2).1 = zs then ([], 4) else ((parBody zs).2, 0)
def ParPost (w : World) (r : List En × Nat) (e : Ending) (w' : World) : Prop :=
  ∃ A c acc, ens acc = r.1 ∧ e = .returned (.tuple #[.slice A r.1.length c, .int .i64 r.2]) ∧ RbE w' w'.heap.size A acc ∧ Below w.heap.size w w' ∧ r.1.length ≤ c
theorem ParPost.no {w w' : World} {q : Nat} (hb : Below w.heap.size w w') : ParPost w ([], q) (.returned (.tuple #[.slice none 0 0, .int .i64 q])) w' :=
  ⟨none, 0, [], rfl, rfl, RbE.nil, hb, Nat.le_refl _⟩

/-- Parse's memory: the reader, the row of entries, what they refer to. -/
structure PaM (w0 W : World) (g : Nat) (Ar : Option Addr) (cr : Nat) (zs : List Int) (p lo : Nat) (A : Option Addr) (j c : Nat) (acc : List BE) : Prop where
  rdr : Rdr W g Ar cr zs p 0
  own : W.ownsRow lo 29 4 (.slice A j c) j (flatR beC acc)
  ok : ∀ e ∈ acc, BeOk W W.heap.size e
  f1 : ∀ e ∈ acc, ∀ a, e.A1 = some a → a.block ≠ g ∧ a.block < W.heap.size ∧ (Value.slice A j c).ownBlock ≠ some a.block
  f2 : ∀ e ∈ acc, e.x.val ≠ [] → ∀ a, e.A2 = some a → a.block ≠ g ∧ (Value.slice A j c).ownBlock ≠ some a.block
  bel : Below w0.heap.size w0 W
  ge : w0.heap.size ≤ g
  lt : g < lo
  hlo : lo ≤ W.heap.size
  ar : ∀ a, Ar = some a → a.block < lo
  len : acc.length = j
section
variable {w0 W W' : World} {g cr p p' lo j c : Nat} {Ar A : Option Addr} {zs : List Int} {acc : List BE}
theorem BeOk.beside {e : BE} {row : Option Nat} (h : BeOk W W.heap.size e) (hg : W.grownBy W' row) (h1 : ∀ a, e.A1 = some a → row ≠ some a.block) (h2 : e.x.val ≠ [] → ∀ a, e.A2 = some a → row ≠ some a.block) : BeOk W' W'.heap.size e :=
  ⟨Rb.beside h.k hg (fun _ a ha => h1 a ha), Rb.beside h.v hg h2, h.kc, h.vc, h.km, h.vm, h.kb, h.vb, h.seq, h.kn, h.vn⟩
theorem PaM.fresh (h : PaM w0 W g Ar cr zs p lo A j c acc) {b : Nat} (hb : W.heap.size ≤ b) : b ≠ g ∧ (Value.slice A j c).ownBlock ≠ some b :=
  ⟨by have := h.lt; have := h.hlo; omega, fun e => by have := (h.own.lt b e).2; omega⟩
/-- The reader has gone on. -/
theorem PaM.read (h : PaM w0 W g Ar cr zs p lo A j c acc) (hg : W.grownBy W' (some g)) (hr : Rdr W' g Ar cr zs p' 0) : PaM w0 W' g Ar cr zs p' lo A j c acc := by
  have hs := hg.size
  refine ⟨hr, h.own.kept hg ?_, fun e he => (h.ok e he).beside hg (fun a ha e' => (h.f1 e he a ha).1 (Option.some.inj e').symm) (fun hz a ha e' => (h.f2 e he hz a ha).1 (Option.some.inj e').symm), fun e he a ha => ⟨(h.f1 e he a ha).1, by have := (h.f1 e he a ha).2.1; omega, (h.f1 e he a ha).2.2⟩, h.f2,
    h.bel.trans (grown_below hg h.bel.size (fun b e => by cases e; exact h.ge)), h.ge, h.lt, by have := h.hlo; omega, h.ar, h.len⟩
  cases hv : (Value.slice A j c).ownBlock with
  | none => exact .inl rfl
  | some k => exact .inr fun q => by have := (h.own.lt k hv).1; have := Option.some.inj q; have := h.lt; omega
theorem PaM.below (h : PaM w0 W g Ar cr zs p lo A j c acc) (hb : Below W.heap.size W W') : PaM w0 W' g Ar cr zs p lo A j c acc :=
  h.read ⟨hb.os, hb.tape, hb.output, hb.size, fun k hk _ => hb.block k hk⟩ (h.rdr.below hb)
theorem PaM.rbe (h : PaM w0 W g Ar cr zs p lo A j c acc) : RbE W W.heap.size A acc := ⟨Rd.of_own h.own, h.ok⟩
/-- One entry more. -/
theorem PaM.push (h : PaM w0 W g Ar cr zs p lo A j c acc) {e : BE} {A' : Option Addr} {c' : Nat} (k : App lo 29 4 W (.slice A j c) W' (.slice A' (j + 1) c') (j + 1) (flatR beC acc ++ beC e))
    (ho : BeOk W W.heap.size e) (h1 : ∀ a, e.A1 = some a → a.block ≠ g ∧ a.block < W.heap.size ∧ (Value.slice A j c).ownBlock ≠ some a.block) (h2 : e.x.val ≠ [] → ∀ a, e.A2 = some a → a.block ≠ g ∧ (Value.slice A j c).ownBlock ≠ some a.block) :
    PaM w0 W' g Ar cr zs p lo A' (j + 1) c' (acc ++ [e]) := by
  have hg := k.grown
  have hs := hg.size
  have hlo := h.hlo
  have hlt := h.lt
  have hge := h.ge
  have hrow : ∀ b, (Value.slice A j c).ownBlock = some b → lo ≤ b := fun b e => (h.own.lt b e).1
  have new : ∀ b, b < W.heap.size → (Value.slice A j c).ownBlock ≠ some b → (Value.slice A' (j + 1) c').ownBlock ≠ some b := fun b hb hne e' => by
    rcases k.block with q | ⟨y, q, hy⟩
    · exact hne (q.symm.trans e')
    · rw [q] at e'
      cases e'
      omega
  have all : ∀ x ∈ acc ++ [e], BeOk W W.heap.size x ∧ (∀ a, x.A1 = some a → a.block ≠ g ∧ a.block < W.heap.size ∧ (Value.slice A j c).ownBlock ≠ some a.block) ∧ (x.x.val ≠ [] → ∀ a, x.A2 = some a → a.block ≠ g ∧ (Value.slice A j c).ownBlock ≠ some a.block) := fun x hx => by
    rw [List.mem_append, List.mem_singleton] at hx
    rcases hx with hx | rfl
    · exact ⟨h.ok x hx, h.f1 x hx, h.f2 x hx⟩
    · exact ⟨ho, h1, h2⟩
  refine ⟨h.rdr.keep hg (fun q => by have := hrow g q; omega) (fun a ha q => by have := hrow _ q; have := h.ar a ha; omega), ?_, fun x hx => (all x hx).1.beside hg (fun a ha => ((all x hx).2.1 a ha).2.2) (fun hz a ha => ((all x hx).2.2 hz a ha).2),
    fun x hx a ha => ⟨((all x hx).2.1 a ha).1, by have := ((all x hx).2.1 a ha).2.1; omega, new _ ((all x hx).2.1 a ha).2.1 ((all x hx).2.1 a ha).2.2⟩, fun x hx hz a ha => ⟨((all x hx).2.2 hz a ha).1, new _ ?_ ((all x hx).2.2 hz a ha).2⟩,
    h.bel.trans (grown_below hg h.bel.size (fun b e => by have := hrow b e; omega)), hge, hlt, by omega, h.ar, by simp [h.len]⟩
  · have : flatR beC (acc ++ [e]) = flatR beC acc ++ beC e := by simp [flatR]
    rw [this]
    exact k.own
  · obtain ⟨b, o, e', hb, _⟩ := (all x hx).1.v (by simpa [bv] using hz)
    rw [ha] at e'
    cases e'
    exact hb
end
theorem eninfo : (Try.prog.info? 29).map (fun i => (i.zero, i.size, i.bytes)) = some (some (.agg #[.slice none 0 0, .int .u64 0, .int .i64 0, .slice none 0 0]), 4, 64) := by kernel_rfl
/-- append of one entry. -/
theorem wpList_appE (w : World) {ops : Array Oper} {rest : List Oper} {o : Oper} {a : Act} {Q : Exit → Act → World → Prop} (hgd : o.guard = none) (s x : Operand)
    (ho : o.op = .call { callee := .builtin .append, args := #[s, x], argTypes := #[22, 22] })
    (base : Nat) (v : Value) (n : Nat) (xs : List Value) (hs : a.eval s = v) (hown : w.ownsRow base 29 4 v n xs)
    (B : Nat) (A : Option Addr) (c : Nat) (news : List Value) (hx : a.eval x = .slice A 1 c) (hl : news.length = 4) (hr : Rd w B A news) (h1 : ∀ u ∈ news, u.oneCell' = true)
    (hbytes : n ≤ 1048576) (hbase : base ≤ w.heap.size)
    (h : ∀ A' c' w', App base 29 4 w v w' (.slice A' (n + 1) c') (n + 1) (xs ++ news) → wpList Try.prog ops Q rest (a.put o.dst (.slice A' (n + 1) c')) w') :
    wpList Try.prog ops Q (o :: rest) a w := by
  obtain ⟨i0, hi0, hz0, hz1, hz2⟩ := info_parts eninfo
  refine wpList_app w hgd s x _ ho base 29 i0 _ 4 64 Try.underlying22 hi0 hz0 hz1 hz2 rfl (by omega) v n xs hs hown B A 1 c news hx (by rw [hl]) hr h1 (by simp only [maxLen]; omega) (by omega) hbase ?_
  intro A' c' w' h1 h2 h3 h4
  exact h A' c' w' ((App.refl hown).step h1 h2 h3)
end Go.Proofs.Ytleghbdkjdpilaa
