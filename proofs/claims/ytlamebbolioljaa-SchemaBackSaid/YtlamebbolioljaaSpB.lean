/- Spans: Append. -/
import Derived.Deep.RegionHeld3
import Derived.Test.YtlamebbolioljaaSpA
import Derived.Test.YtlamebbolioljaaSpL
namespace Go.Proofs.Ytlamebbolioljaa
open Go.RowKit

def Sp.U64 (s : Sp) : Prop := s.hi < 18446744073709551616 ∧ s.lo < 18446744073709551616 ∧ s.id < 18446744073709551616 ∧ s.parent < 18446744073709551616
def tgEnc (t : Tg) : List Int := pie t.key ++ pie t.val
def spHead (s : Sp) : List Int := [s.hi, s.lo, s.id, s.parent].flatMap ordEnc ++ (pie s.service ++ pie s.name) ++ [s.kind % 256] ++ (numEnc s.start.toNat ++ numEnc s.length.toNat) ++ [if s.fails = true then 1 else 0] ++ numEnc s.tags.length
def spEnc (s : Sp) : List Int := spHead s ++ s.tags.flatMap tgEnc

/-- append of bytes, at a step of a region that draws its order. -/
theorem step_appb {w : World} {ops : Array Oper} {o : Oper} {a : Act} {K : Act → World → Prop} {Q : Exit → Act → World → Prop} {E : Prop} (hgd : o.guard = none) (s x : Operand)
    (ho : o.op = .call { callee := .builtin .append, args := #[s, x], argTypes := #[27, 27] })
    (base : Nat) (v : Value) (n : Nat) (xs : List Int) (hs : a.eval s = v) (hown : w.ownsRow base 5 1 v n (bv xs))
    (B : Nat) (A : Option Addr) (m c : Nat) (news : List Int) (hx : a.eval x = .slice A m c) (hl : news.length = m) (hr : Rb w B A news)
    (hbytes : n + m ≤ 140737488355328) (hbase : base ≤ w.heap.size)
    (h : ∀ A' c' w', App base 5 1 w v w' (.slice A' (n + m) c') (n + m) (bv (xs ++ news)) → (A' = none → v = .slice none 0 0 ∧ m = 0) → K (a.put o.dst (.slice A' (n + m) c')) w') :
    if Region.wanted o (yielded ops a.tmps) = true then Oper.wp Try.prog o a w K Q else E := by
  have hw : Region.wanted o (yielded ops a.tmps) = true := by simp [Region.wanted, hgd]
  rw [if_pos hw]
  obtain ⟨i0, hi0, hz0, hz1, hz2⟩ := info_parts u8info
  refine wp_app w s x _ ho base 5 i0 _ 1 1 Try.underlying27 hi0 hz0 hz1 hz2 rfl (by omega) v n (bv xs) hs hown B A m c (bv news) hx (by rw [bv_length]; omega) hr (bv_one news) (by simp only [maxLen]; omega) (by omega) hbase ?_
  intro A' c' w' h1 h2 h3 h4
  rw [← bv_append] at h1
  exact h A' c' w' ((App.refl hown).step h1 h2 h3) h4

set_option maxHeartbeats 400000 in
theorem slClone {A : Option Addr} {c B n : Nat} {xs : List Int} (w : World) (ha : Rb w B A xs) (hB : B ≤ w.heap.size) (hx : xs.length ≤ 140737488351232) (hc : A = none → xs = [] ∧ c = 0) (hn : xs.length = n) :
    Calls Try.prog 74 #[.slice A n c] w (RetNew 5 1 w n (bv xs) (fun A' => A' = none → A = none)) := by
  subst hn
  cases A with
  | none =>
    obtain ⟨rfl, rfl⟩ := hc rfl
    go_enter Try.func74, Try.ntmps74
    go_wp2
    go_ret
    exact ⟨none, 0, rfl, App.refl (World.ownsRow_nil _ _ _ _), by simp⟩
  | some a =>
    go_enter Try.func74, Try.ntmps74
    go_wp2_with (at_builtin; go_loud (refine wpList_appb _ rfl (.tmp 5) (.tmp 6) rfl w.heap.size _ 0 [] rfl (World.ownsRow_lit w #[] 0 (Nat.le_refl _) (by simp [maxLen]) rfl) B _ xs.length c xs rfl rfl (ha.alloc hB _) (by omega) (by simp) ?_))
    intro A' c' w' happ hne
    go_wp2
    go_ret
    exact ⟨A', c', rfl, happ.fresh1, fun h => absurd h hne⟩
theorem spTruth (w : World) (b : Bool) : Calls Try.prog 76 #[.bool b] w fun e w' => e = .returned (.int .i64 (if b = true then 1 else 0)) ∧ w' = w := by
  cases b
  · go_enter Try.func76, Try.ntmps76
    go_wp2
    go_ret
    exact ⟨rfl, rfl⟩
  · go_enter Try.func76, Try.ntmps76
    go_wp2
    go_ret
    exact ⟨rfl, rfl⟩

/-- Append hands back bytes of its own. -/
def AppPost (w : World) (zs : List Int) (s : Sp) (e : Ending) (w' : World) : Prop :=
  Below w.heap.size w w' ∧ ((spChk s ≠ 0 ∧ e = .returned (.tuple #[.slice none 0 0, .int .i64 (spChk s)])) ∨
    (spChk s = 0 ∧ ∃ A' c', e = .returned (.tuple #[.slice A' (zs ++ spEnc s).length c', .int .i64 0]) ∧ Rb w' w'.heap.size A' (zs ++ spEnc s) ∧ (zs ++ spEnc s).length ≤ c' ∧ ∀ a, A' = some a → w.heap.size ≤ a.block))
end Go.Proofs.Ytlamebbolioljaa
