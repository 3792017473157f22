/- The contract of bootprintkit.Own. -/
import Derived.Test.YtleghbdkjdpilaaByt
namespace Go.Proofs.Ytleghbdkjdpilaa
open Go.RowKit

set_option maxHeartbeats 400000 in
/-- Own: the same bytes in a row that the call has made. -/
theorem kitOwn {A : Option Addr} {c B n : Nat} {xs : List Int} (w : World) (ha : Rb w B A xs) (hB : B ≤ w.heap.size) (hx : xs.length ≤ 140737488351232) (hn : xs.length = n) :
    Calls Try.prog 18 #[.slice A n c] w (RetNew 5 1 w n (bv xs) (· ≠ none)) := by
  subst hn
  go_enter Try.func18, Try.ntmps18
  go_wp2_with (at_builtin; go_loud (refine wpList_appb _ rfl (.tmp 3) (.tmp 4) rfl w.heap.size _ 0 [] rfl (World.ownsRow_lit w #[] 0 (Nat.le_refl _) (by simp [maxLen]) rfl) B A xs.length c xs rfl rfl (ha.alloc hB _) (by omega) (by simp) ?_))
  intro A' c' w' happ hne
  go_wp2
  go_ret
  exact ⟨A', c', rfl, happ.fresh1, hne⟩
end Go.Proofs.Ytleghbdkjdpilaa
