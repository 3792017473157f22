/- The contract of bootprintkit.Before. -/
import Derived.Test.YtpjdlcdkldomlaaByt
namespace Go.Proofs.Ytpjdlcdkldomlaa
open Go.RowKit

theorem kitBefore {A A' : Option Addr} {c c' B B' n n' : Nat} {xs ys : List Int} (w : World) (ha : Rb w B A xs) (hb : Rb w B' A' ys) (hx : Byt xs) (hy : Byt ys) (hn : xs.length = n) (hn' : ys.length = n') :
    Calls Try.prog 9 #[.slice A n c, .slice A' n' c'] w fun e w' => e = .returned (.bool (ltb xs ys)) ∧ w = w' := by
  subst hn hn'
  have h1 := ha.str Try.underlying22 Try.underlying5 Try.underlying9 c
  have h2 := hb.str Try.underlying22 Try.underlying5 Try.underlying9 c'
  have h3 := ltb_str hx hy
  go_enter Try.func9, Try.ntmps9
  go_wp2
  go_ret
  exact ⟨rfl, rfl⟩
end Go.Proofs.Ytpjdlcdkldomlaa
