/- Texts of the proof of VfsNamesSaid, joined: Open0. -/
import Derived.Test.YtdjmmdhjjdnbdaaJVfsNames1
import Derived.Test.YtdjmmdhjjdnbdaaRows
import Derived.ProofKit
import Derived.OpenShut
import Derived.ShutString
import Derived.ChangeOld
/- What comes in: what each statement's row asks. -/
namespace Go.Proofs.Ytdjmmdhjjdnbdaa
open Go.ChangeShapes Go.WideShapes Go.ChangeAt Go.RowKit

theorem ownKnob_none : ownKnob Try.prog.godebug = none := by kernel_rfl
theorem laidOut : laidOutB Try.prog = true := by kernel_rfl

end Go.Proofs.Ytdjmmdhjjdnbdaa
