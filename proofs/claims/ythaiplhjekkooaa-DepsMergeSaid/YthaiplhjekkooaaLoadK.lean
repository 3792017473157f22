/- A whole struct loaded: kept shut to the walk's simp, and told by an equation. -/
import Derived.Laws.Rows
import Derived.Laws.Tables
import Derived.Test.YthaiplhjekkooaaProg
import Derived.Test.YthaiplhjekkooaaLib
namespace Go.Proofs.Ythaiplhjekkooaa
open Go.RowKit

def loadK (t : TypeId) (a : Addr) : Sem Value := loadVar t a
theorem loadK_shut (t : TypeId) (a : Addr) : loadVar t a = loadK t a := rfl
end Go.Proofs.Ythaiplhjekkooaa
