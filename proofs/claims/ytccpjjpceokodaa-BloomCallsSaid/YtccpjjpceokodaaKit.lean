/- The small functions on bytes that this seat has. -/
import Derived.Test.YtccpjjpceokodaaByt
import Derived.Test.YtccpjjpceokodaaKitBytes
import Derived.Test.YtccpjjpceokodaaKitOwn
