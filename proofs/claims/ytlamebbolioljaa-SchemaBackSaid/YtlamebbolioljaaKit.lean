/- The small functions on bytes that this seat has. -/
import Derived.Test.YtlamebbolioljaaByt
import Derived.Test.YtlamebbolioljaaClone
