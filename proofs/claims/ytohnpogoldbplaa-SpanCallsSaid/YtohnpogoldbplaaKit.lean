/- The small functions on bytes that this seat has. -/
import Derived.Test.YtohnpogoldbplaaByt
import Derived.Test.YtohnpogoldbplaaClone
