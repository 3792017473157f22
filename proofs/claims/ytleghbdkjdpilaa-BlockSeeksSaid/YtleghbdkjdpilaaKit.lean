/- The small functions on bytes that this seat has. -/
import Derived.Test.YtleghbdkjdpilaaByt
import Derived.Test.YtleghbdkjdpilaaKitBytes
import Derived.Test.YtleghbdkjdpilaaKitOwn
import Derived.Test.YtleghbdkjdpilaaClone
