/- The small functions on bytes that this seat has. -/
import Derived.Test.YtpjdlcdkldomlaaByt
import Derived.Test.YtpjdlcdkldomlaaKitBytes
import Derived.Test.YtpjdlcdkldomlaaKitOwn
import Derived.Test.YtpjdlcdkldomlaaClone
import Derived.Test.YtpjdlcdkldomlaaKitBefore
