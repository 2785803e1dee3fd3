/- All residuals but those of the laws. -/
import Derived.Test.YtmioieikbpemoaaRunA
import Derived.Test.YtmioieikbpemoaaRunB
import Derived.Test.YtmioieikbpemoaaRunC
import Derived.Test.YtmioieikbpemoaaRunD
import Derived.Test.YtmioieikbpemoaaRunE
