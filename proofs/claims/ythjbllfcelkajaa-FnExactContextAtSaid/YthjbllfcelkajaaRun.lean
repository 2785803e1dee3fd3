/- All residuals but those of the laws. -/
import Derived.Test.YthjbllfcelkajaaRunA
import Derived.Test.YthjbllfcelkajaaRunB
import Derived.Test.YthjbllfcelkajaaRunC
