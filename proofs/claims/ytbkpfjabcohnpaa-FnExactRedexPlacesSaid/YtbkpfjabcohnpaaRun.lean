/- All residuals but those of the laws. -/
import Derived.Test.YtbkpfjabcohnpaaRunA
