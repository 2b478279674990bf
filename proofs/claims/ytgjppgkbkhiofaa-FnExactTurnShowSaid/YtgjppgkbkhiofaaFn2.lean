/- The functions, further. -/
import Derived.Test.YtgjppgkbkhiofaaFn
