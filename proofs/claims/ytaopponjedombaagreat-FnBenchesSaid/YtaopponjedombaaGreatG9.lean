/- What the functions of the seat compute: all parts. -/
import Derived.Test.YtaopponjedombaaGreatG9p3
