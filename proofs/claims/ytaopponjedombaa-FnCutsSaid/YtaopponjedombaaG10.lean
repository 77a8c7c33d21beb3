/- What the functions of the seat compute: all parts. -/
import Derived.Test.YtaopponjedombaaG10p3
