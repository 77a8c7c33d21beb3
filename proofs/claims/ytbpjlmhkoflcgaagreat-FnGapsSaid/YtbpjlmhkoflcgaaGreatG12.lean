/- What the functions of the seat compute: all parts. -/
import Derived.Test.YtbpjlmhkoflcgaaGreatG12p2
