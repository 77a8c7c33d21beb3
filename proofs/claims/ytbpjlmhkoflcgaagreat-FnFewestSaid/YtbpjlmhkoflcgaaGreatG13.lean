/- What the functions of the seat compute: all parts. -/
import Derived.Test.YtbpjlmhkoflcgaaGreatG13p2
