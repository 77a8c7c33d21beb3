/- What the functions of the seat compute: all parts. -/
import Derived.Test.YtbpjlmhkoflcgaaG11p1
