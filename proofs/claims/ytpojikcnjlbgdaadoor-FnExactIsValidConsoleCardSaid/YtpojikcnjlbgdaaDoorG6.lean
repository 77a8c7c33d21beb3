/- What the functions of the seat compute: all parts. -/
import Derived.Test.YtpojikcnjlbgdaaDoorG6p1
