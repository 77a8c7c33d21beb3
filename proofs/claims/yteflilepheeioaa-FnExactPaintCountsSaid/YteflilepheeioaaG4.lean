/- What the functions of the seat compute: all parts. -/
import Derived.Test.YteflilepheeioaaG4p2
