/- What the functions of the seat compute: all parts. -/
import Derived.Test.YteflilepheeioaaGreatG5p2
