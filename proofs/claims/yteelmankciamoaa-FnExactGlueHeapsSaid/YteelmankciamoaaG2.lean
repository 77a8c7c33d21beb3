/- What the functions of the seat compute: all parts. -/
import Derived.Test.YteelmankciamoaaG2p3
