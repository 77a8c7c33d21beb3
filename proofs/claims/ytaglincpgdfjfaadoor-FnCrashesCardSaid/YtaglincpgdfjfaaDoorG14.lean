/- What the functions of the seat compute: all parts. -/
import Derived.Test.YtaglincpgdfjfaaDoorG14p1
