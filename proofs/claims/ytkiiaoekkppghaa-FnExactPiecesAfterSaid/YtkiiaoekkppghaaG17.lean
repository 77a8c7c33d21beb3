/- What the functions of the seat compute: all parts. -/
import Derived.Test.YtkiiaoekkppghaaG17p1
