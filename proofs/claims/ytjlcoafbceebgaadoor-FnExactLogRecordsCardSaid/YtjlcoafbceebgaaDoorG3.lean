/- What the functions of the seat compute: all parts. -/
import Derived.Test.YtjlcoafbceebgaaDoorG3p1
