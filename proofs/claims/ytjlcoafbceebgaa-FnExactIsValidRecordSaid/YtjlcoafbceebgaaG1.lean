/- What the functions of the seat compute: all parts. -/
import Derived.Test.YtjlcoafbceebgaaG1p1
