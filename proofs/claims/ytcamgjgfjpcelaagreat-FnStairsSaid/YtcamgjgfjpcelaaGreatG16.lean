/- What the functions of the seat compute: all parts. -/
import Derived.Test.YtcamgjgfjpcelaaGreatG16p2
