/- What the functions of the seat compute: all parts. -/
import Derived.Test.YtcamgjgfjpcelaaGreatDoorG15p2
