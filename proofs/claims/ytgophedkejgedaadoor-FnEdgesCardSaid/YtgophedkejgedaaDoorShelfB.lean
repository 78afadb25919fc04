/- No contract of the shelf is needed here. -/
import Derived.Lib.Join
import Derived.Test.YtgophedkejgedaaDoorProg
