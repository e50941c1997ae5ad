/- Fresh on both sides, and SameMemory. -/
import Derived.Test.YtimfbnojmdnlnaaGreatKM44
import Derived.Test.YtimfbnojmdnlnaaGreatKSeS
