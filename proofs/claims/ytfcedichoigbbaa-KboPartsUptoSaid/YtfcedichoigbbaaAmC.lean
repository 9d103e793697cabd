/-
  The code of this seat, all texts. No condition.
-/
import Derived.Test.YtfcedichoigbbaaAmC1
import Derived.Test.YtfcedichoigbbaaAmC2
