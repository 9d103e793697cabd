/-
  The code of this seat, all texts. No condition.
-/
import Derived.Test.YtiafeijkifpfaaaAmC1
