/-
  The tools that walks of this seat use.
-/
import Derived.Test.YtibailpbjdfjfaaDoorRows
import Derived.Test.YtibailpbjdfjfaaDoorBase
import Derived.Test.YtibailpbjdfjfaaDoorInts
import Derived.Test.YtibailpbjdfjfaaDoorMixFr
import Derived.Outline
import Derived.Lib.Hide
import Derived.BigRegion
import Derived.Deep.RegionWith
import Derived.Deep.DeepCutAuto
import Derived.WalkSpells
import Derived.WalkLawsBesides
import Derived.Deep.QuietTactic
import Derived.BigQuiet
