/-
  The tools that walks of this seat use.
-/
import Derived.Test.YtadnbkjjdkgfiaaDoorRows
import Derived.Test.YtadnbkjjdkgfiaaDoorBase
import Derived.Test.YtadnbkjjdkgfiaaDoorInts
import Derived.Test.YtadnbkjjdkgfiaaDoorMixFr
import Derived.Outline
import Derived.Lib.Hide
import Derived.BigRegion
import Derived.Deep.RegionWith
import Derived.Deep.DeepCutAuto
import Derived.WalkSpells
import Derived.WalkLawsBesides
import Derived.Deep.QuietTactic
import Derived.BigQuiet
