/-
  What a law's walk imports where a region draws its order.
-/
import Derived.Test.YtebbljgmliikfaaHelp
import Derived.Deep.RegionWith
import Derived.RegionTactic
import Derived.BigRegion
