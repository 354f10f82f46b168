/-
  Comparing, marking and re-reading slices of samples, and the validity of a signal.
-/
import Derived.Test.YtokgonhfmidbeaaSmp
import Derived.Test.YtokgonhfmidbeaaBits
import Derived.StillTailTactics
namespace Go.Proofs.Ytokgonhfmidbeaa
open Go.RowKit






end Go.Proofs.Ytokgonhfmidbeaa
