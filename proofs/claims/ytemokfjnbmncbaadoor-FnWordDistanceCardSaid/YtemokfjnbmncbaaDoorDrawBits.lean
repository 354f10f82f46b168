/-
  Drawn lists of bits: some list of numbers in range; the reader has gone on.
-/
import Derived.Test.YtemokfjnbmncbaaDoorDrawSeq
namespace Go.Proofs.YtemokfjnbmncbaaDoor
open Go.RowKit


end Go.Proofs.YtemokfjnbmncbaaDoor
