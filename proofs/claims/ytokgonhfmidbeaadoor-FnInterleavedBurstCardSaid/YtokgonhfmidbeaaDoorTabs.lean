/-
  The tables of this seat's program: what the condition 'laid' says of their cells.
-/
import Derived.Test.YtokgonhfmidbeaaDoorTab
import Derived.Test.YtokgonhfmidbeaaDoorRows
import Derived.Test.YtokgonhfmidbeaaDoorBase
namespace Go.Proofs.YtokgonhfmidbeaaDoor
open Go.RowKit

def powersOfTwoL : List Int := [1, 2, 4, 8, 3, 6, 12, 11, 5, 10, 7, 14, 15, 13, 9]
def logarithmsL : List Int := [0, 0, 1, 4, 2, 8, 5, 10, 3, 14, 9, 7, 6, 13, 11, 12]
def wordZerosL : List Int := [2, 4, 8, 3]
def wordGeneratorL : List Int := [13, 12, 8, 7]
def dataPlacesL : List Int := [2, 4, 5, 6]
def TdataPlaces (w : World) : Prop := TabAt w 0 dataPlacesL
theorem TdataPlaces.lt {w : World} (h : TdataPlaces w) : 0 < w.heap.size := TabAt.lt h
theorem TdataPlaces.below {w w' : World} {B : Nat} (h : TdataPlaces w) (hb : Below B w w') (hg : 0 < B) : TdataPlaces w' := TabAt.below h hb hg
theorem TdataPlaces.grown {w w' : World} {row : Option Nat} (h : TdataPlaces w) (hg : w.grownBy w' row) (_ : 0 < w.heap.size) (hr : ∀ k, row = some k → 0 < k) : TdataPlaces w' := TabAt.keep h (hg.block _ (TabAt.lt h) (fun e => by have := hr _ e.symm; omega))
theorem TdataPlaces.drewN {w : World} (h : TdataPlaces w) (q : Nat) : TdataPlaces (w.drewN q) := TabAt.keep h rfl
theorem TdataPlaces.at_ {w : World} (h : TdataPlaces w) (i : Nat) (hi : i < dataPlacesL.length) : w.cell? ⟨0, i, none⟩ = some (.int .i64 (dataPlacesL.getD i 0)) := TabAt.at_ h i hi
theorem TdataPlaces_of {W : World} {rest : List (String × DataW Unit)} (h : laidMet Tryd.prog (("loop.example/softwareradio/impl.dataPlaces", Rows.laid_loop_example_softwareradio_impl_dataPlaces) :: rest) W) : TdataPlaces W :=
  tab_of_laid (by kernel_rfl) (show ((Tryd.prog.globals[0]?).map (·.type)) = some 46 by kernel_rfl) (reads_arr Tryd.underlying46 (by kernel_rfl) (reads_int Tryd.underlying3)) rfl h
def checkMasksL : List Int := [1, 1, 0, 1, 1, 0, 1, 1, 0, 1, 1, 1]
def TcheckMasks (w : World) : Prop := TabAt w 1 checkMasksL
theorem TcheckMasks.lt {w : World} (h : TcheckMasks w) : 1 < w.heap.size := TabAt.lt h
theorem TcheckMasks.below {w w' : World} {B : Nat} (h : TcheckMasks w) (hb : Below B w w') (hg : 1 < B) : TcheckMasks w' := TabAt.below h hb hg
theorem TcheckMasks.grown {w w' : World} {row : Option Nat} (h : TcheckMasks w) (hg : w.grownBy w' row) (_ : 1 < w.heap.size) (hr : ∀ k, row = some k → 1 < k) : TcheckMasks w' := TabAt.keep h (hg.block _ (TabAt.lt h) (fun e => by have := hr _ e.symm; omega))
theorem TcheckMasks.drewN {w : World} (h : TcheckMasks w) (q : Nat) : TcheckMasks (w.drewN q) := TabAt.keep h rfl
theorem TcheckMasks.at_ {w : World} (h : TcheckMasks w) (i : Nat) (hi : i < checkMasksL.length) : w.cell? ⟨1, i, none⟩ = some (.int .i64 (checkMasksL.getD i 0)) := TabAt.at_ h i hi
theorem TcheckMasks_of {W : World} {rest : List (String × DataW Unit)} (h : laidMet Tryd.prog (("loop.example/softwareradio/impl.checkMasks", Rows.laid_loop_example_softwareradio_impl_checkMasks) :: rest) W) : TcheckMasks W :=
  tab_of_laid (by kernel_rfl) (show ((Tryd.prog.globals[1]?).map (·.type)) = some 47 by kernel_rfl) (reads_arr Tryd.underlying47 (by kernel_rfl) (reads_arr Tryd.underlying46 (by kernel_rfl) (reads_int Tryd.underlying3))) rfl h
def trellisNextL : List Int := [0, 2, 0, 2, 1, 3, 1, 3]
def trellisOutL : List Int := [0, 0, 1, 1, 1, 1, 0, 0, 1, 0, 0, 1, 0, 1, 1, 0]

end Go.Proofs.YtokgonhfmidbeaaDoor
