/-
  The tables of this seat's program: what the condition 'laid' says of their cells.
-/
import Derived.Test.YtnlacmbmmlmpjaaDoorTab
import Derived.Test.YtnlacmbmmlmpjaaDoorRows
import Derived.Test.YtnlacmbmmlmpjaaDoorBase
namespace Go.Proofs.YtnlacmbmmlmpjaaDoor
open Go.RowKit

def powersOfTwoL : List Int := [1, 2, 4, 8, 3, 6, 12, 11, 5, 10, 7, 14, 15, 13, 9]
def logarithmsL : List Int := [0, 0, 1, 4, 2, 8, 5, 10, 3, 14, 9, 7, 6, 13, 11, 12]
def wordZerosL : List Int := [2, 4, 8, 3]
def wordGeneratorL : List Int := [13, 12, 8, 7]
def dataPlacesL : List Int := [2, 4, 5, 6]
def checkMasksL : List Int := [1, 1, 0, 1, 1, 0, 1, 1, 0, 1, 1, 1]
def trellisNextL : List Int := [0, 2, 0, 2, 1, 3, 1, 3]
def TtrellisNext (w : World) : Prop := TabAt w 1 trellisNextL
theorem TtrellisNext.lt {w : World} (h : TtrellisNext w) : 1 < w.heap.size := TabAt.lt h
theorem TtrellisNext.below {w w' : World} {B : Nat} (h : TtrellisNext w) (hb : Below B w w') (hg : 1 < B) : TtrellisNext w' := TabAt.below h hb hg
theorem TtrellisNext.grown {w w' : World} {row : Option Nat} (h : TtrellisNext w) (hg : w.grownBy w' row) (_ : 1 < w.heap.size) (hr : ∀ k, row = some k → 1 < k) : TtrellisNext w' := TabAt.keep h (hg.block _ (TabAt.lt h) (fun e => by have := hr _ e.symm; omega))
theorem TtrellisNext.drewN {w : World} (h : TtrellisNext w) (q : Nat) : TtrellisNext (w.drewN q) := TabAt.keep h rfl
theorem TtrellisNext.at_ {w : World} (h : TtrellisNext w) (i : Nat) (hi : i < trellisNextL.length) : w.cell? ⟨1, i, none⟩ = some (.int .i64 (trellisNextL.getD i 0)) := TabAt.at_ h i hi
theorem TtrellisNext_of {W : World} {rest : List (String × DataW Unit)} (h : laidMet Tryd.prog (("loop.example/softwareradio/impl.trellisNext", Rows.laid_loop_example_softwareradio_impl_trellisNext) :: rest) W) : TtrellisNext W :=
  tab_of_laid (by kernel_rfl) (show ((Tryd.prog.globals[1]?).map (·.type)) = some 44 by kernel_rfl) (reads_arr Tryd.underlying44 (by kernel_rfl) (reads_arr Tryd.underlying41 (by kernel_rfl) (reads_int Tryd.underlying3))) rfl h
def trellisOutL : List Int := [0, 0, 1, 1, 1, 1, 0, 0, 1, 0, 0, 1, 0, 1, 1, 0]
def TtrellisOut (w : World) : Prop := TabAt w 0 trellisOutL
theorem TtrellisOut.lt {w : World} (h : TtrellisOut w) : 0 < w.heap.size := TabAt.lt h
theorem TtrellisOut.below {w w' : World} {B : Nat} (h : TtrellisOut w) (hb : Below B w w') (hg : 0 < B) : TtrellisOut w' := TabAt.below h hb hg
theorem TtrellisOut.grown {w w' : World} {row : Option Nat} (h : TtrellisOut w) (hg : w.grownBy w' row) (_ : 0 < w.heap.size) (hr : ∀ k, row = some k → 0 < k) : TtrellisOut w' := TabAt.keep h (hg.block _ (TabAt.lt h) (fun e => by have := hr _ e.symm; omega))
theorem TtrellisOut.drewN {w : World} (h : TtrellisOut w) (q : Nat) : TtrellisOut (w.drewN q) := TabAt.keep h rfl
theorem TtrellisOut.at_ {w : World} (h : TtrellisOut w) (i : Nat) (hi : i < trellisOutL.length) : w.cell? ⟨0, i, none⟩ = some (.int .i64 (trellisOutL.getD i 0)) := TabAt.at_ h i hi
theorem TtrellisOut_of {W : World} {rest : List (String × DataW Unit)} (h : laidMet Tryd.prog (("loop.example/softwareradio/impl.trellisOut", Rows.laid_loop_example_softwareradio_impl_trellisOut) :: rest) W) : TtrellisOut W :=
  tab_of_laid (by kernel_rfl) (show ((Tryd.prog.globals[0]?).map (·.type)) = some 43 by kernel_rfl) (reads_arr Tryd.underlying43 (by kernel_rfl) (reads_arr Tryd.underlying42 (by kernel_rfl) (reads_arr Tryd.underlying41 (by kernel_rfl) (reads_int Tryd.underlying3)))) rfl h

end Go.Proofs.YtnlacmbmmlmpjaaDoor
