/-
  The tables of this seat's program: what the condition 'laid' says of their cells.
-/
import Derived.Test.YtemokfjnbmncbaaDoorTab
import Derived.Test.YtemokfjnbmncbaaDoorRows
import Derived.Test.YtemokfjnbmncbaaDoorBase
namespace Go.Proofs.YtemokfjnbmncbaaDoor
open Go.RowKit

def powersOfTwoL : List Int := [1, 2, 4, 8, 3, 6, 12, 11, 5, 10, 7, 14, 15, 13, 9]
def TpowersOfTwo (w : World) : Prop := TabAt w 2 powersOfTwoL
theorem TpowersOfTwo.lt {w : World} (h : TpowersOfTwo w) : 2 < w.heap.size := TabAt.lt h
theorem TpowersOfTwo.below {w w' : World} {B : Nat} (h : TpowersOfTwo w) (hb : Below B w w') (hg : 2 < B) : TpowersOfTwo w' := TabAt.below h hb hg
theorem TpowersOfTwo.grown {w w' : World} {row : Option Nat} (h : TpowersOfTwo w) (hg : w.grownBy w' row) (_ : 2 < w.heap.size) (hr : ∀ k, row = some k → 2 < k) : TpowersOfTwo w' := TabAt.keep h (hg.block _ (TabAt.lt h) (fun e => by have := hr _ e.symm; omega))
theorem TpowersOfTwo.drewN {w : World} (h : TpowersOfTwo w) (q : Nat) : TpowersOfTwo (w.drewN q) := TabAt.keep h rfl
theorem TpowersOfTwo.at_ {w : World} (h : TpowersOfTwo w) (i : Nat) (hi : i < powersOfTwoL.length) : w.cell? ⟨2, i, none⟩ = some (.int .i64 (powersOfTwoL.getD i 0)) := TabAt.at_ h i hi
theorem TpowersOfTwo_of {W : World} {rest : List (String × DataW Unit)} (h : laidMet Tryd.prog (("loop.example/softwareradio/impl.powersOfTwo", Rows.laid_loop_example_softwareradio_impl_powersOfTwo) :: rest) W) : TpowersOfTwo W :=
  tab_of_laid (by kernel_rfl) (show ((Tryd.prog.globals[2]?).map (·.type)) = some 49 by kernel_rfl) (reads_arr Tryd.underlying49 (by kernel_rfl) (reads_int Tryd.underlying3)) rfl h
def logarithmsL : List Int := [0, 0, 1, 4, 2, 8, 5, 10, 3, 14, 9, 7, 6, 13, 11, 12]
def Tlogarithms (w : World) : Prop := TabAt w 3 logarithmsL
theorem Tlogarithms.lt {w : World} (h : Tlogarithms w) : 3 < w.heap.size := TabAt.lt h
theorem Tlogarithms.below {w w' : World} {B : Nat} (h : Tlogarithms w) (hb : Below B w w') (hg : 3 < B) : Tlogarithms w' := TabAt.below h hb hg
theorem Tlogarithms.grown {w w' : World} {row : Option Nat} (h : Tlogarithms w) (hg : w.grownBy w' row) (_ : 3 < w.heap.size) (hr : ∀ k, row = some k → 3 < k) : Tlogarithms w' := TabAt.keep h (hg.block _ (TabAt.lt h) (fun e => by have := hr _ e.symm; omega))
theorem Tlogarithms.drewN {w : World} (h : Tlogarithms w) (q : Nat) : Tlogarithms (w.drewN q) := TabAt.keep h rfl
theorem Tlogarithms.at_ {w : World} (h : Tlogarithms w) (i : Nat) (hi : i < logarithmsL.length) : w.cell? ⟨3, i, none⟩ = some (.int .i64 (logarithmsL.getD i 0)) := TabAt.at_ h i hi
theorem Tlogarithms_of {W : World} {rest : List (String × DataW Unit)} (h : laidMet Tryd.prog (("loop.example/softwareradio/impl.logarithms", Rows.laid_loop_example_softwareradio_impl_logarithms) :: rest) W) : Tlogarithms W :=
  tab_of_laid (by kernel_rfl) (show ((Tryd.prog.globals[3]?).map (·.type)) = some 50 by kernel_rfl) (reads_arr Tryd.underlying50 (by kernel_rfl) (reads_int Tryd.underlying3)) rfl h
def wordZerosL : List Int := [2, 4, 8, 3]
def TwordZeros (w : World) : Prop := TabAt w 1 wordZerosL
theorem TwordZeros.lt {w : World} (h : TwordZeros w) : 1 < w.heap.size := TabAt.lt h
theorem TwordZeros.below {w w' : World} {B : Nat} (h : TwordZeros w) (hb : Below B w w') (hg : 1 < B) : TwordZeros w' := TabAt.below h hb hg
theorem TwordZeros.grown {w w' : World} {row : Option Nat} (h : TwordZeros w) (hg : w.grownBy w' row) (_ : 1 < w.heap.size) (hr : ∀ k, row = some k → 1 < k) : TwordZeros w' := TabAt.keep h (hg.block _ (TabAt.lt h) (fun e => by have := hr _ e.symm; omega))
theorem TwordZeros.drewN {w : World} (h : TwordZeros w) (q : Nat) : TwordZeros (w.drewN q) := TabAt.keep h rfl
theorem TwordZeros.at_ {w : World} (h : TwordZeros w) (i : Nat) (hi : i < wordZerosL.length) : w.cell? ⟨1, i, none⟩ = some (.int .i64 (wordZerosL.getD i 0)) := TabAt.at_ h i hi
theorem TwordZeros_of {W : World} {rest : List (String × DataW Unit)} (h : laidMet Tryd.prog (("loop.example/softwareradio/impl.wordZeros", Rows.laid_loop_example_softwareradio_impl_wordZeros) :: rest) W) : TwordZeros W :=
  tab_of_laid (by kernel_rfl) (show ((Tryd.prog.globals[1]?).map (·.type)) = some 40 by kernel_rfl) (reads_arr Tryd.underlying40 (by kernel_rfl) (reads_int Tryd.underlying3)) rfl h
def wordGeneratorL : List Int := [13, 12, 8, 7]
def TwordGenerator (w : World) : Prop := TabAt w 0 wordGeneratorL
theorem TwordGenerator.lt {w : World} (h : TwordGenerator w) : 0 < w.heap.size := TabAt.lt h
theorem TwordGenerator.below {w w' : World} {B : Nat} (h : TwordGenerator w) (hb : Below B w w') (hg : 0 < B) : TwordGenerator w' := TabAt.below h hb hg
theorem TwordGenerator.grown {w w' : World} {row : Option Nat} (h : TwordGenerator w) (hg : w.grownBy w' row) (_ : 0 < w.heap.size) (hr : ∀ k, row = some k → 0 < k) : TwordGenerator w' := TabAt.keep h (hg.block _ (TabAt.lt h) (fun e => by have := hr _ e.symm; omega))
theorem TwordGenerator.drewN {w : World} (h : TwordGenerator w) (q : Nat) : TwordGenerator (w.drewN q) := TabAt.keep h rfl
theorem TwordGenerator.at_ {w : World} (h : TwordGenerator w) (i : Nat) (hi : i < wordGeneratorL.length) : w.cell? ⟨0, i, none⟩ = some (.int .i64 (wordGeneratorL.getD i 0)) := TabAt.at_ h i hi
theorem TwordGenerator_of {W : World} {rest : List (String × DataW Unit)} (h : laidMet Tryd.prog (("loop.example/softwareradio/impl.wordGenerator", Rows.laid_loop_example_softwareradio_impl_wordGenerator) :: rest) W) : TwordGenerator W :=
  tab_of_laid (by kernel_rfl) (show ((Tryd.prog.globals[0]?).map (·.type)) = some 40 by kernel_rfl) (reads_arr Tryd.underlying40 (by kernel_rfl) (reads_int Tryd.underlying3)) rfl h
def dataPlacesL : List Int := [2, 4, 5, 6]
def checkMasksL : List Int := [1, 1, 0, 1, 1, 0, 1, 1, 0, 1, 1, 1]
def trellisNextL : List Int := [0, 2, 0, 2, 1, 3, 1, 3]
def trellisOutL : List Int := [0, 0, 1, 1, 1, 1, 0, 0, 1, 0, 0, 1, 0, 1, 1, 0]

end Go.Proofs.YtemokfjnbmncbaaDoor
