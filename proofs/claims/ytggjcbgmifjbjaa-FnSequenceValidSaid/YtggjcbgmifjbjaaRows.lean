/-
  No cell of these rows narrows 'for every input' (looked for: loops, veiled, ifaces, maps, wideKeys, modest, calm, conditions, laid).
  DERIVED. THE GIVEN ROWS OF THIS SEAT. 9 by the template 'for every input the law returns true; each argument reads behind the call as it read before'; 0 by the template 'total and deterministic' (their statements: YtggjcbgmifjbjaaTotals.lean).
  GIVEN WITH THE SEED: the statements are not yours to turn. If you find one false, say at which input.
  Laid BY PROGRAM, IN A SANDBOX (cutbox-rows.mjs): the forced cells as the released guide's own fill.sh prints them over the translation c497d564b5b3894e… (all of the seat's roots in one cut). By AI agents, Wed Nov 11 2026. No macro, syntax, notation, axiom, sorry.
-/
import Derived.Test.YtggjcbgmifjbjaaChecked
import GoSem.Claim
import GoSem.ClaimJoined
import GoSem.ClaimMapViews
import Derived.JoinedTies
import Derived.KernelRfl
namespace Go.Proofs.Ytggjcbgmifjbjaa
/- THE CELL 'sum', in the pinned program and in every row, IS THE sha256 OF THE DUMP (.gsa) THAT YtggjcbgmifjbjaaProg.lean LOADS. Nothing in Lean hashes anything: it is a label: what it is worth is what the hold of that sum in a sandbox is worth. -/
noncomputable def Try.pinned : Pinned := { name := "ytggjcbgmifjbjaa", sum := "c497d564b5b3894e86a203907d5bee735cc0cadb01ca256c4ba01d9b079268a3", checked := Try.checked }
namespace Rows
def none {H : Type} : Left H := { results := [], args := [] }

/-- 'laws.FnExactSequenceValid': WHATEVER THE INPUT: true; the input reads as it did. -/
def fnExactSequenceValidSpec : ChangeSpec := { name := "fnExactSequenceValid", fn := fun _ => fun
  | [d] => { results := [.lit (.bool true)], args := [d] }
  | _ => none }
def fnExactSequenceValidRow : OpenClaim := { program := "ytggjcbgmifjbjaa", sum := "c497d564b5b3894e86a203907d5bee735cc0cadb01ca256c4ba01d9b079268a3", func := "loop.example/softwareradio/laws.FnExactSequenceValid", spec := "fnExactSequenceValid", apart := false }
def FnExactSequenceValidSaid : Prop := fnExactSequenceValidRow.holds Try.pinned (OpenSpec.ofChange fnExactSequenceValidSpec)

/-- ITS FALSE NEIGHBOUR: 'it returns false'. Refute it at one input. -/
def fnExactSequenceValidWrong : ChangeSpec := { name := "fnExactSequenceValid", fn := fun _ => fun
  | [d] => { results := [.lit (.bool false)], args := [d] }
  | _ => none }
def FnExactSequenceValidWrongFalsely : Prop := fnExactSequenceValidRow.holds Try.pinned (OpenSpec.ofChange fnExactSequenceValidWrong)

/-- 'laws.FnExactCorrelateAt': WHATEVER THE INPUT: true; the input reads as it did. -/
def fnExactCorrelateAtSpec : ChangeSpec := { name := "fnExactCorrelateAt", fn := fun _ => fun
  | [d1, d2, d3] => { results := [.lit (.bool true)], args := [d1, d2, d3] }
  | _ => none }
def fnExactCorrelateAtRow : OpenClaim := { program := "ytggjcbgmifjbjaa", sum := "c497d564b5b3894e86a203907d5bee735cc0cadb01ca256c4ba01d9b079268a3", func := "loop.example/softwareradio/laws.FnExactCorrelateAt", spec := "fnExactCorrelateAt", apart := false }
def FnExactCorrelateAtSaid : Prop := fnExactCorrelateAtRow.holds Try.pinned (OpenSpec.ofChange fnExactCorrelateAtSpec)

/-- ITS FALSE NEIGHBOUR: 'it returns false'. Refute it at one input. -/
def fnExactCorrelateAtWrong : ChangeSpec := { name := "fnExactCorrelateAt", fn := fun _ => fun
  | [d1, d2, d3] => { results := [.lit (.bool false)], args := [d1, d2, d3] }
  | _ => none }
def FnExactCorrelateAtWrongFalsely : Prop := fnExactCorrelateAtRow.holds Try.pinned (OpenSpec.ofChange fnExactCorrelateAtWrong)

/-- 'laws.FnExactFindPattern': WHATEVER THE INPUT: true; the input reads as it did. -/
def fnExactFindPatternSpec : ChangeSpec := { name := "fnExactFindPattern", fn := fun _ => fun
  | [d1, d2] => { results := [.lit (.bool true)], args := [d1, d2] }
  | _ => none }
def fnExactFindPatternRow : OpenClaim := { program := "ytggjcbgmifjbjaa", sum := "c497d564b5b3894e86a203907d5bee735cc0cadb01ca256c4ba01d9b079268a3", func := "loop.example/softwareradio/laws.FnExactFindPattern", spec := "fnExactFindPattern", apart := false }
def FnExactFindPatternSaid : Prop := fnExactFindPatternRow.holds Try.pinned (OpenSpec.ofChange fnExactFindPatternSpec)

/-- ITS FALSE NEIGHBOUR: 'it returns false'. Refute it at one input. -/
def fnExactFindPatternWrong : ChangeSpec := { name := "fnExactFindPattern", fn := fun _ => fun
  | [d1, d2] => { results := [.lit (.bool false)], args := [d1, d2] }
  | _ => none }
def FnExactFindPatternWrongFalsely : Prop := fnExactFindPatternRow.holds Try.pinned (OpenSpec.ofChange fnExactFindPatternWrong)

/-- 'laws.FnExactFilterSequence': WHATEVER THE INPUT: true; the input reads as it did. -/
def fnExactFilterSequenceSpec : ChangeSpec := { name := "fnExactFilterSequence", fn := fun _ => fun
  | [d1, d2] => { results := [.lit (.bool true)], args := [d1, d2] }
  | _ => none }
def fnExactFilterSequenceRow : OpenClaim := { program := "ytggjcbgmifjbjaa", sum := "c497d564b5b3894e86a203907d5bee735cc0cadb01ca256c4ba01d9b079268a3", func := "loop.example/softwareradio/laws.FnExactFilterSequence", spec := "fnExactFilterSequence", apart := false }
def FnExactFilterSequenceSaid : Prop := fnExactFilterSequenceRow.holds Try.pinned (OpenSpec.ofChange fnExactFilterSequenceSpec)

/-- ITS FALSE NEIGHBOUR: 'it returns false'. Refute it at one input. -/
def fnExactFilterSequenceWrong : ChangeSpec := { name := "fnExactFilterSequence", fn := fun _ => fun
  | [d1, d2] => { results := [.lit (.bool false)], args := [d1, d2] }
  | _ => none }
def FnExactFilterSequenceWrongFalsely : Prop := fnExactFilterSequenceRow.holds Try.pinned (OpenSpec.ofChange fnExactFilterSequenceWrong)

/-- 'laws.FnExactLowerRate': WHATEVER THE INPUT: true; the input reads as it did. -/
def fnExactLowerRateSpec : ChangeSpec := { name := "fnExactLowerRate", fn := fun _ => fun
  | [d1, d2, d3] => { results := [.lit (.bool true)], args := [d1, d2, d3] }
  | _ => none }
def fnExactLowerRateRow : OpenClaim := { program := "ytggjcbgmifjbjaa", sum := "c497d564b5b3894e86a203907d5bee735cc0cadb01ca256c4ba01d9b079268a3", func := "loop.example/softwareradio/laws.FnExactLowerRate", spec := "fnExactLowerRate", apart := false }
def FnExactLowerRateSaid : Prop := fnExactLowerRateRow.holds Try.pinned (OpenSpec.ofChange fnExactLowerRateSpec)

/-- ITS FALSE NEIGHBOUR: 'it returns false'. Refute it at one input. -/
def fnExactLowerRateWrong : ChangeSpec := { name := "fnExactLowerRate", fn := fun _ => fun
  | [d1, d2, d3] => { results := [.lit (.bool false)], args := [d1, d2, d3] }
  | _ => none }
def FnExactLowerRateWrongFalsely : Prop := fnExactLowerRateRow.holds Try.pinned (OpenSpec.ofChange fnExactLowerRateWrong)

/-- 'laws.FnExactRaiseRate': WHATEVER THE INPUT: true; the input reads as it did. -/
def fnExactRaiseRateSpec : ChangeSpec := { name := "fnExactRaiseRate", fn := fun _ => fun
  | [d1, d2] => { results := [.lit (.bool true)], args := [d1, d2] }
  | _ => none }
def fnExactRaiseRateRow : OpenClaim := { program := "ytggjcbgmifjbjaa", sum := "c497d564b5b3894e86a203907d5bee735cc0cadb01ca256c4ba01d9b079268a3", func := "loop.example/softwareradio/laws.FnExactRaiseRate", spec := "fnExactRaiseRate", apart := false }
def FnExactRaiseRateSaid : Prop := fnExactRaiseRateRow.holds Try.pinned (OpenSpec.ofChange fnExactRaiseRateSpec)

/-- ITS FALSE NEIGHBOUR: 'it returns false'. Refute it at one input. -/
def fnExactRaiseRateWrong : ChangeSpec := { name := "fnExactRaiseRate", fn := fun _ => fun
  | [d1, d2] => { results := [.lit (.bool false)], args := [d1, d2] }
  | _ => none }
def FnExactRaiseRateWrongFalsely : Prop := fnExactRaiseRateRow.holds Try.pinned (OpenSpec.ofChange fnExactRaiseRateWrong)

/-- 'laws.FnExactUndoFilter': WHATEVER THE INPUT: true; the input reads as it did. -/
def fnExactUndoFilterSpec : ChangeSpec := { name := "fnExactUndoFilter", fn := fun _ => fun
  | [d1, d2] => { results := [.lit (.bool true)], args := [d1, d2] }
  | _ => none }
def fnExactUndoFilterRow : OpenClaim := { program := "ytggjcbgmifjbjaa", sum := "c497d564b5b3894e86a203907d5bee735cc0cadb01ca256c4ba01d9b079268a3", func := "loop.example/softwareradio/laws.FnExactUndoFilter", spec := "fnExactUndoFilter", apart := false }
def FnExactUndoFilterSaid : Prop := fnExactUndoFilterRow.holds Try.pinned (OpenSpec.ofChange fnExactUndoFilterSpec)

/-- ITS FALSE NEIGHBOUR: 'it returns false'. Refute it at one input. -/
def fnExactUndoFilterWrong : ChangeSpec := { name := "fnExactUndoFilter", fn := fun _ => fun
  | [d1, d2] => { results := [.lit (.bool false)], args := [d1, d2] }
  | _ => none }
def FnExactUndoFilterWrongFalsely : Prop := fnExactUndoFilterRow.holds Try.pinned (OpenSpec.ofChange fnExactUndoFilterWrong)

/-- 'laws.FnSequenceValid': WHATEVER THE INPUT: true; the input reads as it did. -/
def fnSequenceValidSpec : ChangeSpec := { name := "fnSequenceValid", fn := fun _ => fun
  | [d] => { results := [.lit (.bool true)], args := [d] }
  | _ => none }
def fnSequenceValidRow : OpenClaim := { program := "ytggjcbgmifjbjaa", sum := "c497d564b5b3894e86a203907d5bee735cc0cadb01ca256c4ba01d9b079268a3", func := "loop.example/softwareradio/laws.FnSequenceValid", spec := "fnSequenceValid", apart := false }
def FnSequenceValidSaid : Prop := fnSequenceValidRow.holds Try.pinned (OpenSpec.ofChange fnSequenceValidSpec)

/-- ITS FALSE NEIGHBOUR: 'it returns false'. Refute it at one input. -/
def fnSequenceValidWrong : ChangeSpec := { name := "fnSequenceValid", fn := fun _ => fun
  | [d] => { results := [.lit (.bool false)], args := [d] }
  | _ => none }
def FnSequenceValidWrongFalsely : Prop := fnSequenceValidRow.holds Try.pinned (OpenSpec.ofChange fnSequenceValidWrong)

/-- 'laws.FnFilterDelay': WHATEVER THE INPUT: true; the input reads as it did. -/
def fnFilterDelaySpec : ChangeSpec := { name := "fnFilterDelay", fn := fun _ => fun
  | [d] => { results := [.lit (.bool true)], args := [d] }
  | _ => none }
def fnFilterDelayRow : OpenClaim := { program := "ytggjcbgmifjbjaa", sum := "c497d564b5b3894e86a203907d5bee735cc0cadb01ca256c4ba01d9b079268a3", func := "loop.example/softwareradio/laws.FnFilterDelay", spec := "fnFilterDelay", apart := false }
def FnFilterDelaySaid : Prop := fnFilterDelayRow.holds Try.pinned (OpenSpec.ofChange fnFilterDelaySpec)

/-- ITS FALSE NEIGHBOUR: 'it returns false'. Refute it at one input. -/
def fnFilterDelayWrong : ChangeSpec := { name := "fnFilterDelay", fn := fun _ => fun
  | [d] => { results := [.lit (.bool false)], args := [d] }
  | _ => none }
def FnFilterDelayWrongFalsely : Prop := fnFilterDelayRow.holds Try.pinned (OpenSpec.ofChange fnFilterDelayWrong)

/- THE SECOND FORM. 'bulk': how many values and letters a reading holds, each counted each time it is reached (what is shared counts as often as it is met; a slice's spare places count too). A statement '..UptoSaid' is the law's where the arguments, and the package variables that the reading takes, are together of bulk at most 1048576: NARROWER than '..Said'. Prove '..Said' where nothing that the law and all that it calls make is longer than what came in: it says more and counts as full. Else prove '..UptoSaid'. A law counts once. -/
mutual
def uptoBulk {H : Type} : DataW H → Nat
  | .lit (.string bytes) => bytes.length + 1
  | .lit _ => 1
  | .nil => 1
  | .ptr d => uptoBulk d + 1
  | .slice elems spare => uptoBulkAll elems + uptoBulkAll spare + 1
  | .agg parts => uptoBulkAll parts + 1
  | .iface _ d => uptoBulk d + 1
  | .map entries => uptoBulkEntries entries + 1
  | .held _ => 1
def uptoBulkAll {H : Type} : List (DataW H) → Nat
  | [] => 0
  | d :: r => uptoBulk d + uptoBulkAll r
def uptoBulkEntries {H : Type} : List (Lit × DataW H) → Nat
  | [] => 0
  | x :: r => uptoBulkEntry x + uptoBulkEntries r
def uptoBulkEntry {H : Type} : Lit × DataW H → Nat
  | (.string bytes, d) => bytes.length + uptoBulk d + 1
  | (_, d) => uptoBulk d + 1
 end
def uptoSmall : (H : Type) → List (DataW H) → Bool := fun _ ds => decide (uptoBulkAll ds ≤ 1048576)
def OpenSpec.upto (s : _root_.Go.ChangeSpec) : _root_.Go.OpenSpec := { _root_.Go.OpenSpec.ofChange s with cond := some uptoSmall }

/-- 'laws.FnExactSequenceValid', WHERE WHAT IT READS IS OF BULK AT MOST 1048576: true; the input reads as it did. -/
def fnExactSequenceValidUptoRow : OpenClaim := { program := "ytggjcbgmifjbjaa", sum := "c497d564b5b3894e86a203907d5bee735cc0cadb01ca256c4ba01d9b079268a3", func := "loop.example/softwareradio/laws.FnExactSequenceValid", spec := "fnExactSequenceValid", apart := false, narrowed := true }
def FnExactSequenceValidUptoSaid : Prop := fnExactSequenceValidUptoRow.holds Try.pinned (OpenSpec.upto fnExactSequenceValidSpec)

/-- 'laws.FnExactCorrelateAt', WHERE WHAT IT READS IS OF BULK AT MOST 1048576: true; the input reads as it did. -/
def fnExactCorrelateAtUptoRow : OpenClaim := { program := "ytggjcbgmifjbjaa", sum := "c497d564b5b3894e86a203907d5bee735cc0cadb01ca256c4ba01d9b079268a3", func := "loop.example/softwareradio/laws.FnExactCorrelateAt", spec := "fnExactCorrelateAt", apart := false, narrowed := true }
def FnExactCorrelateAtUptoSaid : Prop := fnExactCorrelateAtUptoRow.holds Try.pinned (OpenSpec.upto fnExactCorrelateAtSpec)

/-- 'laws.FnExactFindPattern', WHERE WHAT IT READS IS OF BULK AT MOST 1048576: true; the input reads as it did. -/
def fnExactFindPatternUptoRow : OpenClaim := { program := "ytggjcbgmifjbjaa", sum := "c497d564b5b3894e86a203907d5bee735cc0cadb01ca256c4ba01d9b079268a3", func := "loop.example/softwareradio/laws.FnExactFindPattern", spec := "fnExactFindPattern", apart := false, narrowed := true }
def FnExactFindPatternUptoSaid : Prop := fnExactFindPatternUptoRow.holds Try.pinned (OpenSpec.upto fnExactFindPatternSpec)

/-- 'laws.FnExactFilterSequence', WHERE WHAT IT READS IS OF BULK AT MOST 1048576: true; the input reads as it did. -/
def fnExactFilterSequenceUptoRow : OpenClaim := { program := "ytggjcbgmifjbjaa", sum := "c497d564b5b3894e86a203907d5bee735cc0cadb01ca256c4ba01d9b079268a3", func := "loop.example/softwareradio/laws.FnExactFilterSequence", spec := "fnExactFilterSequence", apart := false, narrowed := true }
def FnExactFilterSequenceUptoSaid : Prop := fnExactFilterSequenceUptoRow.holds Try.pinned (OpenSpec.upto fnExactFilterSequenceSpec)

/-- 'laws.FnExactLowerRate', WHERE WHAT IT READS IS OF BULK AT MOST 1048576: true; the input reads as it did. -/
def fnExactLowerRateUptoRow : OpenClaim := { program := "ytggjcbgmifjbjaa", sum := "c497d564b5b3894e86a203907d5bee735cc0cadb01ca256c4ba01d9b079268a3", func := "loop.example/softwareradio/laws.FnExactLowerRate", spec := "fnExactLowerRate", apart := false, narrowed := true }
def FnExactLowerRateUptoSaid : Prop := fnExactLowerRateUptoRow.holds Try.pinned (OpenSpec.upto fnExactLowerRateSpec)

/-- 'laws.FnExactRaiseRate', WHERE WHAT IT READS IS OF BULK AT MOST 1048576: true; the input reads as it did. -/
def fnExactRaiseRateUptoRow : OpenClaim := { program := "ytggjcbgmifjbjaa", sum := "c497d564b5b3894e86a203907d5bee735cc0cadb01ca256c4ba01d9b079268a3", func := "loop.example/softwareradio/laws.FnExactRaiseRate", spec := "fnExactRaiseRate", apart := false, narrowed := true }
def FnExactRaiseRateUptoSaid : Prop := fnExactRaiseRateUptoRow.holds Try.pinned (OpenSpec.upto fnExactRaiseRateSpec)

/-- 'laws.FnExactUndoFilter', WHERE WHAT IT READS IS OF BULK AT MOST 1048576: true; the input reads as it did. -/
def fnExactUndoFilterUptoRow : OpenClaim := { program := "ytggjcbgmifjbjaa", sum := "c497d564b5b3894e86a203907d5bee735cc0cadb01ca256c4ba01d9b079268a3", func := "loop.example/softwareradio/laws.FnExactUndoFilter", spec := "fnExactUndoFilter", apart := false, narrowed := true }
def FnExactUndoFilterUptoSaid : Prop := fnExactUndoFilterUptoRow.holds Try.pinned (OpenSpec.upto fnExactUndoFilterSpec)

/-- 'laws.FnSequenceValid', WHERE WHAT IT READS IS OF BULK AT MOST 1048576: true; the input reads as it did. -/
def fnSequenceValidUptoRow : OpenClaim := { program := "ytggjcbgmifjbjaa", sum := "c497d564b5b3894e86a203907d5bee735cc0cadb01ca256c4ba01d9b079268a3", func := "loop.example/softwareradio/laws.FnSequenceValid", spec := "fnSequenceValid", apart := false, narrowed := true }
def FnSequenceValidUptoSaid : Prop := fnSequenceValidUptoRow.holds Try.pinned (OpenSpec.upto fnSequenceValidSpec)

/-- 'laws.FnFilterDelay', WHERE WHAT IT READS IS OF BULK AT MOST 1048576: true; the input reads as it did. -/
def fnFilterDelayUptoRow : OpenClaim := { program := "ytggjcbgmifjbjaa", sum := "c497d564b5b3894e86a203907d5bee735cc0cadb01ca256c4ba01d9b079268a3", func := "loop.example/softwareradio/laws.FnFilterDelay", spec := "fnFilterDelay", apart := false, narrowed := true }
def FnFilterDelayUptoSaid : Prop := fnFilterDelayUptoRow.holds Try.pinned (OpenSpec.upto fnFilterDelaySpec)

end Rows
end Go.Proofs.Ytggjcbgmifjbjaa
