/-
  NARROWER THAN 'FOR EVERY INPUT', by the rows' own cells (each row's printed sentence says how): FnExactEncodeWord: laid · FnExactWordSyndromes: laid · FnExactDecodeWord: laid · FnWordOne: laid · FnWordThree: laid · FnDecodeWord: laid · FnWordTurn: laid · FnEncodeWord: laid · FnWordDistance: laid · FnWordSyndromes: laid.
  DERIVED. THE GIVEN ROWS OF THIS SEAT. 10 by the template 'for every input the law returns true; each argument reads behind the call as it read before'; 0 by the template 'total and deterministic' (their statements: YtemokfjnbmncbaaDoorTotals.lean).
  GIVEN WITH THE SEED: the statements are not yours to turn. If you find one false, say at which input.
  Laid BY PROGRAM, IN A SANDBOX (cutbox-rows.mjs): the forced cells as the released guide's own fill.sh prints them over the translation e0bdae6402ab784e… (all of the seat's roots in one cut). By AI agents, Wed Nov 11 2026. No macro, syntax, notation, axiom, sorry.
-/
import Derived.Test.YtemokfjnbmncbaaDoorChecked
import GoSem.Claim
import GoSem.ClaimJoined
import GoSem.ClaimMapViews
import Derived.JoinedTies
import Derived.KernelRfl
namespace Go.Proofs.YtemokfjnbmncbaaDoor
/- THE CELL 'sum', in the pinned program and in every row, IS THE sha256 OF THE DUMP (.gsa) THAT YtemokfjnbmncbaaDoorProg.lean LOADS. Nothing in Lean hashes anything: it is a label: what it is worth is what the hold of that sum in a sandbox is worth. -/
noncomputable def Tryd.pinned : Pinned := { name := "ytemokfjnbmncbaadoor", sum := "e0bdae6402ab784efbc1f3f307748233f06a876f4bdc6361e6669641ab264196", checked := Tryd.checked }
namespace Rows
def none {H : Type} : Left H := { results := [], args := [] }

/- WHAT THE LISTED PACKAGE-LEVEL VARIABLES READ AS WHEN THE CALL BEGINS. Each datum BY PROGRAM (the guide's laid-datum.mjs) off the statement by which the dump's own 'gosem.cut.vars' lays the variable. In a bare row this is a premise. The card (YtemokfjnbmncbaaDoorCards.lean) ties it to the program's text. -/
def laid_loop_example_softwareradio_impl_powersOfTwo {H : Type} : DataW H := .agg [.lit (.int .i64 1), .lit (.int .i64 2), .lit (.int .i64 4), .lit (.int .i64 8), .lit (.int .i64 3), .lit (.int .i64 6), .lit (.int .i64 12), .lit (.int .i64 11), .lit (.int .i64 5), .lit (.int .i64 10), .lit (.int .i64 7), .lit (.int .i64 14), .lit (.int .i64 15), .lit (.int .i64 13), .lit (.int .i64 9)]
def laid_loop_example_softwareradio_impl_logarithms {H : Type} : DataW H := .agg [.lit (.int .i64 0), .lit (.int .i64 0), .lit (.int .i64 1), .lit (.int .i64 4), .lit (.int .i64 2), .lit (.int .i64 8), .lit (.int .i64 5), .lit (.int .i64 10), .lit (.int .i64 3), .lit (.int .i64 14), .lit (.int .i64 9), .lit (.int .i64 7), .lit (.int .i64 6), .lit (.int .i64 13), .lit (.int .i64 11), .lit (.int .i64 12)]
def laid_loop_example_softwareradio_impl_wordGenerator {H : Type} : DataW H := .agg [.lit (.int .i64 13), .lit (.int .i64 12), .lit (.int .i64 8), .lit (.int .i64 7)]
def laid_loop_example_softwareradio_impl_wordZeros {H : Type} : DataW H := .agg [.lit (.int .i64 2), .lit (.int .i64 4), .lit (.int .i64 8), .lit (.int .i64 3)]

/-- 'laws.FnExactEncodeWord': WHATEVER THE INPUT: true; the input reads as it did. -/
def fnExactEncodeWordSpec : ChangeSpec := { name := "fnExactEncodeWord", vars := ["loop.example/softwareradio/impl.wordGenerator", "loop.example/softwareradio/impl.logarithms", "loop.example/softwareradio/impl.powersOfTwo"], fn := fun _ => fun
  | [d, g1, g2, g3] => { results := [.lit (.bool true)], args := [d], vars := [g1, g2, g3] }
  | _ => none }
def fnExactEncodeWordRow : OpenClaim := { program := "ytemokfjnbmncbaadoor", sum := "e0bdae6402ab784efbc1f3f307748233f06a876f4bdc6361e6669641ab264196", func := "loop.example/softwareradio/laws.FnExactEncodeWord", spec := "fnExactEncodeWord", named := ["loop.example/softwareradio/impl.wordGenerator", "loop.example/softwareradio/impl.logarithms", "loop.example/softwareradio/impl.powersOfTwo"], apart := false, laid := [("loop.example/softwareradio/impl.powersOfTwo", laid_loop_example_softwareradio_impl_powersOfTwo), ("loop.example/softwareradio/impl.logarithms", laid_loop_example_softwareradio_impl_logarithms), ("loop.example/softwareradio/impl.wordGenerator", laid_loop_example_softwareradio_impl_wordGenerator)] }
def FnExactEncodeWordSaid : Prop := fnExactEncodeWordRow.holds Tryd.pinned (OpenSpec.ofChange fnExactEncodeWordSpec)

/-- ITS FALSE NEIGHBOUR: 'it returns false'. Refute it at one input. -/
def fnExactEncodeWordWrong : ChangeSpec := { name := "fnExactEncodeWord", vars := ["loop.example/softwareradio/impl.wordGenerator", "loop.example/softwareradio/impl.logarithms", "loop.example/softwareradio/impl.powersOfTwo"], fn := fun _ => fun
  | [d, g1, g2, g3] => { results := [.lit (.bool false)], args := [d], vars := [g1, g2, g3] }
  | _ => none }
def FnExactEncodeWordWrongFalsely : Prop := fnExactEncodeWordRow.holds Tryd.pinned (OpenSpec.ofChange fnExactEncodeWordWrong)

/-- 'laws.FnExactWordSyndromes': WHATEVER THE INPUT: true; the input reads as it did. -/
def fnExactWordSyndromesSpec : ChangeSpec := { name := "fnExactWordSyndromes", vars := ["loop.example/softwareradio/impl.wordZeros", "loop.example/softwareradio/impl.logarithms", "loop.example/softwareradio/impl.powersOfTwo"], fn := fun _ => fun
  | [d, g1, g2, g3] => { results := [.lit (.bool true)], args := [d], vars := [g1, g2, g3] }
  | _ => none }
def fnExactWordSyndromesRow : OpenClaim := { program := "ytemokfjnbmncbaadoor", sum := "e0bdae6402ab784efbc1f3f307748233f06a876f4bdc6361e6669641ab264196", func := "loop.example/softwareradio/laws.FnExactWordSyndromes", spec := "fnExactWordSyndromes", named := ["loop.example/softwareradio/impl.wordZeros", "loop.example/softwareradio/impl.logarithms", "loop.example/softwareradio/impl.powersOfTwo"], apart := false, laid := [("loop.example/softwareradio/impl.powersOfTwo", laid_loop_example_softwareradio_impl_powersOfTwo), ("loop.example/softwareradio/impl.logarithms", laid_loop_example_softwareradio_impl_logarithms), ("loop.example/softwareradio/impl.wordZeros", laid_loop_example_softwareradio_impl_wordZeros)] }
def FnExactWordSyndromesSaid : Prop := fnExactWordSyndromesRow.holds Tryd.pinned (OpenSpec.ofChange fnExactWordSyndromesSpec)

/-- ITS FALSE NEIGHBOUR: 'it returns false'. Refute it at one input. -/
def fnExactWordSyndromesWrong : ChangeSpec := { name := "fnExactWordSyndromes", vars := ["loop.example/softwareradio/impl.wordZeros", "loop.example/softwareradio/impl.logarithms", "loop.example/softwareradio/impl.powersOfTwo"], fn := fun _ => fun
  | [d, g1, g2, g3] => { results := [.lit (.bool false)], args := [d], vars := [g1, g2, g3] }
  | _ => none }
def FnExactWordSyndromesWrongFalsely : Prop := fnExactWordSyndromesRow.holds Tryd.pinned (OpenSpec.ofChange fnExactWordSyndromesWrong)

/-- 'laws.FnExactDecodeWord': WHATEVER THE INPUT: true; the input reads as it did. -/
def fnExactDecodeWordSpec : ChangeSpec := { name := "fnExactDecodeWord", vars := ["loop.example/softwareradio/impl.wordZeros", "loop.example/softwareradio/impl.logarithms", "loop.example/softwareradio/impl.powersOfTwo"], fn := fun _ => fun
  | [d, g1, g2, g3] => { results := [.lit (.bool true)], args := [d], vars := [g1, g2, g3] }
  | _ => none }
def fnExactDecodeWordRow : OpenClaim := { program := "ytemokfjnbmncbaadoor", sum := "e0bdae6402ab784efbc1f3f307748233f06a876f4bdc6361e6669641ab264196", func := "loop.example/softwareradio/laws.FnExactDecodeWord", spec := "fnExactDecodeWord", named := ["loop.example/softwareradio/impl.wordZeros", "loop.example/softwareradio/impl.logarithms", "loop.example/softwareradio/impl.powersOfTwo"], apart := false, laid := [("loop.example/softwareradio/impl.powersOfTwo", laid_loop_example_softwareradio_impl_powersOfTwo), ("loop.example/softwareradio/impl.logarithms", laid_loop_example_softwareradio_impl_logarithms), ("loop.example/softwareradio/impl.wordZeros", laid_loop_example_softwareradio_impl_wordZeros)] }
def FnExactDecodeWordSaid : Prop := fnExactDecodeWordRow.holds Tryd.pinned (OpenSpec.ofChange fnExactDecodeWordSpec)

/-- ITS FALSE NEIGHBOUR: 'it returns false'. Refute it at one input. -/
def fnExactDecodeWordWrong : ChangeSpec := { name := "fnExactDecodeWord", vars := ["loop.example/softwareradio/impl.wordZeros", "loop.example/softwareradio/impl.logarithms", "loop.example/softwareradio/impl.powersOfTwo"], fn := fun _ => fun
  | [d, g1, g2, g3] => { results := [.lit (.bool false)], args := [d], vars := [g1, g2, g3] }
  | _ => none }
def FnExactDecodeWordWrongFalsely : Prop := fnExactDecodeWordRow.holds Tryd.pinned (OpenSpec.ofChange fnExactDecodeWordWrong)

/-- 'laws.FnWordOne': WHATEVER THE INPUT: true; the input reads as it did. -/
def fnWordOneSpec : ChangeSpec := { name := "fnWordOne", vars := ["loop.example/softwareradio/impl.wordGenerator", "loop.example/softwareradio/impl.logarithms", "loop.example/softwareradio/impl.powersOfTwo", "loop.example/softwareradio/impl.wordZeros"], fn := fun _ => fun
  | [d1, d2, g1, g2, g3, g4] => { results := [.lit (.bool true)], args := [d1, d2], vars := [g1, g2, g3, g4] }
  | _ => none }
def fnWordOneRow : OpenClaim := { program := "ytemokfjnbmncbaadoor", sum := "e0bdae6402ab784efbc1f3f307748233f06a876f4bdc6361e6669641ab264196", func := "loop.example/softwareradio/laws.FnWordOne", spec := "fnWordOne", named := ["loop.example/softwareradio/impl.wordGenerator", "loop.example/softwareradio/impl.logarithms", "loop.example/softwareradio/impl.powersOfTwo", "loop.example/softwareradio/impl.wordZeros"], apart := false, laid := [("loop.example/softwareradio/impl.powersOfTwo", laid_loop_example_softwareradio_impl_powersOfTwo), ("loop.example/softwareradio/impl.logarithms", laid_loop_example_softwareradio_impl_logarithms), ("loop.example/softwareradio/impl.wordZeros", laid_loop_example_softwareradio_impl_wordZeros), ("loop.example/softwareradio/impl.wordGenerator", laid_loop_example_softwareradio_impl_wordGenerator)] }
def FnWordOneSaid : Prop := fnWordOneRow.holds Tryd.pinned (OpenSpec.ofChange fnWordOneSpec)

/-- ITS FALSE NEIGHBOUR: 'it returns false'. Refute it at one input. -/
def fnWordOneWrong : ChangeSpec := { name := "fnWordOne", vars := ["loop.example/softwareradio/impl.wordGenerator", "loop.example/softwareradio/impl.logarithms", "loop.example/softwareradio/impl.powersOfTwo", "loop.example/softwareradio/impl.wordZeros"], fn := fun _ => fun
  | [d1, d2, g1, g2, g3, g4] => { results := [.lit (.bool false)], args := [d1, d2], vars := [g1, g2, g3, g4] }
  | _ => none }
def FnWordOneWrongFalsely : Prop := fnWordOneRow.holds Tryd.pinned (OpenSpec.ofChange fnWordOneWrong)

/-- 'laws.FnWordThree': WHATEVER THE INPUT: true; the input reads as it did. -/
def fnWordThreeSpec : ChangeSpec := { name := "fnWordThree", vars := ["loop.example/softwareradio/impl.wordGenerator", "loop.example/softwareradio/impl.logarithms", "loop.example/softwareradio/impl.powersOfTwo", "loop.example/softwareradio/impl.wordZeros"], fn := fun _ => fun
  | [d, g1, g2, g3, g4] => { results := [.lit (.bool true)], args := [d], vars := [g1, g2, g3, g4] }
  | _ => none }
def fnWordThreeRow : OpenClaim := { program := "ytemokfjnbmncbaadoor", sum := "e0bdae6402ab784efbc1f3f307748233f06a876f4bdc6361e6669641ab264196", func := "loop.example/softwareradio/laws.FnWordThree", spec := "fnWordThree", named := ["loop.example/softwareradio/impl.wordGenerator", "loop.example/softwareradio/impl.logarithms", "loop.example/softwareradio/impl.powersOfTwo", "loop.example/softwareradio/impl.wordZeros"], apart := false, laid := [("loop.example/softwareradio/impl.powersOfTwo", laid_loop_example_softwareradio_impl_powersOfTwo), ("loop.example/softwareradio/impl.logarithms", laid_loop_example_softwareradio_impl_logarithms), ("loop.example/softwareradio/impl.wordZeros", laid_loop_example_softwareradio_impl_wordZeros), ("loop.example/softwareradio/impl.wordGenerator", laid_loop_example_softwareradio_impl_wordGenerator)] }
def FnWordThreeSaid : Prop := fnWordThreeRow.holds Tryd.pinned (OpenSpec.ofChange fnWordThreeSpec)

/-- ITS FALSE NEIGHBOUR: 'it returns false'. Refute it at one input. -/
def fnWordThreeWrong : ChangeSpec := { name := "fnWordThree", vars := ["loop.example/softwareradio/impl.wordGenerator", "loop.example/softwareradio/impl.logarithms", "loop.example/softwareradio/impl.powersOfTwo", "loop.example/softwareradio/impl.wordZeros"], fn := fun _ => fun
  | [d, g1, g2, g3, g4] => { results := [.lit (.bool false)], args := [d], vars := [g1, g2, g3, g4] }
  | _ => none }
def FnWordThreeWrongFalsely : Prop := fnWordThreeRow.holds Tryd.pinned (OpenSpec.ofChange fnWordThreeWrong)

/-- 'laws.FnDecodeWord': WHATEVER THE INPUT: true; the input reads as it did. -/
def fnDecodeWordSpec : ChangeSpec := { name := "fnDecodeWord", vars := ["loop.example/softwareradio/impl.wordZeros", "loop.example/softwareradio/impl.logarithms", "loop.example/softwareradio/impl.powersOfTwo"], fn := fun _ => fun
  | [d1, d2, g1, g2, g3] => { results := [.lit (.bool true)], args := [d1, d2], vars := [g1, g2, g3] }
  | _ => none }
def fnDecodeWordRow : OpenClaim := { program := "ytemokfjnbmncbaadoor", sum := "e0bdae6402ab784efbc1f3f307748233f06a876f4bdc6361e6669641ab264196", func := "loop.example/softwareradio/laws.FnDecodeWord", spec := "fnDecodeWord", named := ["loop.example/softwareradio/impl.wordZeros", "loop.example/softwareradio/impl.logarithms", "loop.example/softwareradio/impl.powersOfTwo"], apart := false, laid := [("loop.example/softwareradio/impl.powersOfTwo", laid_loop_example_softwareradio_impl_powersOfTwo), ("loop.example/softwareradio/impl.logarithms", laid_loop_example_softwareradio_impl_logarithms), ("loop.example/softwareradio/impl.wordZeros", laid_loop_example_softwareradio_impl_wordZeros)] }
def FnDecodeWordSaid : Prop := fnDecodeWordRow.holds Tryd.pinned (OpenSpec.ofChange fnDecodeWordSpec)

/-- ITS FALSE NEIGHBOUR: 'it returns false'. Refute it at one input. -/
def fnDecodeWordWrong : ChangeSpec := { name := "fnDecodeWord", vars := ["loop.example/softwareradio/impl.wordZeros", "loop.example/softwareradio/impl.logarithms", "loop.example/softwareradio/impl.powersOfTwo"], fn := fun _ => fun
  | [d1, d2, g1, g2, g3] => { results := [.lit (.bool false)], args := [d1, d2], vars := [g1, g2, g3] }
  | _ => none }
def FnDecodeWordWrongFalsely : Prop := fnDecodeWordRow.holds Tryd.pinned (OpenSpec.ofChange fnDecodeWordWrong)

/-- 'laws.FnWordTurn': WHATEVER THE INPUT: true; the input reads as it did. -/
def fnWordTurnSpec : ChangeSpec := { name := "fnWordTurn", vars := ["loop.example/softwareradio/impl.wordGenerator", "loop.example/softwareradio/impl.logarithms", "loop.example/softwareradio/impl.powersOfTwo", "loop.example/softwareradio/impl.wordZeros"], fn := fun _ => fun
  | [d, g1, g2, g3, g4] => { results := [.lit (.bool true)], args := [d], vars := [g1, g2, g3, g4] }
  | _ => none }
def fnWordTurnRow : OpenClaim := { program := "ytemokfjnbmncbaadoor", sum := "e0bdae6402ab784efbc1f3f307748233f06a876f4bdc6361e6669641ab264196", func := "loop.example/softwareradio/laws.FnWordTurn", spec := "fnWordTurn", named := ["loop.example/softwareradio/impl.wordGenerator", "loop.example/softwareradio/impl.logarithms", "loop.example/softwareradio/impl.powersOfTwo", "loop.example/softwareradio/impl.wordZeros"], apart := false, laid := [("loop.example/softwareradio/impl.powersOfTwo", laid_loop_example_softwareradio_impl_powersOfTwo), ("loop.example/softwareradio/impl.logarithms", laid_loop_example_softwareradio_impl_logarithms), ("loop.example/softwareradio/impl.wordZeros", laid_loop_example_softwareradio_impl_wordZeros), ("loop.example/softwareradio/impl.wordGenerator", laid_loop_example_softwareradio_impl_wordGenerator)] }
def FnWordTurnSaid : Prop := fnWordTurnRow.holds Tryd.pinned (OpenSpec.ofChange fnWordTurnSpec)

/-- ITS FALSE NEIGHBOUR: 'it returns false'. Refute it at one input. -/
def fnWordTurnWrong : ChangeSpec := { name := "fnWordTurn", vars := ["loop.example/softwareradio/impl.wordGenerator", "loop.example/softwareradio/impl.logarithms", "loop.example/softwareradio/impl.powersOfTwo", "loop.example/softwareradio/impl.wordZeros"], fn := fun _ => fun
  | [d, g1, g2, g3, g4] => { results := [.lit (.bool false)], args := [d], vars := [g1, g2, g3, g4] }
  | _ => none }
def FnWordTurnWrongFalsely : Prop := fnWordTurnRow.holds Tryd.pinned (OpenSpec.ofChange fnWordTurnWrong)

/-- 'laws.FnEncodeWord': WHATEVER THE INPUT: true; the input reads as it did. -/
def fnEncodeWordSpec : ChangeSpec := { name := "fnEncodeWord", vars := ["loop.example/softwareradio/impl.wordGenerator", "loop.example/softwareradio/impl.logarithms", "loop.example/softwareradio/impl.powersOfTwo", "loop.example/softwareradio/impl.wordZeros"], fn := fun _ => fun
  | [d, g1, g2, g3, g4] => { results := [.lit (.bool true)], args := [d], vars := [g1, g2, g3, g4] }
  | _ => none }
def fnEncodeWordRow : OpenClaim := { program := "ytemokfjnbmncbaadoor", sum := "e0bdae6402ab784efbc1f3f307748233f06a876f4bdc6361e6669641ab264196", func := "loop.example/softwareradio/laws.FnEncodeWord", spec := "fnEncodeWord", named := ["loop.example/softwareradio/impl.wordGenerator", "loop.example/softwareradio/impl.logarithms", "loop.example/softwareradio/impl.powersOfTwo", "loop.example/softwareradio/impl.wordZeros"], apart := false, laid := [("loop.example/softwareradio/impl.powersOfTwo", laid_loop_example_softwareradio_impl_powersOfTwo), ("loop.example/softwareradio/impl.logarithms", laid_loop_example_softwareradio_impl_logarithms), ("loop.example/softwareradio/impl.wordZeros", laid_loop_example_softwareradio_impl_wordZeros), ("loop.example/softwareradio/impl.wordGenerator", laid_loop_example_softwareradio_impl_wordGenerator)] }
def FnEncodeWordSaid : Prop := fnEncodeWordRow.holds Tryd.pinned (OpenSpec.ofChange fnEncodeWordSpec)

/-- ITS FALSE NEIGHBOUR: 'it returns false'. Refute it at one input. -/
def fnEncodeWordWrong : ChangeSpec := { name := "fnEncodeWord", vars := ["loop.example/softwareradio/impl.wordGenerator", "loop.example/softwareradio/impl.logarithms", "loop.example/softwareradio/impl.powersOfTwo", "loop.example/softwareradio/impl.wordZeros"], fn := fun _ => fun
  | [d, g1, g2, g3, g4] => { results := [.lit (.bool false)], args := [d], vars := [g1, g2, g3, g4] }
  | _ => none }
def FnEncodeWordWrongFalsely : Prop := fnEncodeWordRow.holds Tryd.pinned (OpenSpec.ofChange fnEncodeWordWrong)

/-- 'laws.FnWordDistance': WHATEVER THE INPUT: true; the input reads as it did. -/
def fnWordDistanceSpec : ChangeSpec := { name := "fnWordDistance", vars := ["loop.example/softwareradio/impl.wordGenerator", "loop.example/softwareradio/impl.logarithms", "loop.example/softwareradio/impl.powersOfTwo"], fn := fun _ => fun
  | [d, g1, g2, g3] => { results := [.lit (.bool true)], args := [d], vars := [g1, g2, g3] }
  | _ => none }
def fnWordDistanceRow : OpenClaim := { program := "ytemokfjnbmncbaadoor", sum := "e0bdae6402ab784efbc1f3f307748233f06a876f4bdc6361e6669641ab264196", func := "loop.example/softwareradio/laws.FnWordDistance", spec := "fnWordDistance", named := ["loop.example/softwareradio/impl.wordGenerator", "loop.example/softwareradio/impl.logarithms", "loop.example/softwareradio/impl.powersOfTwo"], apart := false, laid := [("loop.example/softwareradio/impl.powersOfTwo", laid_loop_example_softwareradio_impl_powersOfTwo), ("loop.example/softwareradio/impl.logarithms", laid_loop_example_softwareradio_impl_logarithms), ("loop.example/softwareradio/impl.wordGenerator", laid_loop_example_softwareradio_impl_wordGenerator)] }
def FnWordDistanceSaid : Prop := fnWordDistanceRow.holds Tryd.pinned (OpenSpec.ofChange fnWordDistanceSpec)

/-- ITS FALSE NEIGHBOUR: 'it returns false'. Refute it at one input. -/
def fnWordDistanceWrong : ChangeSpec := { name := "fnWordDistance", vars := ["loop.example/softwareradio/impl.wordGenerator", "loop.example/softwareradio/impl.logarithms", "loop.example/softwareradio/impl.powersOfTwo"], fn := fun _ => fun
  | [d, g1, g2, g3] => { results := [.lit (.bool false)], args := [d], vars := [g1, g2, g3] }
  | _ => none }
def FnWordDistanceWrongFalsely : Prop := fnWordDistanceRow.holds Tryd.pinned (OpenSpec.ofChange fnWordDistanceWrong)

/-- 'laws.FnWordSyndromes': WHATEVER THE INPUT: true; the input reads as it did. -/
def fnWordSyndromesSpec : ChangeSpec := { name := "fnWordSyndromes", vars := ["loop.example/softwareradio/impl.wordZeros", "loop.example/softwareradio/impl.logarithms", "loop.example/softwareradio/impl.powersOfTwo", "loop.example/softwareradio/impl.wordGenerator"], fn := fun _ => fun
  | [d, g1, g2, g3, g4] => { results := [.lit (.bool true)], args := [d], vars := [g1, g2, g3, g4] }
  | _ => none }
def fnWordSyndromesRow : OpenClaim := { program := "ytemokfjnbmncbaadoor", sum := "e0bdae6402ab784efbc1f3f307748233f06a876f4bdc6361e6669641ab264196", func := "loop.example/softwareradio/laws.FnWordSyndromes", spec := "fnWordSyndromes", named := ["loop.example/softwareradio/impl.wordZeros", "loop.example/softwareradio/impl.logarithms", "loop.example/softwareradio/impl.powersOfTwo", "loop.example/softwareradio/impl.wordGenerator"], apart := false, laid := [("loop.example/softwareradio/impl.powersOfTwo", laid_loop_example_softwareradio_impl_powersOfTwo), ("loop.example/softwareradio/impl.logarithms", laid_loop_example_softwareradio_impl_logarithms), ("loop.example/softwareradio/impl.wordZeros", laid_loop_example_softwareradio_impl_wordZeros), ("loop.example/softwareradio/impl.wordGenerator", laid_loop_example_softwareradio_impl_wordGenerator)] }
def FnWordSyndromesSaid : Prop := fnWordSyndromesRow.holds Tryd.pinned (OpenSpec.ofChange fnWordSyndromesSpec)

/-- ITS FALSE NEIGHBOUR: 'it returns false'. Refute it at one input. -/
def fnWordSyndromesWrong : ChangeSpec := { name := "fnWordSyndromes", vars := ["loop.example/softwareradio/impl.wordZeros", "loop.example/softwareradio/impl.logarithms", "loop.example/softwareradio/impl.powersOfTwo", "loop.example/softwareradio/impl.wordGenerator"], fn := fun _ => fun
  | [d, g1, g2, g3, g4] => { results := [.lit (.bool false)], args := [d], vars := [g1, g2, g3, g4] }
  | _ => none }
def FnWordSyndromesWrongFalsely : Prop := fnWordSyndromesRow.holds Tryd.pinned (OpenSpec.ofChange fnWordSyndromesWrong)

/- THE SECOND FORM. 'bulk': how many values and letters a reading holds, each counted each time it is reached (what is shared counts as often as it is met; a slice's spare places count too). A statement '..UptoSaid' is the law's where the arguments, and the package variables that the reading takes, are together of bulk at most 1048576: NARROWER than '..Said'. Prove '..Said' where nothing that the law and all that it calls make is longer than what came in: it says more and counts as full. Else prove '..UptoSaid'. A law counts once. -/
mutual
def uptoBulk {H : Type} : DataW H → Nat
  | .lit (.string bytes) => bytes.length + 1
  | .lit _ => 1
  | .nil => 1
  | .ptr d => uptoBulk d + 1
  | .slice elems spare => uptoBulkAll elems + uptoBulkAll spare + 1
  | .agg parts => uptoBulkAll parts + 1
  | .iface _ d => uptoBulk d + 1
  | .map entries => uptoBulkEntries entries + 1
  | .held _ => 1
def uptoBulkAll {H : Type} : List (DataW H) → Nat
  | [] => 0
  | d :: r => uptoBulk d + uptoBulkAll r
def uptoBulkEntries {H : Type} : List (Lit × DataW H) → Nat
  | [] => 0
  | x :: r => uptoBulkEntry x + uptoBulkEntries r
def uptoBulkEntry {H : Type} : Lit × DataW H → Nat
  | (.string bytes, d) => bytes.length + uptoBulk d + 1
  | (_, d) => uptoBulk d + 1
 end
def uptoSmall : (H : Type) → List (DataW H) → Bool := fun _ ds => decide (uptoBulkAll ds ≤ 1048576)
def OpenSpec.upto (s : _root_.Go.ChangeSpec) : _root_.Go.OpenSpec := { _root_.Go.OpenSpec.ofChange s with cond := some uptoSmall }

/-- 'laws.FnExactEncodeWord', WHERE WHAT IT READS IS OF BULK AT MOST 1048576: true; the input reads as it did. -/
def fnExactEncodeWordUptoRow : OpenClaim := { program := "ytemokfjnbmncbaadoor", sum := "e0bdae6402ab784efbc1f3f307748233f06a876f4bdc6361e6669641ab264196", func := "loop.example/softwareradio/laws.FnExactEncodeWord", spec := "fnExactEncodeWord", named := ["loop.example/softwareradio/impl.wordGenerator", "loop.example/softwareradio/impl.logarithms", "loop.example/softwareradio/impl.powersOfTwo"], apart := false, laid := [("loop.example/softwareradio/impl.powersOfTwo", laid_loop_example_softwareradio_impl_powersOfTwo), ("loop.example/softwareradio/impl.logarithms", laid_loop_example_softwareradio_impl_logarithms), ("loop.example/softwareradio/impl.wordGenerator", laid_loop_example_softwareradio_impl_wordGenerator)], narrowed := true }
def FnExactEncodeWordUptoSaid : Prop := fnExactEncodeWordUptoRow.holds Tryd.pinned (OpenSpec.upto fnExactEncodeWordSpec)

/-- 'laws.FnExactWordSyndromes', WHERE WHAT IT READS IS OF BULK AT MOST 1048576: true; the input reads as it did. -/
def fnExactWordSyndromesUptoRow : OpenClaim := { program := "ytemokfjnbmncbaadoor", sum := "e0bdae6402ab784efbc1f3f307748233f06a876f4bdc6361e6669641ab264196", func := "loop.example/softwareradio/laws.FnExactWordSyndromes", spec := "fnExactWordSyndromes", named := ["loop.example/softwareradio/impl.wordZeros", "loop.example/softwareradio/impl.logarithms", "loop.example/softwareradio/impl.powersOfTwo"], apart := false, laid := [("loop.example/softwareradio/impl.powersOfTwo", laid_loop_example_softwareradio_impl_powersOfTwo), ("loop.example/softwareradio/impl.logarithms", laid_loop_example_softwareradio_impl_logarithms), ("loop.example/softwareradio/impl.wordZeros", laid_loop_example_softwareradio_impl_wordZeros)], narrowed := true }
def FnExactWordSyndromesUptoSaid : Prop := fnExactWordSyndromesUptoRow.holds Tryd.pinned (OpenSpec.upto fnExactWordSyndromesSpec)

/-- 'laws.FnExactDecodeWord', WHERE WHAT IT READS IS OF BULK AT MOST 1048576: true; the input reads as it did. -/
def fnExactDecodeWordUptoRow : OpenClaim := { program := "ytemokfjnbmncbaadoor", sum := "e0bdae6402ab784efbc1f3f307748233f06a876f4bdc6361e6669641ab264196", func := "loop.example/softwareradio/laws.FnExactDecodeWord", spec := "fnExactDecodeWord", named := ["loop.example/softwareradio/impl.wordZeros", "loop.example/softwareradio/impl.logarithms", "loop.example/softwareradio/impl.powersOfTwo"], apart := false, laid := [("loop.example/softwareradio/impl.powersOfTwo", laid_loop_example_softwareradio_impl_powersOfTwo), ("loop.example/softwareradio/impl.logarithms", laid_loop_example_softwareradio_impl_logarithms), ("loop.example/softwareradio/impl.wordZeros", laid_loop_example_softwareradio_impl_wordZeros)], narrowed := true }
def FnExactDecodeWordUptoSaid : Prop := fnExactDecodeWordUptoRow.holds Tryd.pinned (OpenSpec.upto fnExactDecodeWordSpec)

/-- 'laws.FnWordOne', WHERE WHAT IT READS IS OF BULK AT MOST 1048576: true; the input reads as it did. -/
def fnWordOneUptoRow : OpenClaim := { program := "ytemokfjnbmncbaadoor", sum := "e0bdae6402ab784efbc1f3f307748233f06a876f4bdc6361e6669641ab264196", func := "loop.example/softwareradio/laws.FnWordOne", spec := "fnWordOne", named := ["loop.example/softwareradio/impl.wordGenerator", "loop.example/softwareradio/impl.logarithms", "loop.example/softwareradio/impl.powersOfTwo", "loop.example/softwareradio/impl.wordZeros"], apart := false, laid := [("loop.example/softwareradio/impl.powersOfTwo", laid_loop_example_softwareradio_impl_powersOfTwo), ("loop.example/softwareradio/impl.logarithms", laid_loop_example_softwareradio_impl_logarithms), ("loop.example/softwareradio/impl.wordZeros", laid_loop_example_softwareradio_impl_wordZeros), ("loop.example/softwareradio/impl.wordGenerator", laid_loop_example_softwareradio_impl_wordGenerator)], narrowed := true }
def FnWordOneUptoSaid : Prop := fnWordOneUptoRow.holds Tryd.pinned (OpenSpec.upto fnWordOneSpec)

/-- 'laws.FnWordThree', WHERE WHAT IT READS IS OF BULK AT MOST 1048576: true; the input reads as it did. -/
def fnWordThreeUptoRow : OpenClaim := { program := "ytemokfjnbmncbaadoor", sum := "e0bdae6402ab784efbc1f3f307748233f06a876f4bdc6361e6669641ab264196", func := "loop.example/softwareradio/laws.FnWordThree", spec := "fnWordThree", named := ["loop.example/softwareradio/impl.wordGenerator", "loop.example/softwareradio/impl.logarithms", "loop.example/softwareradio/impl.powersOfTwo", "loop.example/softwareradio/impl.wordZeros"], apart := false, laid := [("loop.example/softwareradio/impl.powersOfTwo", laid_loop_example_softwareradio_impl_powersOfTwo), ("loop.example/softwareradio/impl.logarithms", laid_loop_example_softwareradio_impl_logarithms), ("loop.example/softwareradio/impl.wordZeros", laid_loop_example_softwareradio_impl_wordZeros), ("loop.example/softwareradio/impl.wordGenerator", laid_loop_example_softwareradio_impl_wordGenerator)], narrowed := true }
def FnWordThreeUptoSaid : Prop := fnWordThreeUptoRow.holds Tryd.pinned (OpenSpec.upto fnWordThreeSpec)

/-- 'laws.FnDecodeWord', WHERE WHAT IT READS IS OF BULK AT MOST 1048576: true; the input reads as it did. -/
def fnDecodeWordUptoRow : OpenClaim := { program := "ytemokfjnbmncbaadoor", sum := "e0bdae6402ab784efbc1f3f307748233f06a876f4bdc6361e6669641ab264196", func := "loop.example/softwareradio/laws.FnDecodeWord", spec := "fnDecodeWord", named := ["loop.example/softwareradio/impl.wordZeros", "loop.example/softwareradio/impl.logarithms", "loop.example/softwareradio/impl.powersOfTwo"], apart := false, laid := [("loop.example/softwareradio/impl.powersOfTwo", laid_loop_example_softwareradio_impl_powersOfTwo), ("loop.example/softwareradio/impl.logarithms", laid_loop_example_softwareradio_impl_logarithms), ("loop.example/softwareradio/impl.wordZeros", laid_loop_example_softwareradio_impl_wordZeros)], narrowed := true }
def FnDecodeWordUptoSaid : Prop := fnDecodeWordUptoRow.holds Tryd.pinned (OpenSpec.upto fnDecodeWordSpec)

/-- 'laws.FnWordTurn', WHERE WHAT IT READS IS OF BULK AT MOST 1048576: true; the input reads as it did. -/
def fnWordTurnUptoRow : OpenClaim := { program := "ytemokfjnbmncbaadoor", sum := "e0bdae6402ab784efbc1f3f307748233f06a876f4bdc6361e6669641ab264196", func := "loop.example/softwareradio/laws.FnWordTurn", spec := "fnWordTurn", named := ["loop.example/softwareradio/impl.wordGenerator", "loop.example/softwareradio/impl.logarithms", "loop.example/softwareradio/impl.powersOfTwo", "loop.example/softwareradio/impl.wordZeros"], apart := false, laid := [("loop.example/softwareradio/impl.powersOfTwo", laid_loop_example_softwareradio_impl_powersOfTwo), ("loop.example/softwareradio/impl.logarithms", laid_loop_example_softwareradio_impl_logarithms), ("loop.example/softwareradio/impl.wordZeros", laid_loop_example_softwareradio_impl_wordZeros), ("loop.example/softwareradio/impl.wordGenerator", laid_loop_example_softwareradio_impl_wordGenerator)], narrowed := true }
def FnWordTurnUptoSaid : Prop := fnWordTurnUptoRow.holds Tryd.pinned (OpenSpec.upto fnWordTurnSpec)

/-- 'laws.FnEncodeWord', WHERE WHAT IT READS IS OF BULK AT MOST 1048576: true; the input reads as it did. -/
def fnEncodeWordUptoRow : OpenClaim := { program := "ytemokfjnbmncbaadoor", sum := "e0bdae6402ab784efbc1f3f307748233f06a876f4bdc6361e6669641ab264196", func := "loop.example/softwareradio/laws.FnEncodeWord", spec := "fnEncodeWord", named := ["loop.example/softwareradio/impl.wordGenerator", "loop.example/softwareradio/impl.logarithms", "loop.example/softwareradio/impl.powersOfTwo", "loop.example/softwareradio/impl.wordZeros"], apart := false, laid := [("loop.example/softwareradio/impl.powersOfTwo", laid_loop_example_softwareradio_impl_powersOfTwo), ("loop.example/softwareradio/impl.logarithms", laid_loop_example_softwareradio_impl_logarithms), ("loop.example/softwareradio/impl.wordZeros", laid_loop_example_softwareradio_impl_wordZeros), ("loop.example/softwareradio/impl.wordGenerator", laid_loop_example_softwareradio_impl_wordGenerator)], narrowed := true }
def FnEncodeWordUptoSaid : Prop := fnEncodeWordUptoRow.holds Tryd.pinned (OpenSpec.upto fnEncodeWordSpec)

/-- 'laws.FnWordDistance', WHERE WHAT IT READS IS OF BULK AT MOST 1048576: true; the input reads as it did. -/
def fnWordDistanceUptoRow : OpenClaim := { program := "ytemokfjnbmncbaadoor", sum := "e0bdae6402ab784efbc1f3f307748233f06a876f4bdc6361e6669641ab264196", func := "loop.example/softwareradio/laws.FnWordDistance", spec := "fnWordDistance", named := ["loop.example/softwareradio/impl.wordGenerator", "loop.example/softwareradio/impl.logarithms", "loop.example/softwareradio/impl.powersOfTwo"], apart := false, laid := [("loop.example/softwareradio/impl.powersOfTwo", laid_loop_example_softwareradio_impl_powersOfTwo), ("loop.example/softwareradio/impl.logarithms", laid_loop_example_softwareradio_impl_logarithms), ("loop.example/softwareradio/impl.wordGenerator", laid_loop_example_softwareradio_impl_wordGenerator)], narrowed := true }
def FnWordDistanceUptoSaid : Prop := fnWordDistanceUptoRow.holds Tryd.pinned (OpenSpec.upto fnWordDistanceSpec)

/-- 'laws.FnWordSyndromes', WHERE WHAT IT READS IS OF BULK AT MOST 1048576: true; the input reads as it did. -/
def fnWordSyndromesUptoRow : OpenClaim := { program := "ytemokfjnbmncbaadoor", sum := "e0bdae6402ab784efbc1f3f307748233f06a876f4bdc6361e6669641ab264196", func := "loop.example/softwareradio/laws.FnWordSyndromes", spec := "fnWordSyndromes", named := ["loop.example/softwareradio/impl.wordZeros", "loop.example/softwareradio/impl.logarithms", "loop.example/softwareradio/impl.powersOfTwo", "loop.example/softwareradio/impl.wordGenerator"], apart := false, laid := [("loop.example/softwareradio/impl.powersOfTwo", laid_loop_example_softwareradio_impl_powersOfTwo), ("loop.example/softwareradio/impl.logarithms", laid_loop_example_softwareradio_impl_logarithms), ("loop.example/softwareradio/impl.wordZeros", laid_loop_example_softwareradio_impl_wordZeros), ("loop.example/softwareradio/impl.wordGenerator", laid_loop_example_softwareradio_impl_wordGenerator)], narrowed := true }
def FnWordSyndromesUptoSaid : Prop := fnWordSyndromesUptoRow.holds Tryd.pinned (OpenSpec.upto fnWordSyndromesSpec)

end Rows
end Go.Proofs.YtemokfjnbmncbaaDoor
