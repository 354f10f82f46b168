/-
  No cell of these rows narrows 'for every input' (looked for: loops, veiled, ifaces, maps, wideKeys, modest, calm, conditions, laid).
  DERIVED. THE GIVEN ROWS OF THIS SEAT. 2 by the template 'for every input the law returns true; each argument reads behind the call as it read before'; 0 by the template 'total and deterministic' (their statements: YtdiloojdklkamaaTotals.lean).
  GIVEN WITH THE SEED: the statements are not yours to turn. If you find one false, say at which input.
  Laid BY PROGRAM, IN A SANDBOX (cutbox-rows.mjs): the forced cells as the released guide's own fill.sh prints them over the translation a9a9c4144db8e98c… (all of the seat's roots in one cut). By AI agents, Wed Nov 11 2026. No macro, syntax, notation, axiom, sorry.
-/
import Derived.Test.YtdiloojdklkamaaChecked
import GoSem.Claim
import GoSem.ClaimJoined
import GoSem.ClaimMapViews
import Derived.JoinedTies
import Derived.KernelRfl
namespace Go.Proofs.Ytdiloojdklkamaa
/- THE CELL 'sum', in the pinned program and in every row, IS THE sha256 OF THE DUMP (.gsa) THAT YtdiloojdklkamaaProg.lean LOADS. Nothing in Lean hashes anything: it is a label: what it is worth is what the hold of that sum in a sandbox is worth. -/
noncomputable def Try.pinned : Pinned := { name := "ytdiloojdklkamaa", sum := "a9a9c4144db8e98c66612b35c34eea17d80d32c22578f03b79a00481be31212a", checked := Try.checked }
namespace Rows
def none {H : Type} : Left H := { results := [], args := [] }

/-- 'laws.FnInterleaveBits': WHATEVER THE INPUT: true; the input reads as it did. -/
def fnInterleaveBitsSpec : ChangeSpec := { name := "fnInterleaveBits", fn := fun _ => fun
  | [d] => { results := [.lit (.bool true)], args := [d] }
  | _ => none }
def fnInterleaveBitsRow : OpenClaim := { program := "ytdiloojdklkamaa", sum := "a9a9c4144db8e98c66612b35c34eea17d80d32c22578f03b79a00481be31212a", func := "loop.example/softwareradio/laws.FnInterleaveBits", spec := "fnInterleaveBits", apart := false }
def FnInterleaveBitsSaid : Prop := fnInterleaveBitsRow.holds Try.pinned (OpenSpec.ofChange fnInterleaveBitsSpec)

/-- ITS FALSE NEIGHBOUR: 'it returns false'. Refute it at one input. -/
def fnInterleaveBitsWrong : ChangeSpec := { name := "fnInterleaveBits", fn := fun _ => fun
  | [d] => { results := [.lit (.bool false)], args := [d] }
  | _ => none }
def FnInterleaveBitsWrongFalsely : Prop := fnInterleaveBitsRow.holds Try.pinned (OpenSpec.ofChange fnInterleaveBitsWrong)

/-- 'laws.FnDeinterleaveBits': WHATEVER THE INPUT: true; the input reads as it did. -/
def fnDeinterleaveBitsSpec : ChangeSpec := { name := "fnDeinterleaveBits", fn := fun _ => fun
  | [d] => { results := [.lit (.bool true)], args := [d] }
  | _ => none }
def fnDeinterleaveBitsRow : OpenClaim := { program := "ytdiloojdklkamaa", sum := "a9a9c4144db8e98c66612b35c34eea17d80d32c22578f03b79a00481be31212a", func := "loop.example/softwareradio/laws.FnDeinterleaveBits", spec := "fnDeinterleaveBits", apart := false }
def FnDeinterleaveBitsSaid : Prop := fnDeinterleaveBitsRow.holds Try.pinned (OpenSpec.ofChange fnDeinterleaveBitsSpec)

/-- ITS FALSE NEIGHBOUR: 'it returns false'. Refute it at one input. -/
def fnDeinterleaveBitsWrong : ChangeSpec := { name := "fnDeinterleaveBits", fn := fun _ => fun
  | [d] => { results := [.lit (.bool false)], args := [d] }
  | _ => none }
def FnDeinterleaveBitsWrongFalsely : Prop := fnDeinterleaveBitsRow.holds Try.pinned (OpenSpec.ofChange fnDeinterleaveBitsWrong)

/- THE SECOND FORM. 'bulk': how many values and letters a reading holds, each counted each time it is reached (what is shared counts as often as it is met; a slice's spare places count too). A statement '..UptoSaid' is the law's where the arguments, and the package variables that the reading takes, are together of bulk at most 1048576: NARROWER than '..Said'. Prove '..Said' where nothing that the law and all that it calls make is longer than what came in: it says more and counts as full. Else prove '..UptoSaid'. A law counts once. -/
mutual
def uptoBulk {H : Type} : DataW H → Nat
  | .lit (.string bytes) => bytes.length + 1
  | .lit _ => 1
  | .nil => 1
  | .ptr d => uptoBulk d + 1
  | .slice elems spare => uptoBulkAll elems + uptoBulkAll spare + 1
  | .agg parts => uptoBulkAll parts + 1
  | .iface _ d => uptoBulk d + 1
  | .map entries => uptoBulkEntries entries + 1
  | .held _ => 1
def uptoBulkAll {H : Type} : List (DataW H) → Nat
  | [] => 0
  | d :: r => uptoBulk d + uptoBulkAll r
def uptoBulkEntries {H : Type} : List (Lit × DataW H) → Nat
  | [] => 0
  | x :: r => uptoBulkEntry x + uptoBulkEntries r
def uptoBulkEntry {H : Type} : Lit × DataW H → Nat
  | (.string bytes, d) => bytes.length + uptoBulk d + 1
  | (_, d) => uptoBulk d + 1
 end
def uptoSmall : (H : Type) → List (DataW H) → Bool := fun _ ds => decide (uptoBulkAll ds ≤ 1048576)
def OpenSpec.upto (s : _root_.Go.ChangeSpec) : _root_.Go.OpenSpec := { _root_.Go.OpenSpec.ofChange s with cond := some uptoSmall }

/-- 'laws.FnInterleaveBits', WHERE WHAT IT READS IS OF BULK AT MOST 1048576: true; the input reads as it did. -/
def fnInterleaveBitsUptoRow : OpenClaim := { program := "ytdiloojdklkamaa", sum := "a9a9c4144db8e98c66612b35c34eea17d80d32c22578f03b79a00481be31212a", func := "loop.example/softwareradio/laws.FnInterleaveBits", spec := "fnInterleaveBits", apart := false, narrowed := true }
def FnInterleaveBitsUptoSaid : Prop := fnInterleaveBitsUptoRow.holds Try.pinned (OpenSpec.upto fnInterleaveBitsSpec)

/-- 'laws.FnDeinterleaveBits', WHERE WHAT IT READS IS OF BULK AT MOST 1048576: true; the input reads as it did. -/
def fnDeinterleaveBitsUptoRow : OpenClaim := { program := "ytdiloojdklkamaa", sum := "a9a9c4144db8e98c66612b35c34eea17d80d32c22578f03b79a00481be31212a", func := "loop.example/softwareradio/laws.FnDeinterleaveBits", spec := "fnDeinterleaveBits", apart := false, narrowed := true }
def FnDeinterleaveBitsUptoSaid : Prop := fnDeinterleaveBitsUptoRow.holds Try.pinned (OpenSpec.upto fnDeinterleaveBitsSpec)

end Rows
end Go.Proofs.Ytdiloojdklkamaa
