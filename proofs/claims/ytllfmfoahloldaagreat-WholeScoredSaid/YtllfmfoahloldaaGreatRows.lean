/-
  No cell of these rows narrows 'for every input' (looked for: loops, veiled, ifaces, maps, wideKeys, modest, calm, conditions, laid).
  DERIVED. THE GIVEN ROWS OF THIS SEAT. 3 by the template 'for every input the law returns true; each argument reads behind the call as it read before'; 0 by the template 'total and deterministic' (their statements: YtllfmfoahloldaaGreatTotals.lean).
  GIVEN WITH THE SEED: the statements are not yours to turn. If you find one false, say at which input.
  Laid BY PROGRAM, IN A SANDBOX (cutbox-rows.mjs): the forced cells as the released guide's own fill.sh prints them over the translation bf05520bdeacc717… (all of the seat's roots in one cut). By AI agents, Wed Nov 11 2026. No macro, syntax, notation, axiom, sorry.
-/
import Derived.Test.YtllfmfoahloldaaGreatChecked
import GoSem.Claim
import GoSem.ClaimJoined
import GoSem.ClaimMapViews
import Derived.JoinedTies
import Derived.KernelRfl
namespace Go.Proofs.YtllfmfoahloldaaGreat
/- THE CELL 'sum', in the pinned program and in every row, IS THE sha256 OF THE DUMP (.gsa) THAT YtllfmfoahloldaaGreatProg.lean LOADS. Nothing in Lean hashes anything: it is a label: what it is worth is what the hold of that sum in a sandbox is worth. -/
noncomputable def Tryz.pinned : Pinned := { name := "ytllfmfoahloldaagreat", sum := "bf05520bdeacc71764b11c0d230de067ae0e400249c14537a44347b55f7a977b", checked := Tryz.checked }
namespace Rows
def none {H : Type} : Left H := { results := [], args := [] }

/-- 'sightbenchtop.WholePiped': WHATEVER THE INPUT: true; the input reads as it did. -/
def wholePipedSpec : ChangeSpec := { name := "wholePiped", fn := fun _ => fun
  | [d1, d2, d3, d4, d5, d6] => { results := [.lit (.bool true)], args := [d1, d2, d3, d4, d5, d6] }
  | _ => none }
def wholePipedRow : OpenClaim := { program := "ytllfmfoahloldaagreat", sum := "bf05520bdeacc71764b11c0d230de067ae0e400249c14537a44347b55f7a977b", func := "sightbench/sightbenchtop.WholePiped", spec := "wholePiped", unfollowed := true, recurses := true, apart := false }
def WholePipedSaid : Prop := wholePipedRow.holds Tryz.pinned (OpenSpec.ofChange wholePipedSpec)

/-- ITS FALSE NEIGHBOUR: 'it returns false'. Refute it at one input. -/
def wholePipedWrong : ChangeSpec := { name := "wholePiped", fn := fun _ => fun
  | [d1, d2, d3, d4, d5, d6] => { results := [.lit (.bool false)], args := [d1, d2, d3, d4, d5, d6] }
  | _ => none }
def WholePipedWrongFalsely : Prop := wholePipedRow.holds Tryz.pinned (OpenSpec.ofChange wholePipedWrong)

/-- 'sightbenchtop.WholeScored': WHATEVER THE INPUT: true; the input reads as it did. -/
def wholeScoredSpec : ChangeSpec := { name := "wholeScored", fn := fun _ => fun
  | [d1, d2, d3, d4, d5, d6, d7, d8, d9, d10] => { results := [.lit (.bool true)], args := [d1, d2, d3, d4, d5, d6, d7, d8, d9, d10] }
  | _ => none }
def wholeScoredRow : OpenClaim := { program := "ytllfmfoahloldaagreat", sum := "bf05520bdeacc71764b11c0d230de067ae0e400249c14537a44347b55f7a977b", func := "sightbench/sightbenchtop.WholeScored", spec := "wholeScored", unfollowed := true, recurses := true, apart := false }
def WholeScoredSaid : Prop := wholeScoredRow.holds Tryz.pinned (OpenSpec.ofChange wholeScoredSpec)

/-- ITS FALSE NEIGHBOUR: 'it returns false'. Refute it at one input. -/
def wholeScoredWrong : ChangeSpec := { name := "wholeScored", fn := fun _ => fun
  | [d1, d2, d3, d4, d5, d6, d7, d8, d9, d10] => { results := [.lit (.bool false)], args := [d1, d2, d3, d4, d5, d6, d7, d8, d9, d10] }
  | _ => none }
def WholeScoredWrongFalsely : Prop := wholeScoredRow.holds Tryz.pinned (OpenSpec.ofChange wholeScoredWrong)

/-- 'sightbenchtop.WholeLined': WHATEVER THE INPUT: true; the input reads as it did. -/
def wholeLinedSpec : ChangeSpec := { name := "wholeLined", fn := fun _ => fun
  | [d1, d2, d3, d4, d5, d6, d7] => { results := [.lit (.bool true)], args := [d1, d2, d3, d4, d5, d6, d7] }
  | _ => none }
def wholeLinedRow : OpenClaim := { program := "ytllfmfoahloldaagreat", sum := "bf05520bdeacc71764b11c0d230de067ae0e400249c14537a44347b55f7a977b", func := "sightbench/sightbenchtop.WholeLined", spec := "wholeLined", inPlace := ["math/bits.Add64", "math/bits.Sub64", "slices.overlaps[int]"], unfollowed := true, recurses := true, named := ["math/bits.divideError", "math/bits.overflowError"], apart := false }
def WholeLinedSaid : Prop := wholeLinedRow.holds Tryz.pinned (OpenSpec.ofChange wholeLinedSpec)

/-- ITS FALSE NEIGHBOUR: 'it returns false'. Refute it at one input. -/
def wholeLinedWrong : ChangeSpec := { name := "wholeLined", fn := fun _ => fun
  | [d1, d2, d3, d4, d5, d6, d7] => { results := [.lit (.bool false)], args := [d1, d2, d3, d4, d5, d6, d7] }
  | _ => none }
def WholeLinedWrongFalsely : Prop := wholeLinedRow.holds Tryz.pinned (OpenSpec.ofChange wholeLinedWrong)

/- THE SECOND FORM. 'bulk': how many values and letters a reading holds, each counted each time it is reached (what is shared counts as often as it is met; a slice's spare places count too). A statement '..UptoSaid' is the law's where the arguments, and the package variables that the reading takes, are together of bulk at most 1048576: NARROWER than '..Said'. Prove '..Said' where nothing that the law and all that it calls make is longer than what came in: it says more and counts as full. Else prove '..UptoSaid'. A law counts once. -/
mutual
def uptoBulk {H : Type} : DataW H → Nat
  | .lit (.string bytes) => bytes.length + 1
  | .lit _ => 1
  | .nil => 1
  | .ptr d => uptoBulk d + 1
  | .slice elems spare => uptoBulkAll elems + uptoBulkAll spare + 1
  | .agg parts => uptoBulkAll parts + 1
  | .iface _ d => uptoBulk d + 1
  | .map entries => uptoBulkEntries entries + 1
  | .held _ => 1
def uptoBulkAll {H : Type} : List (DataW H) → Nat
  | [] => 0
  | d :: r => uptoBulk d + uptoBulkAll r
def uptoBulkEntries {H : Type} : List (Lit × DataW H) → Nat
  | [] => 0
  | x :: r => uptoBulkEntry x + uptoBulkEntries r
def uptoBulkEntry {H : Type} : Lit × DataW H → Nat
  | (.string bytes, d) => bytes.length + uptoBulk d + 1
  | (_, d) => uptoBulk d + 1
 end
def uptoSmall : (H : Type) → List (DataW H) → Bool := fun _ ds => decide (uptoBulkAll ds ≤ 1048576)
def OpenSpec.upto (s : _root_.Go.ChangeSpec) : _root_.Go.OpenSpec := { _root_.Go.OpenSpec.ofChange s with cond := some uptoSmall }

/-- 'sightbenchtop.WholePiped', WHERE WHAT IT READS IS OF BULK AT MOST 1048576: true; the input reads as it did. -/
def wholePipedUptoRow : OpenClaim := { program := "ytllfmfoahloldaagreat", sum := "bf05520bdeacc71764b11c0d230de067ae0e400249c14537a44347b55f7a977b", func := "sightbench/sightbenchtop.WholePiped", spec := "wholePiped", unfollowed := true, recurses := true, apart := false, narrowed := true }
def WholePipedUptoSaid : Prop := wholePipedUptoRow.holds Tryz.pinned (OpenSpec.upto wholePipedSpec)

/-- 'sightbenchtop.WholeScored', WHERE WHAT IT READS IS OF BULK AT MOST 1048576: true; the input reads as it did. -/
def wholeScoredUptoRow : OpenClaim := { program := "ytllfmfoahloldaagreat", sum := "bf05520bdeacc71764b11c0d230de067ae0e400249c14537a44347b55f7a977b", func := "sightbench/sightbenchtop.WholeScored", spec := "wholeScored", unfollowed := true, recurses := true, apart := false, narrowed := true }
def WholeScoredUptoSaid : Prop := wholeScoredUptoRow.holds Tryz.pinned (OpenSpec.upto wholeScoredSpec)

/-- 'sightbenchtop.WholeLined', WHERE WHAT IT READS IS OF BULK AT MOST 1048576: true; the input reads as it did. -/
def wholeLinedUptoRow : OpenClaim := { program := "ytllfmfoahloldaagreat", sum := "bf05520bdeacc71764b11c0d230de067ae0e400249c14537a44347b55f7a977b", func := "sightbench/sightbenchtop.WholeLined", spec := "wholeLined", inPlace := ["math/bits.Add64", "math/bits.Sub64", "slices.overlaps[int]"], unfollowed := true, recurses := true, named := ["math/bits.divideError", "math/bits.overflowError"], apart := false, narrowed := true }
def WholeLinedUptoSaid : Prop := wholeLinedUptoRow.holds Tryz.pinned (OpenSpec.upto wholeLinedSpec)

end Rows
end Go.Proofs.YtllfmfoahloldaaGreat
