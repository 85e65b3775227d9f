/-
  No cell of these rows narrows 'for every input' (looked for: loops, veiled, ifaces, maps, wideKeys, modest, calm, conditions, laid).
  DERIVED. THE GIVEN ROWS OF THIS SEAT. 13 by the template 'for every input the law returns true; each argument reads behind the call as it read before'; 0 by the template 'total and deterministic' (their statements: YtmnfokapdipcdaaTotals.lean).
  GIVEN WITH THE SEED: the statements are not yours to turn. If you find one false, say at which input.
  Laid BY PROGRAM, IN A SANDBOX (cutbox-rows.mjs): the forced cells as the released guide's own fill.sh prints them over the translation c98a2801054fe829… (all of the seat's roots in one cut). By AI agents, Wed Nov 11 2026. No macro, syntax, notation, axiom, sorry.
-/
import Derived.Test.YtmnfokapdipcdaaChecked
import GoSem.Claim
import GoSem.ClaimJoined
import GoSem.ClaimMapViews
import Derived.JoinedTies
import Derived.KernelRfl
namespace Go.Proofs.Ytmnfokapdipcdaa
/- THE CELL 'sum', in the pinned program and in every row, IS THE sha256 OF THE DUMP (.gsa) THAT YtmnfokapdipcdaaProg.lean LOADS. Nothing in Lean hashes anything: it is a label: what it is worth is what the hold of that sum in a sandbox is worth. -/
noncomputable def Try.pinned : Pinned := { name := "ytmnfokapdipcdaa", sum := "c98a2801054fe829f69a216d17784c09366049f50dee8c3a2e33608d072a82a9", checked := Try.checked }
namespace Rows
def none {H : Type} : Left H := { results := [], args := [] }

/-- 'rosettelaw24.SeriesOver': WHATEVER THE INPUT: true; the input reads as it did. -/
def seriesOverSpec : ChangeSpec := { name := "seriesOver", fn := fun _ => fun
  | [d1, d2, d3] => { results := [.lit (.bool true)], args := [d1, d2, d3] }
  | _ => none }
def seriesOverRow : OpenClaim := { program := "ytmnfokapdipcdaa", sum := "c98a2801054fe829f69a216d17784c09366049f50dee8c3a2e33608d072a82a9", func := "rosette/rosettelaw24.SeriesOver", spec := "seriesOver", inPlace := ["math/bits.Add64", "math/bits.Sub64"], unfollowed := true, recurses := true, named := ["math/bits.divideError", "math/bits.overflowError"], apart := false }
def SeriesOverSaid : Prop := seriesOverRow.holds Try.pinned (OpenSpec.ofChange seriesOverSpec)

/-- ITS FALSE NEIGHBOUR: 'it returns false'. Refute it at one input. -/
def seriesOverWrong : ChangeSpec := { name := "seriesOver", fn := fun _ => fun
  | [d1, d2, d3] => { results := [.lit (.bool false)], args := [d1, d2, d3] }
  | _ => none }
def SeriesOverWrongFalsely : Prop := seriesOverRow.holds Try.pinned (OpenSpec.ofChange seriesOverWrong)

/-- 'rosettelaw24.SeriesWithin': WHATEVER THE INPUT: true; the input reads as it did. -/
def seriesWithinSpec : ChangeSpec := { name := "seriesWithin", fn := fun _ => fun
  | [d1, d2, d3] => { results := [.lit (.bool true)], args := [d1, d2, d3] }
  | _ => none }
def seriesWithinRow : OpenClaim := { program := "ytmnfokapdipcdaa", sum := "c98a2801054fe829f69a216d17784c09366049f50dee8c3a2e33608d072a82a9", func := "rosette/rosettelaw24.SeriesWithin", spec := "seriesWithin", inPlace := ["math/bits.Add64", "math/bits.Sub64"], unfollowed := true, recurses := true, named := ["math/bits.divideError", "math/bits.overflowError"], apart := false }
def SeriesWithinSaid : Prop := seriesWithinRow.holds Try.pinned (OpenSpec.ofChange seriesWithinSpec)

/-- ITS FALSE NEIGHBOUR: 'it returns false'. Refute it at one input. -/
def seriesWithinWrong : ChangeSpec := { name := "seriesWithin", fn := fun _ => fun
  | [d1, d2, d3] => { results := [.lit (.bool false)], args := [d1, d2, d3] }
  | _ => none }
def SeriesWithinWrongFalsely : Prop := seriesWithinRow.holds Try.pinned (OpenSpec.ofChange seriesWithinWrong)

/-- 'rosettelaw24.SeriesNumbers': WHATEVER THE INPUT: true; the input reads as it did. -/
def seriesNumbersSpec : ChangeSpec := { name := "seriesNumbers", fn := fun _ => fun
  | [] => { results := [.lit (.bool true)], args := [] }
  | _ => none }
def seriesNumbersRow : OpenClaim := { program := "ytmnfokapdipcdaa", sum := "c98a2801054fe829f69a216d17784c09366049f50dee8c3a2e33608d072a82a9", func := "rosette/rosettelaw24.SeriesNumbers", spec := "seriesNumbers", inPlace := ["math/bits.Add64", "math/bits.Sub64"], unfollowed := true, recurses := true, named := ["math/bits.divideError", "math/bits.overflowError"], apart := false }
def SeriesNumbersSaid : Prop := seriesNumbersRow.holds Try.pinned (OpenSpec.ofChange seriesNumbersSpec)

/-- ITS FALSE NEIGHBOUR: 'it returns false'. Refute it at one input. -/
def seriesNumbersWrong : ChangeSpec := { name := "seriesNumbers", fn := fun _ => fun
  | [] => { results := [.lit (.bool false)], args := [] }
  | _ => none }
def SeriesNumbersWrongFalsely : Prop := seriesNumbersRow.holds Try.pinned (OpenSpec.ofChange seriesNumbersWrong)

/-- 'rosettelaw24.SeriesTurned': WHATEVER THE INPUT: true; the input reads as it did. -/
def seriesTurnedSpec : ChangeSpec := { name := "seriesTurned", fn := fun _ => fun
  | [d1, d2, d3] => { results := [.lit (.bool true)], args := [d1, d2, d3] }
  | _ => none }
def seriesTurnedRow : OpenClaim := { program := "ytmnfokapdipcdaa", sum := "c98a2801054fe829f69a216d17784c09366049f50dee8c3a2e33608d072a82a9", func := "rosette/rosettelaw24.SeriesTurned", spec := "seriesTurned", inPlace := ["math/bits.Add64", "math/bits.Sub64"], unfollowed := true, recurses := true, named := ["math/bits.divideError", "math/bits.overflowError"], apart := false }
def SeriesTurnedSaid : Prop := seriesTurnedRow.holds Try.pinned (OpenSpec.ofChange seriesTurnedSpec)

/-- ITS FALSE NEIGHBOUR: 'it returns false'. Refute it at one input. -/
def seriesTurnedWrong : ChangeSpec := { name := "seriesTurned", fn := fun _ => fun
  | [d1, d2, d3] => { results := [.lit (.bool false)], args := [d1, d2, d3] }
  | _ => none }
def SeriesTurnedWrongFalsely : Prop := seriesTurnedRow.holds Try.pinned (OpenSpec.ofChange seriesTurnedWrong)

/-- 'rosettelaw18.RootSquares': WHATEVER THE INPUT: true; the input reads as it did. -/
def rootSquaresSpec : ChangeSpec := { name := "rootSquares", fn := fun _ => fun
  | [d] => { results := [.lit (.bool true)], args := [d] }
  | _ => none }
def rootSquaresRow : OpenClaim := { program := "ytmnfokapdipcdaa", sum := "c98a2801054fe829f69a216d17784c09366049f50dee8c3a2e33608d072a82a9", func := "rosette/rosettelaw18.RootSquares", spec := "rootSquares", inPlace := ["math/bits.Add64", "math/bits.Sub64"], unfollowed := true, recurses := true, named := ["math/bits.divideError", "math/bits.overflowError"], apart := false }
def RootSquaresSaid : Prop := rootSquaresRow.holds Try.pinned (OpenSpec.ofChange rootSquaresSpec)

/-- ITS FALSE NEIGHBOUR: 'it returns false'. Refute it at one input. -/
def rootSquaresWrong : ChangeSpec := { name := "rootSquares", fn := fun _ => fun
  | [d] => { results := [.lit (.bool false)], args := [d] }
  | _ => none }
def RootSquaresWrongFalsely : Prop := rootSquaresRow.holds Try.pinned (OpenSpec.ofChange rootSquaresWrong)

/-- 'rosettelaw18.RootOf': WHATEVER THE INPUT: true; the input reads as it did. -/
def rootOfSpec : ChangeSpec := { name := "rootOf", fn := fun _ => fun
  | [d1, d2] => { results := [.lit (.bool true)], args := [d1, d2] }
  | _ => none }
def rootOfRow : OpenClaim := { program := "ytmnfokapdipcdaa", sum := "c98a2801054fe829f69a216d17784c09366049f50dee8c3a2e33608d072a82a9", func := "rosette/rosettelaw18.RootOf", spec := "rootOf", inPlace := ["math/bits.Add64", "math/bits.Sub64"], unfollowed := true, recurses := true, named := ["math/bits.divideError", "math/bits.overflowError"], apart := false }
def RootOfSaid : Prop := rootOfRow.holds Try.pinned (OpenSpec.ofChange rootOfSpec)

/-- ITS FALSE NEIGHBOUR: 'it returns false'. Refute it at one input. -/
def rootOfWrong : ChangeSpec := { name := "rootOf", fn := fun _ => fun
  | [d1, d2] => { results := [.lit (.bool false)], args := [d1, d2] }
  | _ => none }
def RootOfWrongFalsely : Prop := rootOfRow.holds Try.pinned (OpenSpec.ofChange rootOfWrong)

/-- 'rosettelaw18.RootPerfect': WHATEVER THE INPUT: true; the input reads as it did. -/
def rootPerfectSpec : ChangeSpec := { name := "rootPerfect", fn := fun _ => fun
  | [d] => { results := [.lit (.bool true)], args := [d] }
  | _ => none }
def rootPerfectRow : OpenClaim := { program := "ytmnfokapdipcdaa", sum := "c98a2801054fe829f69a216d17784c09366049f50dee8c3a2e33608d072a82a9", func := "rosette/rosettelaw18.RootPerfect", spec := "rootPerfect", inPlace := ["math/bits.Add64", "math/bits.Sub64"], unfollowed := true, recurses := true, named := ["math/bits.divideError", "math/bits.overflowError"], apart := false }
def RootPerfectSaid : Prop := rootPerfectRow.holds Try.pinned (OpenSpec.ofChange rootPerfectSpec)

/-- ITS FALSE NEIGHBOUR: 'it returns false'. Refute it at one input. -/
def rootPerfectWrong : ChangeSpec := { name := "rootPerfect", fn := fun _ => fun
  | [d] => { results := [.lit (.bool false)], args := [d] }
  | _ => none }
def RootPerfectWrongFalsely : Prop := rootPerfectRow.holds Try.pinned (OpenSpec.ofChange rootPerfectWrong)

/-- 'rosettelaw18.RootNumbers': WHATEVER THE INPUT: true; the input reads as it did. -/
def rootNumbersSpec : ChangeSpec := { name := "rootNumbers", fn := fun _ => fun
  | [] => { results := [.lit (.bool true)], args := [] }
  | _ => none }
def rootNumbersRow : OpenClaim := { program := "ytmnfokapdipcdaa", sum := "c98a2801054fe829f69a216d17784c09366049f50dee8c3a2e33608d072a82a9", func := "rosette/rosettelaw18.RootNumbers", spec := "rootNumbers", inPlace := ["math/bits.Add64", "math/bits.Sub64"], unfollowed := true, recurses := true, named := ["math/bits.divideError", "math/bits.overflowError"], apart := false }
def RootNumbersSaid : Prop := rootNumbersRow.holds Try.pinned (OpenSpec.ofChange rootNumbersSpec)

/-- ITS FALSE NEIGHBOUR: 'it returns false'. Refute it at one input. -/
def rootNumbersWrong : ChangeSpec := { name := "rootNumbers", fn := fun _ => fun
  | [] => { results := [.lit (.bool false)], args := [] }
  | _ => none }
def RootNumbersWrongFalsely : Prop := rootNumbersRow.holds Try.pinned (OpenSpec.ofChange rootNumbersWrong)

/-- 'rosettelaw18.RootRises': WHATEVER THE INPUT: true; the input reads as it did. -/
def rootRisesSpec : ChangeSpec := { name := "rootRises", fn := fun _ => fun
  | [d1, d2, d3] => { results := [.lit (.bool true)], args := [d1, d2, d3] }
  | _ => none }
def rootRisesRow : OpenClaim := { program := "ytmnfokapdipcdaa", sum := "c98a2801054fe829f69a216d17784c09366049f50dee8c3a2e33608d072a82a9", func := "rosette/rosettelaw18.RootRises", spec := "rootRises", inPlace := ["math/bits.Add64", "math/bits.Sub64"], unfollowed := true, recurses := true, named := ["math/bits.divideError", "math/bits.overflowError"], apart := false }
def RootRisesSaid : Prop := rootRisesRow.holds Try.pinned (OpenSpec.ofChange rootRisesSpec)

/-- ITS FALSE NEIGHBOUR: 'it returns false'. Refute it at one input. -/
def rootRisesWrong : ChangeSpec := { name := "rootRises", fn := fun _ => fun
  | [d1, d2, d3] => { results := [.lit (.bool false)], args := [d1, d2, d3] }
  | _ => none }
def RootRisesWrongFalsely : Prop := rootRisesRow.holds Try.pinned (OpenSpec.ofChange rootRisesWrong)

/-- 'rosettelaw24.SeriesBack': WHATEVER THE INPUT: true; the input reads as it did. -/
def seriesBackSpec : ChangeSpec := { name := "seriesBack", fn := fun _ => fun
  | [d1, d2, d3, d4, d5] => { results := [.lit (.bool true)], args := [d1, d2, d3, d4, d5] }
  | _ => none }
def seriesBackRow : OpenClaim := { program := "ytmnfokapdipcdaa", sum := "c98a2801054fe829f69a216d17784c09366049f50dee8c3a2e33608d072a82a9", func := "rosette/rosettelaw24.SeriesBack", spec := "seriesBack", inPlace := ["math/bits.Add64", "math/bits.Sub64"], unfollowed := true, recurses := true, named := ["math/bits.divideError", "math/bits.overflowError"], apart := false }
def SeriesBackSaid : Prop := seriesBackRow.holds Try.pinned (OpenSpec.ofChange seriesBackSpec)

/-- ITS FALSE NEIGHBOUR: 'it returns false'. Refute it at one input. -/
def seriesBackWrong : ChangeSpec := { name := "seriesBack", fn := fun _ => fun
  | [d1, d2, d3, d4, d5] => { results := [.lit (.bool false)], args := [d1, d2, d3, d4, d5] }
  | _ => none }
def SeriesBackWrongFalsely : Prop := seriesBackRow.holds Try.pinned (OpenSpec.ofChange seriesBackWrong)

/-- 'rosettelaw24.SeriesLaid': WHATEVER THE INPUT: true; the input reads as it did. -/
def seriesLaidSpec : ChangeSpec := { name := "seriesLaid", fn := fun _ => fun
  | [d1, d2, d3, d4] => { results := [.lit (.bool true)], args := [d1, d2, d3, d4] }
  | _ => none }
def seriesLaidRow : OpenClaim := { program := "ytmnfokapdipcdaa", sum := "c98a2801054fe829f69a216d17784c09366049f50dee8c3a2e33608d072a82a9", func := "rosette/rosettelaw24.SeriesLaid", spec := "seriesLaid", inPlace := ["math/bits.Add64", "math/bits.Sub64"], unfollowed := true, recurses := true, named := ["math/bits.divideError", "math/bits.overflowError"], apart := false }
def SeriesLaidSaid : Prop := seriesLaidRow.holds Try.pinned (OpenSpec.ofChange seriesLaidSpec)

/-- ITS FALSE NEIGHBOUR: 'it returns false'. Refute it at one input. -/
def seriesLaidWrong : ChangeSpec := { name := "seriesLaid", fn := fun _ => fun
  | [d1, d2, d3, d4] => { results := [.lit (.bool false)], args := [d1, d2, d3, d4] }
  | _ => none }
def SeriesLaidWrongFalsely : Prop := seriesLaidRow.holds Try.pinned (OpenSpec.ofChange seriesLaidWrong)

/-- 'rosettelaw18.RootPowers': WHATEVER THE INPUT: true; the input reads as it did. -/
def rootPowersSpec : ChangeSpec := { name := "rootPowers", fn := fun _ => fun
  | [d1, d2] => { results := [.lit (.bool true)], args := [d1, d2] }
  | _ => none }
def rootPowersRow : OpenClaim := { program := "ytmnfokapdipcdaa", sum := "c98a2801054fe829f69a216d17784c09366049f50dee8c3a2e33608d072a82a9", func := "rosette/rosettelaw18.RootPowers", spec := "rootPowers", inPlace := ["math/bits.Add64", "math/bits.Sub64"], unfollowed := true, recurses := true, named := ["math/bits.divideError", "math/bits.overflowError"], apart := false }
def RootPowersSaid : Prop := rootPowersRow.holds Try.pinned (OpenSpec.ofChange rootPowersSpec)

/-- ITS FALSE NEIGHBOUR: 'it returns false'. Refute it at one input. -/
def rootPowersWrong : ChangeSpec := { name := "rootPowers", fn := fun _ => fun
  | [d1, d2] => { results := [.lit (.bool false)], args := [d1, d2] }
  | _ => none }
def RootPowersWrongFalsely : Prop := rootPowersRow.holds Try.pinned (OpenSpec.ofChange rootPowersWrong)

/-- 'rosettelaw18.RootHolds': WHATEVER THE INPUT: true; the input reads as it did. -/
def rootHoldsSpec : ChangeSpec := { name := "rootHolds", fn := fun _ => fun
  | [d1, d2] => { results := [.lit (.bool true)], args := [d1, d2] }
  | _ => none }
def rootHoldsRow : OpenClaim := { program := "ytmnfokapdipcdaa", sum := "c98a2801054fe829f69a216d17784c09366049f50dee8c3a2e33608d072a82a9", func := "rosette/rosettelaw18.RootHolds", spec := "rootHolds", inPlace := ["math/bits.Add64", "math/bits.Sub64"], unfollowed := true, recurses := true, named := ["math/bits.divideError", "math/bits.overflowError"], apart := false }
def RootHoldsSaid : Prop := rootHoldsRow.holds Try.pinned (OpenSpec.ofChange rootHoldsSpec)

/-- ITS FALSE NEIGHBOUR: 'it returns false'. Refute it at one input. -/
def rootHoldsWrong : ChangeSpec := { name := "rootHolds", fn := fun _ => fun
  | [d1, d2] => { results := [.lit (.bool false)], args := [d1, d2] }
  | _ => none }
def RootHoldsWrongFalsely : Prop := rootHoldsRow.holds Try.pinned (OpenSpec.ofChange rootHoldsWrong)

/- THE SECOND FORM. 'bulk': how many values and letters a reading holds, each counted each time it is reached (what is shared counts as often as it is met; a slice's spare places count too). A statement '..UptoSaid' is the law's where the arguments, and the package variables that the reading takes, are together of bulk at most 1048576: NARROWER than '..Said'. Prove '..Said' where nothing that the law and all that it calls make is longer than what came in: it says more and counts as full. Else prove '..UptoSaid'. A law counts once. -/
mutual
def uptoBulk {H : Type} : DataW H → Nat
  | .lit (.string bytes) => bytes.length + 1
  | .lit _ => 1
  | .nil => 1
  | .ptr d => uptoBulk d + 1
  | .slice elems spare => uptoBulkAll elems + uptoBulkAll spare + 1
  | .agg parts => uptoBulkAll parts + 1
  | .iface _ d => uptoBulk d + 1
  | .map entries => uptoBulkEntries entries + 1
  | .held _ => 1
def uptoBulkAll {H : Type} : List (DataW H) → Nat
  | [] => 0
  | d :: r => uptoBulk d + uptoBulkAll r
def uptoBulkEntries {H : Type} : List (Lit × DataW H) → Nat
  | [] => 0
  | x :: r => uptoBulkEntry x + uptoBulkEntries r
def uptoBulkEntry {H : Type} : Lit × DataW H → Nat
  | (.string bytes, d) => bytes.length + uptoBulk d + 1
  | (_, d) => uptoBulk d + 1
 end
def uptoSmall : (H : Type) → List (DataW H) → Bool := fun _ ds => decide (uptoBulkAll ds ≤ 1048576)
def OpenSpec.upto (s : _root_.Go.ChangeSpec) : _root_.Go.OpenSpec := { _root_.Go.OpenSpec.ofChange s with cond := some uptoSmall }

/-- 'rosettelaw24.SeriesOver', WHERE WHAT IT READS IS OF BULK AT MOST 1048576: true; the input reads as it did. -/
def seriesOverUptoRow : OpenClaim := { program := "ytmnfokapdipcdaa", sum := "c98a2801054fe829f69a216d17784c09366049f50dee8c3a2e33608d072a82a9", func := "rosette/rosettelaw24.SeriesOver", spec := "seriesOver", inPlace := ["math/bits.Add64", "math/bits.Sub64"], unfollowed := true, recurses := true, named := ["math/bits.divideError", "math/bits.overflowError"], apart := false, narrowed := true }
def SeriesOverUptoSaid : Prop := seriesOverUptoRow.holds Try.pinned (OpenSpec.upto seriesOverSpec)

/-- 'rosettelaw24.SeriesWithin', WHERE WHAT IT READS IS OF BULK AT MOST 1048576: true; the input reads as it did. -/
def seriesWithinUptoRow : OpenClaim := { program := "ytmnfokapdipcdaa", sum := "c98a2801054fe829f69a216d17784c09366049f50dee8c3a2e33608d072a82a9", func := "rosette/rosettelaw24.SeriesWithin", spec := "seriesWithin", inPlace := ["math/bits.Add64", "math/bits.Sub64"], unfollowed := true, recurses := true, named := ["math/bits.divideError", "math/bits.overflowError"], apart := false, narrowed := true }
def SeriesWithinUptoSaid : Prop := seriesWithinUptoRow.holds Try.pinned (OpenSpec.upto seriesWithinSpec)

/-- 'rosettelaw24.SeriesNumbers', WHERE WHAT IT READS IS OF BULK AT MOST 1048576: true; the input reads as it did. -/
def seriesNumbersUptoRow : OpenClaim := { program := "ytmnfokapdipcdaa", sum := "c98a2801054fe829f69a216d17784c09366049f50dee8c3a2e33608d072a82a9", func := "rosette/rosettelaw24.SeriesNumbers", spec := "seriesNumbers", inPlace := ["math/bits.Add64", "math/bits.Sub64"], unfollowed := true, recurses := true, named := ["math/bits.divideError", "math/bits.overflowError"], apart := false, narrowed := true }
def SeriesNumbersUptoSaid : Prop := seriesNumbersUptoRow.holds Try.pinned (OpenSpec.upto seriesNumbersSpec)

/-- 'rosettelaw24.SeriesTurned', WHERE WHAT IT READS IS OF BULK AT MOST 1048576: true; the input reads as it did. -/
def seriesTurnedUptoRow : OpenClaim := { program := "ytmnfokapdipcdaa", sum := "c98a2801054fe829f69a216d17784c09366049f50dee8c3a2e33608d072a82a9", func := "rosette/rosettelaw24.SeriesTurned", spec := "seriesTurned", inPlace := ["math/bits.Add64", "math/bits.Sub64"], unfollowed := true, recurses := true, named := ["math/bits.divideError", "math/bits.overflowError"], apart := false, narrowed := true }
def SeriesTurnedUptoSaid : Prop := seriesTurnedUptoRow.holds Try.pinned (OpenSpec.upto seriesTurnedSpec)

/-- 'rosettelaw18.RootSquares', WHERE WHAT IT READS IS OF BULK AT MOST 1048576: true; the input reads as it did. -/
def rootSquaresUptoRow : OpenClaim := { program := "ytmnfokapdipcdaa", sum := "c98a2801054fe829f69a216d17784c09366049f50dee8c3a2e33608d072a82a9", func := "rosette/rosettelaw18.RootSquares", spec := "rootSquares", inPlace := ["math/bits.Add64", "math/bits.Sub64"], unfollowed := true, recurses := true, named := ["math/bits.divideError", "math/bits.overflowError"], apart := false, narrowed := true }
def RootSquaresUptoSaid : Prop := rootSquaresUptoRow.holds Try.pinned (OpenSpec.upto rootSquaresSpec)

/-- 'rosettelaw18.RootOf', WHERE WHAT IT READS IS OF BULK AT MOST 1048576: true; the input reads as it did. -/
def rootOfUptoRow : OpenClaim := { program := "ytmnfokapdipcdaa", sum := "c98a2801054fe829f69a216d17784c09366049f50dee8c3a2e33608d072a82a9", func := "rosette/rosettelaw18.RootOf", spec := "rootOf", inPlace := ["math/bits.Add64", "math/bits.Sub64"], unfollowed := true, recurses := true, named := ["math/bits.divideError", "math/bits.overflowError"], apart := false, narrowed := true }
def RootOfUptoSaid : Prop := rootOfUptoRow.holds Try.pinned (OpenSpec.upto rootOfSpec)

/-- 'rosettelaw18.RootPerfect', WHERE WHAT IT READS IS OF BULK AT MOST 1048576: true; the input reads as it did. -/
def rootPerfectUptoRow : OpenClaim := { program := "ytmnfokapdipcdaa", sum := "c98a2801054fe829f69a216d17784c09366049f50dee8c3a2e33608d072a82a9", func := "rosette/rosettelaw18.RootPerfect", spec := "rootPerfect", inPlace := ["math/bits.Add64", "math/bits.Sub64"], unfollowed := true, recurses := true, named := ["math/bits.divideError", "math/bits.overflowError"], apart := false, narrowed := true }
def RootPerfectUptoSaid : Prop := rootPerfectUptoRow.holds Try.pinned (OpenSpec.upto rootPerfectSpec)

/-- 'rosettelaw18.RootNumbers', WHERE WHAT IT READS IS OF BULK AT MOST 1048576: true; the input reads as it did. -/
def rootNumbersUptoRow : OpenClaim := { program := "ytmnfokapdipcdaa", sum := "c98a2801054fe829f69a216d17784c09366049f50dee8c3a2e33608d072a82a9", func := "rosette/rosettelaw18.RootNumbers", spec := "rootNumbers", inPlace := ["math/bits.Add64", "math/bits.Sub64"], unfollowed := true, recurses := true, named := ["math/bits.divideError", "math/bits.overflowError"], apart := false, narrowed := true }
def RootNumbersUptoSaid : Prop := rootNumbersUptoRow.holds Try.pinned (OpenSpec.upto rootNumbersSpec)

/-- 'rosettelaw18.RootRises', WHERE WHAT IT READS IS OF BULK AT MOST 1048576: true; the input reads as it did. -/
def rootRisesUptoRow : OpenClaim := { program := "ytmnfokapdipcdaa", sum := "c98a2801054fe829f69a216d17784c09366049f50dee8c3a2e33608d072a82a9", func := "rosette/rosettelaw18.RootRises", spec := "rootRises", inPlace := ["math/bits.Add64", "math/bits.Sub64"], unfollowed := true, recurses := true, named := ["math/bits.divideError", "math/bits.overflowError"], apart := false, narrowed := true }
def RootRisesUptoSaid : Prop := rootRisesUptoRow.holds Try.pinned (OpenSpec.upto rootRisesSpec)

/-- 'rosettelaw24.SeriesBack', WHERE WHAT IT READS IS OF BULK AT MOST 1048576: true; the input reads as it did. -/
def seriesBackUptoRow : OpenClaim := { program := "ytmnfokapdipcdaa", sum := "c98a2801054fe829f69a216d17784c09366049f50dee8c3a2e33608d072a82a9", func := "rosette/rosettelaw24.SeriesBack", spec := "seriesBack", inPlace := ["math/bits.Add64", "math/bits.Sub64"], unfollowed := true, recurses := true, named := ["math/bits.divideError", "math/bits.overflowError"], apart := false, narrowed := true }
def SeriesBackUptoSaid : Prop := seriesBackUptoRow.holds Try.pinned (OpenSpec.upto seriesBackSpec)

/-- 'rosettelaw24.SeriesLaid', WHERE WHAT IT READS IS OF BULK AT MOST 1048576: true; the input reads as it did. -/
def seriesLaidUptoRow : OpenClaim := { program := "ytmnfokapdipcdaa", sum := "c98a2801054fe829f69a216d17784c09366049f50dee8c3a2e33608d072a82a9", func := "rosette/rosettelaw24.SeriesLaid", spec := "seriesLaid", inPlace := ["math/bits.Add64", "math/bits.Sub64"], unfollowed := true, recurses := true, named := ["math/bits.divideError", "math/bits.overflowError"], apart := false, narrowed := true }
def SeriesLaidUptoSaid : Prop := seriesLaidUptoRow.holds Try.pinned (OpenSpec.upto seriesLaidSpec)

/-- 'rosettelaw18.RootPowers', WHERE WHAT IT READS IS OF BULK AT MOST 1048576: true; the input reads as it did. -/
def rootPowersUptoRow : OpenClaim := { program := "ytmnfokapdipcdaa", sum := "c98a2801054fe829f69a216d17784c09366049f50dee8c3a2e33608d072a82a9", func := "rosette/rosettelaw18.RootPowers", spec := "rootPowers", inPlace := ["math/bits.Add64", "math/bits.Sub64"], unfollowed := true, recurses := true, named := ["math/bits.divideError", "math/bits.overflowError"], apart := false, narrowed := true }
def RootPowersUptoSaid : Prop := rootPowersUptoRow.holds Try.pinned (OpenSpec.upto rootPowersSpec)

/-- 'rosettelaw18.RootHolds', WHERE WHAT IT READS IS OF BULK AT MOST 1048576: true; the input reads as it did. -/
def rootHoldsUptoRow : OpenClaim := { program := "ytmnfokapdipcdaa", sum := "c98a2801054fe829f69a216d17784c09366049f50dee8c3a2e33608d072a82a9", func := "rosette/rosettelaw18.RootHolds", spec := "rootHolds", inPlace := ["math/bits.Add64", "math/bits.Sub64"], unfollowed := true, recurses := true, named := ["math/bits.divideError", "math/bits.overflowError"], apart := false, narrowed := true }
def RootHoldsUptoSaid : Prop := rootHoldsUptoRow.holds Try.pinned (OpenSpec.upto rootHoldsSpec)

end Rows
end Go.Proofs.Ytmnfokapdipcdaa
