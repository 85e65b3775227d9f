/-
  No cell of these rows narrows 'for every input' (looked for: loops, veiled, ifaces, maps, wideKeys, modest, calm, conditions, laid).
  DERIVED. THE GIVEN ROWS OF THIS SEAT. 5 by the template 'for every input the law returns true; each argument reads behind the call as it read before'; 0 by the template 'total and deterministic' (their statements: YtonbhpadoplpkaaTotals.lean).
  GIVEN WITH THE SEED: the statements are not yours to turn. If you find one false, say at which input.
  Laid BY PROGRAM, IN A SANDBOX (cutbox-rows.mjs): the forced cells as the released guide's own fill.sh prints them over the translation 8c54220affffe4b8… (all of the seat's roots in one cut). By AI agents, Wed Nov 11 2026. No macro, syntax, notation, axiom, sorry.
-/
import Derived.Test.YtonbhpadoplpkaaChecked
import GoSem.Claim
import GoSem.ClaimJoined
import GoSem.ClaimMapViews
import Derived.JoinedTies
import Derived.KernelRfl
namespace Go.Proofs.Ytonbhpadoplpkaa
/- THE CELL 'sum', in the pinned program and in every row, IS THE sha256 OF THE DUMP (.gsa) THAT YtonbhpadoplpkaaProg.lean LOADS. Nothing in Lean hashes anything: it is a label: what it is worth is what the hold of that sum in a sandbox is worth. -/
noncomputable def Try.pinned : Pinned := { name := "ytonbhpadoplpkaa", sum := "8c54220affffe4b8dc31a29bee98e77b5eafda1d0583e403cb768df556452adf", checked := Try.checked }
namespace Rows
def none {H : Type} : Left H := { results := [], args := [] }

/-- 'rosettelaw17.DivideBack': WHATEVER THE INPUT: true; the input reads as it did. -/
def divideBackSpec : ChangeSpec := { name := "divideBack", fn := fun _ => fun
  | [d1, d2] => { results := [.lit (.bool true)], args := [d1, d2] }
  | _ => none }
def divideBackRow : OpenClaim := { program := "ytonbhpadoplpkaa", sum := "8c54220affffe4b8dc31a29bee98e77b5eafda1d0583e403cb768df556452adf", func := "rosette/rosettelaw17.DivideBack", spec := "divideBack", inPlace := ["math/bits.Add64", "math/bits.Sub64"], unfollowed := true, recurses := true, named := ["math/bits.divideError", "math/bits.overflowError"], apart := false }
def DivideBackSaid : Prop := divideBackRow.holds Try.pinned (OpenSpec.ofChange divideBackSpec)

/-- ITS FALSE NEIGHBOUR: 'it returns false'. Refute it at one input. -/
def divideBackWrong : ChangeSpec := { name := "divideBack", fn := fun _ => fun
  | [d1, d2] => { results := [.lit (.bool false)], args := [d1, d2] }
  | _ => none }
def DivideBackWrongFalsely : Prop := divideBackRow.holds Try.pinned (OpenSpec.ofChange divideBackWrong)

/-- 'rosettelaw17.DivideTurned': WHATEVER THE INPUT: true; the input reads as it did. -/
def divideTurnedSpec : ChangeSpec := { name := "divideTurned", fn := fun _ => fun
  | [d1, d2, d3] => { results := [.lit (.bool true)], args := [d1, d2, d3] }
  | _ => none }
def divideTurnedRow : OpenClaim := { program := "ytonbhpadoplpkaa", sum := "8c54220affffe4b8dc31a29bee98e77b5eafda1d0583e403cb768df556452adf", func := "rosette/rosettelaw17.DivideTurned", spec := "divideTurned", inPlace := ["math/bits.Add64", "math/bits.Sub64"], unfollowed := true, recurses := true, named := ["math/bits.divideError", "math/bits.overflowError"], apart := false }
def DivideTurnedSaid : Prop := divideTurnedRow.holds Try.pinned (OpenSpec.ofChange divideTurnedSpec)

/-- ITS FALSE NEIGHBOUR: 'it returns false'. Refute it at one input. -/
def divideTurnedWrong : ChangeSpec := { name := "divideTurned", fn := fun _ => fun
  | [d1, d2, d3] => { results := [.lit (.bool false)], args := [d1, d2, d3] }
  | _ => none }
def DivideTurnedWrongFalsely : Prop := divideTurnedRow.holds Try.pinned (OpenSpec.ofChange divideTurnedWrong)

/-- 'rosettelaw17.DivideGreat': WHATEVER THE INPUT: true; the input reads as it did. -/
def divideGreatSpec : ChangeSpec := { name := "divideGreat", fn := fun _ => fun
  | [d1, d2, d3, d4] => { results := [.lit (.bool true)], args := [d1, d2, d3, d4] }
  | _ => none }
def divideGreatRow : OpenClaim := { program := "ytonbhpadoplpkaa", sum := "8c54220affffe4b8dc31a29bee98e77b5eafda1d0583e403cb768df556452adf", func := "rosette/rosettelaw17.DivideGreat", spec := "divideGreat", inPlace := ["math/bits.Add64", "math/bits.Sub64"], unfollowed := true, recurses := true, named := ["math/bits.divideError", "math/bits.overflowError"], apart := false }
def DivideGreatSaid : Prop := divideGreatRow.holds Try.pinned (OpenSpec.ofChange divideGreatSpec)

/-- ITS FALSE NEIGHBOUR: 'it returns false'. Refute it at one input. -/
def divideGreatWrong : ChangeSpec := { name := "divideGreat", fn := fun _ => fun
  | [d1, d2, d3, d4] => { results := [.lit (.bool false)], args := [d1, d2, d3, d4] }
  | _ => none }
def DivideGreatWrongFalsely : Prop := divideGreatRow.holds Try.pinned (OpenSpec.ofChange divideGreatWrong)

/-- 'rosettelaw20.GcdAcross': WHATEVER THE INPUT: true; the input reads as it did. -/
def gcdAcrossSpec : ChangeSpec := { name := "gcdAcross", fn := fun _ => fun
  | [d1, d2, d3] => { results := [.lit (.bool true)], args := [d1, d2, d3] }
  | _ => none }
def gcdAcrossRow : OpenClaim := { program := "ytonbhpadoplpkaa", sum := "8c54220affffe4b8dc31a29bee98e77b5eafda1d0583e403cb768df556452adf", func := "rosette/rosettelaw20.GcdAcross", spec := "gcdAcross", inPlace := ["math/bits.Add64", "math/bits.Sub64"], unfollowed := true, recurses := true, named := ["math/bits.divideError", "math/bits.overflowError"], apart := false }
def GcdAcrossSaid : Prop := gcdAcrossRow.holds Try.pinned (OpenSpec.ofChange gcdAcrossSpec)

/-- ITS FALSE NEIGHBOUR: 'it returns false'. Refute it at one input. -/
def gcdAcrossWrong : ChangeSpec := { name := "gcdAcross", fn := fun _ => fun
  | [d1, d2, d3] => { results := [.lit (.bool false)], args := [d1, d2, d3] }
  | _ => none }
def GcdAcrossWrongFalsely : Prop := gcdAcrossRow.holds Try.pinned (OpenSpec.ofChange gcdAcrossWrong)

/-- 'rosettelaw20.GcdLong': WHATEVER THE INPUT: true; the input reads as it did. -/
def gcdLongSpec : ChangeSpec := { name := "gcdLong", fn := fun _ => fun
  | [d1, d2] => { results := [.lit (.bool true)], args := [d1, d2] }
  | _ => none }
def gcdLongRow : OpenClaim := { program := "ytonbhpadoplpkaa", sum := "8c54220affffe4b8dc31a29bee98e77b5eafda1d0583e403cb768df556452adf", func := "rosette/rosettelaw20.GcdLong", spec := "gcdLong", inPlace := ["math/bits.Add64", "math/bits.Sub64"], unfollowed := true, recurses := true, named := ["math/bits.divideError", "math/bits.overflowError"], apart := false }
def GcdLongSaid : Prop := gcdLongRow.holds Try.pinned (OpenSpec.ofChange gcdLongSpec)

/-- ITS FALSE NEIGHBOUR: 'it returns false'. Refute it at one input. -/
def gcdLongWrong : ChangeSpec := { name := "gcdLong", fn := fun _ => fun
  | [d1, d2] => { results := [.lit (.bool false)], args := [d1, d2] }
  | _ => none }
def GcdLongWrongFalsely : Prop := gcdLongRow.holds Try.pinned (OpenSpec.ofChange gcdLongWrong)

/- THE SECOND FORM. 'bulk': how many values and letters a reading holds, each counted each time it is reached (what is shared counts as often as it is met; a slice's spare places count too). A statement '..UptoSaid' is the law's where the arguments, and the package variables that the reading takes, are together of bulk at most 1048576: NARROWER than '..Said'. Prove '..Said' where nothing that the law and all that it calls make is longer than what came in: it says more and counts as full. Else prove '..UptoSaid'. A law counts once. -/
mutual
def uptoBulk {H : Type} : DataW H → Nat
  | .lit (.string bytes) => bytes.length + 1
  | .lit _ => 1
  | .nil => 1
  | .ptr d => uptoBulk d + 1
  | .slice elems spare => uptoBulkAll elems + uptoBulkAll spare + 1
  | .agg parts => uptoBulkAll parts + 1
  | .iface _ d => uptoBulk d + 1
  | .map entries => uptoBulkEntries entries + 1
  | .held _ => 1
def uptoBulkAll {H : Type} : List (DataW H) → Nat
  | [] => 0
  | d :: r => uptoBulk d + uptoBulkAll r
def uptoBulkEntries {H : Type} : List (Lit × DataW H) → Nat
  | [] => 0
  | x :: r => uptoBulkEntry x + uptoBulkEntries r
def uptoBulkEntry {H : Type} : Lit × DataW H → Nat
  | (.string bytes, d) => bytes.length + uptoBulk d + 1
  | (_, d) => uptoBulk d + 1
 end
def uptoSmall : (H : Type) → List (DataW H) → Bool := fun _ ds => decide (uptoBulkAll ds ≤ 1048576)
def OpenSpec.upto (s : _root_.Go.ChangeSpec) : _root_.Go.OpenSpec := { _root_.Go.OpenSpec.ofChange s with cond := some uptoSmall }

/-- 'rosettelaw17.DivideBack', WHERE WHAT IT READS IS OF BULK AT MOST 1048576: true; the input reads as it did. -/
def divideBackUptoRow : OpenClaim := { program := "ytonbhpadoplpkaa", sum := "8c54220affffe4b8dc31a29bee98e77b5eafda1d0583e403cb768df556452adf", func := "rosette/rosettelaw17.DivideBack", spec := "divideBack", inPlace := ["math/bits.Add64", "math/bits.Sub64"], unfollowed := true, recurses := true, named := ["math/bits.divideError", "math/bits.overflowError"], apart := false, narrowed := true }
def DivideBackUptoSaid : Prop := divideBackUptoRow.holds Try.pinned (OpenSpec.upto divideBackSpec)

/-- 'rosettelaw17.DivideTurned', WHERE WHAT IT READS IS OF BULK AT MOST 1048576: true; the input reads as it did. -/
def divideTurnedUptoRow : OpenClaim := { program := "ytonbhpadoplpkaa", sum := "8c54220affffe4b8dc31a29bee98e77b5eafda1d0583e403cb768df556452adf", func := "rosette/rosettelaw17.DivideTurned", spec := "divideTurned", inPlace := ["math/bits.Add64", "math/bits.Sub64"], unfollowed := true, recurses := true, named := ["math/bits.divideError", "math/bits.overflowError"], apart := false, narrowed := true }
def DivideTurnedUptoSaid : Prop := divideTurnedUptoRow.holds Try.pinned (OpenSpec.upto divideTurnedSpec)

/-- 'rosettelaw17.DivideGreat', WHERE WHAT IT READS IS OF BULK AT MOST 1048576: true; the input reads as it did. -/
def divideGreatUptoRow : OpenClaim := { program := "ytonbhpadoplpkaa", sum := "8c54220affffe4b8dc31a29bee98e77b5eafda1d0583e403cb768df556452adf", func := "rosette/rosettelaw17.DivideGreat", spec := "divideGreat", inPlace := ["math/bits.Add64", "math/bits.Sub64"], unfollowed := true, recurses := true, named := ["math/bits.divideError", "math/bits.overflowError"], apart := false, narrowed := true }
def DivideGreatUptoSaid : Prop := divideGreatUptoRow.holds Try.pinned (OpenSpec.upto divideGreatSpec)

/-- 'rosettelaw20.GcdAcross', WHERE WHAT IT READS IS OF BULK AT MOST 1048576: true; the input reads as it did. -/
def gcdAcrossUptoRow : OpenClaim := { program := "ytonbhpadoplpkaa", sum := "8c54220affffe4b8dc31a29bee98e77b5eafda1d0583e403cb768df556452adf", func := "rosette/rosettelaw20.GcdAcross", spec := "gcdAcross", inPlace := ["math/bits.Add64", "math/bits.Sub64"], unfollowed := true, recurses := true, named := ["math/bits.divideError", "math/bits.overflowError"], apart := false, narrowed := true }
def GcdAcrossUptoSaid : Prop := gcdAcrossUptoRow.holds Try.pinned (OpenSpec.upto gcdAcrossSpec)

/-- 'rosettelaw20.GcdLong', WHERE WHAT IT READS IS OF BULK AT MOST 1048576: true; the input reads as it did. -/
def gcdLongUptoRow : OpenClaim := { program := "ytonbhpadoplpkaa", sum := "8c54220affffe4b8dc31a29bee98e77b5eafda1d0583e403cb768df556452adf", func := "rosette/rosettelaw20.GcdLong", spec := "gcdLong", inPlace := ["math/bits.Add64", "math/bits.Sub64"], unfollowed := true, recurses := true, named := ["math/bits.divideError", "math/bits.overflowError"], apart := false, narrowed := true }
def GcdLongUptoSaid : Prop := gcdLongUptoRow.holds Try.pinned (OpenSpec.upto gcdLongSpec)

end Rows
end Go.Proofs.Ytonbhpadoplpkaa
