/-
  No cell of these rows narrows 'for every input' (looked for: loops, veiled, ifaces, maps, wideKeys, modest, calm, conditions, laid).
  DERIVED. THE GIVEN ROWS OF THIS SEAT. 7 by the template 'for every input the law returns true; each argument reads behind the call as it read before'; 0 by the template 'total and deterministic' (their statements: YtonbhpadoplpkaaGreatTotals.lean).
  GIVEN WITH THE SEED: the statements are not yours to turn. If you find one false, say at which input.
  Laid BY PROGRAM, IN A SANDBOX (cutbox-rows.mjs): the forced cells as the released guide's own fill.sh prints them over the translation 00154c0b15a7f0ea… (all of the seat's roots in one cut). By AI agents, Wed Nov 11 2026. No macro, syntax, notation, axiom, sorry.
-/
import Derived.Test.YtonbhpadoplpkaaGreatChecked
import GoSem.Claim
import GoSem.ClaimJoined
import GoSem.ClaimMapViews
import Derived.JoinedTies
import Derived.KernelRfl
namespace Go.Proofs.YtonbhpadoplpkaaGreat
/- THE CELL 'sum', in the pinned program and in every row, IS THE sha256 OF THE DUMP (.gsa) THAT YtonbhpadoplpkaaGreatProg.lean LOADS. Nothing in Lean hashes anything: it is a label: what it is worth is what the hold of that sum in a sandbox is worth. -/
noncomputable def Tryz.pinned : Pinned := { name := "ytonbhpadoplpkaagreat", sum := "00154c0b15a7f0eac7b5c5f16edd8886eb10f0bce8ad13fc897e20c6adfb0f18", checked := Tryz.checked }
namespace Rows
def none {H : Type} : Left H := { results := [], args := [] }

/-- 'rosettelaw17.DivideTells': WHATEVER THE INPUT: true; the input reads as it did. -/
def divideTellsSpec : ChangeSpec := { name := "divideTells", fn := fun _ => fun
  | [d1, d2] => { results := [.lit (.bool true)], args := [d1, d2] }
  | _ => none }
def divideTellsRow : OpenClaim := { program := "ytonbhpadoplpkaagreat", sum := "00154c0b15a7f0eac7b5c5f16edd8886eb10f0bce8ad13fc897e20c6adfb0f18", func := "rosette/rosettelaw17.DivideTells", spec := "divideTells", inPlace := ["math/bits.Add64", "math/bits.Sub64"], unfollowed := true, recurses := true, named := ["math/bits.divideError", "math/bits.overflowError"], apart := false }
def DivideTellsSaid : Prop := divideTellsRow.holds Tryz.pinned (OpenSpec.ofChange divideTellsSpec)

/-- ITS FALSE NEIGHBOUR: 'it returns false'. Refute it at one input. -/
def divideTellsWrong : ChangeSpec := { name := "divideTells", fn := fun _ => fun
  | [d1, d2] => { results := [.lit (.bool false)], args := [d1, d2] }
  | _ => none }
def DivideTellsWrongFalsely : Prop := divideTellsRow.holds Tryz.pinned (OpenSpec.ofChange divideTellsWrong)

/-- 'rosettelaw17.DivideKeeps': WHATEVER THE INPUT: true; the input reads as it did. -/
def divideKeepsSpec : ChangeSpec := { name := "divideKeeps", fn := fun _ => fun
  | [d1, d2] => { results := [.lit (.bool true)], args := [d1, d2] }
  | _ => none }
def divideKeepsRow : OpenClaim := { program := "ytonbhpadoplpkaagreat", sum := "00154c0b15a7f0eac7b5c5f16edd8886eb10f0bce8ad13fc897e20c6adfb0f18", func := "rosette/rosettelaw17.DivideKeeps", spec := "divideKeeps", inPlace := ["math/bits.Add64", "math/bits.Sub64"], unfollowed := true, recurses := true, named := ["math/bits.divideError", "math/bits.overflowError"], apart := false }
def DivideKeepsSaid : Prop := divideKeepsRow.holds Tryz.pinned (OpenSpec.ofChange divideKeepsSpec)

/-- ITS FALSE NEIGHBOUR: 'it returns false'. Refute it at one input. -/
def divideKeepsWrong : ChangeSpec := { name := "divideKeeps", fn := fun _ => fun
  | [d1, d2] => { results := [.lit (.bool false)], args := [d1, d2] }
  | _ => none }
def DivideKeepsWrongFalsely : Prop := divideKeepsRow.holds Tryz.pinned (OpenSpec.ofChange divideKeepsWrong)

/-- 'rosettelaw20.GcdTells': WHATEVER THE INPUT: true; the input reads as it did. -/
def gcdTellsSpec : ChangeSpec := { name := "gcdTells", fn := fun _ => fun
  | [d1, d2] => { results := [.lit (.bool true)], args := [d1, d2] }
  | _ => none }
def gcdTellsRow : OpenClaim := { program := "ytonbhpadoplpkaagreat", sum := "00154c0b15a7f0eac7b5c5f16edd8886eb10f0bce8ad13fc897e20c6adfb0f18", func := "rosette/rosettelaw20.GcdTells", spec := "gcdTells", inPlace := ["math/bits.Add64", "math/bits.Sub64"], unfollowed := true, recurses := true, named := ["math/bits.divideError", "math/bits.overflowError"], apart := false }
def GcdTellsSaid : Prop := gcdTellsRow.holds Tryz.pinned (OpenSpec.ofChange gcdTellsSpec)

/-- ITS FALSE NEIGHBOUR: 'it returns false'. Refute it at one input. -/
def gcdTellsWrong : ChangeSpec := { name := "gcdTells", fn := fun _ => fun
  | [d1, d2] => { results := [.lit (.bool false)], args := [d1, d2] }
  | _ => none }
def GcdTellsWrongFalsely : Prop := gcdTellsRow.holds Tryz.pinned (OpenSpec.ofChange gcdTellsWrong)

/-- 'rosettelaw20.GcdJoins': WHATEVER THE INPUT: true; the input reads as it did. -/
def gcdJoinsSpec : ChangeSpec := { name := "gcdJoins", fn := fun _ => fun
  | [d1, d2, d3, d4] => { results := [.lit (.bool true)], args := [d1, d2, d3, d4] }
  | _ => none }
def gcdJoinsRow : OpenClaim := { program := "ytonbhpadoplpkaagreat", sum := "00154c0b15a7f0eac7b5c5f16edd8886eb10f0bce8ad13fc897e20c6adfb0f18", func := "rosette/rosettelaw20.GcdJoins", spec := "gcdJoins", inPlace := ["math/bits.Add64", "math/bits.Sub64"], unfollowed := true, recurses := true, named := ["math/bits.divideError", "math/bits.overflowError"], apart := false }
def GcdJoinsSaid : Prop := gcdJoinsRow.holds Tryz.pinned (OpenSpec.ofChange gcdJoinsSpec)

/-- ITS FALSE NEIGHBOUR: 'it returns false'. Refute it at one input. -/
def gcdJoinsWrong : ChangeSpec := { name := "gcdJoins", fn := fun _ => fun
  | [d1, d2, d3, d4] => { results := [.lit (.bool false)], args := [d1, d2, d3, d4] }
  | _ => none }
def GcdJoinsWrongFalsely : Prop := gcdJoinsRow.holds Tryz.pinned (OpenSpec.ofChange gcdJoinsWrong)

/-- 'rosettelaw20.GcdMade': WHATEVER THE INPUT: true; the input reads as it did. -/
def gcdMadeSpec : ChangeSpec := { name := "gcdMade", fn := fun _ => fun
  | [d1, d2] => { results := [.lit (.bool true)], args := [d1, d2] }
  | _ => none }
def gcdMadeRow : OpenClaim := { program := "ytonbhpadoplpkaagreat", sum := "00154c0b15a7f0eac7b5c5f16edd8886eb10f0bce8ad13fc897e20c6adfb0f18", func := "rosette/rosettelaw20.GcdMade", spec := "gcdMade", inPlace := ["math/bits.Add64", "math/bits.Sub64"], unfollowed := true, recurses := true, named := ["math/bits.divideError", "math/bits.overflowError"], apart := false }
def GcdMadeSaid : Prop := gcdMadeRow.holds Tryz.pinned (OpenSpec.ofChange gcdMadeSpec)

/-- ITS FALSE NEIGHBOUR: 'it returns false'. Refute it at one input. -/
def gcdMadeWrong : ChangeSpec := { name := "gcdMade", fn := fun _ => fun
  | [d1, d2] => { results := [.lit (.bool false)], args := [d1, d2] }
  | _ => none }
def GcdMadeWrongFalsely : Prop := gcdMadeRow.holds Tryz.pinned (OpenSpec.ofChange gcdMadeWrong)

/-- 'rosettelaw20.GcdRests': WHATEVER THE INPUT: true; the input reads as it did. -/
def gcdRestsSpec : ChangeSpec := { name := "gcdRests", fn := fun _ => fun
  | [d1, d2, d3, d4, d5] => { results := [.lit (.bool true)], args := [d1, d2, d3, d4, d5] }
  | _ => none }
def gcdRestsRow : OpenClaim := { program := "ytonbhpadoplpkaagreat", sum := "00154c0b15a7f0eac7b5c5f16edd8886eb10f0bce8ad13fc897e20c6adfb0f18", func := "rosette/rosettelaw20.GcdRests", spec := "gcdRests", inPlace := ["math/bits.Add64", "math/bits.Sub64"], unfollowed := true, recurses := true, named := ["math/bits.divideError", "math/bits.overflowError"], apart := false }
def GcdRestsSaid : Prop := gcdRestsRow.holds Tryz.pinned (OpenSpec.ofChange gcdRestsSpec)

/-- ITS FALSE NEIGHBOUR: 'it returns false'. Refute it at one input. -/
def gcdRestsWrong : ChangeSpec := { name := "gcdRests", fn := fun _ => fun
  | [d1, d2, d3, d4, d5] => { results := [.lit (.bool false)], args := [d1, d2, d3, d4, d5] }
  | _ => none }
def GcdRestsWrongFalsely : Prop := gcdRestsRow.holds Tryz.pinned (OpenSpec.ofChange gcdRestsWrong)

/-- 'rosettelaw20.GcdKeeps': WHATEVER THE INPUT: true; the input reads as it did. -/
def gcdKeepsSpec : ChangeSpec := { name := "gcdKeeps", fn := fun _ => fun
  | [d1, d2] => { results := [.lit (.bool true)], args := [d1, d2] }
  | _ => none }
def gcdKeepsRow : OpenClaim := { program := "ytonbhpadoplpkaagreat", sum := "00154c0b15a7f0eac7b5c5f16edd8886eb10f0bce8ad13fc897e20c6adfb0f18", func := "rosette/rosettelaw20.GcdKeeps", spec := "gcdKeeps", inPlace := ["math/bits.Add64", "math/bits.Sub64"], unfollowed := true, recurses := true, named := ["math/bits.divideError", "math/bits.overflowError"], apart := false }
def GcdKeepsSaid : Prop := gcdKeepsRow.holds Tryz.pinned (OpenSpec.ofChange gcdKeepsSpec)

/-- ITS FALSE NEIGHBOUR: 'it returns false'. Refute it at one input. -/
def gcdKeepsWrong : ChangeSpec := { name := "gcdKeeps", fn := fun _ => fun
  | [d1, d2] => { results := [.lit (.bool false)], args := [d1, d2] }
  | _ => none }
def GcdKeepsWrongFalsely : Prop := gcdKeepsRow.holds Tryz.pinned (OpenSpec.ofChange gcdKeepsWrong)

/- THE SECOND FORM. 'bulk': how many values and letters a reading holds, each counted each time it is reached (what is shared counts as often as it is met; a slice's spare places count too). A statement '..UptoSaid' is the law's where the arguments, and the package variables that the reading takes, are together of bulk at most 1048576: NARROWER than '..Said'. Prove '..Said' where nothing that the law and all that it calls make is longer than what came in: it says more and counts as full. Else prove '..UptoSaid'. A law counts once. -/
mutual
def uptoBulk {H : Type} : DataW H → Nat
  | .lit (.string bytes) => bytes.length + 1
  | .lit _ => 1
  | .nil => 1
  | .ptr d => uptoBulk d + 1
  | .slice elems spare => uptoBulkAll elems + uptoBulkAll spare + 1
  | .agg parts => uptoBulkAll parts + 1
  | .iface _ d => uptoBulk d + 1
  | .map entries => uptoBulkEntries entries + 1
  | .held _ => 1
def uptoBulkAll {H : Type} : List (DataW H) → Nat
  | [] => 0
  | d :: r => uptoBulk d + uptoBulkAll r
def uptoBulkEntries {H : Type} : List (Lit × DataW H) → Nat
  | [] => 0
  | x :: r => uptoBulkEntry x + uptoBulkEntries r
def uptoBulkEntry {H : Type} : Lit × DataW H → Nat
  | (.string bytes, d) => bytes.length + uptoBulk d + 1
  | (_, d) => uptoBulk d + 1
 end
def uptoSmall : (H : Type) → List (DataW H) → Bool := fun _ ds => decide (uptoBulkAll ds ≤ 1048576)
def OpenSpec.upto (s : _root_.Go.ChangeSpec) : _root_.Go.OpenSpec := { _root_.Go.OpenSpec.ofChange s with cond := some uptoSmall }

/-- 'rosettelaw17.DivideTells', WHERE WHAT IT READS IS OF BULK AT MOST 1048576: true; the input reads as it did. -/
def divideTellsUptoRow : OpenClaim := { program := "ytonbhpadoplpkaagreat", sum := "00154c0b15a7f0eac7b5c5f16edd8886eb10f0bce8ad13fc897e20c6adfb0f18", func := "rosette/rosettelaw17.DivideTells", spec := "divideTells", inPlace := ["math/bits.Add64", "math/bits.Sub64"], unfollowed := true, recurses := true, named := ["math/bits.divideError", "math/bits.overflowError"], apart := false, narrowed := true }
def DivideTellsUptoSaid : Prop := divideTellsUptoRow.holds Tryz.pinned (OpenSpec.upto divideTellsSpec)

/-- 'rosettelaw17.DivideKeeps', WHERE WHAT IT READS IS OF BULK AT MOST 1048576: true; the input reads as it did. -/
def divideKeepsUptoRow : OpenClaim := { program := "ytonbhpadoplpkaagreat", sum := "00154c0b15a7f0eac7b5c5f16edd8886eb10f0bce8ad13fc897e20c6adfb0f18", func := "rosette/rosettelaw17.DivideKeeps", spec := "divideKeeps", inPlace := ["math/bits.Add64", "math/bits.Sub64"], unfollowed := true, recurses := true, named := ["math/bits.divideError", "math/bits.overflowError"], apart := false, narrowed := true }
def DivideKeepsUptoSaid : Prop := divideKeepsUptoRow.holds Tryz.pinned (OpenSpec.upto divideKeepsSpec)

/-- 'rosettelaw20.GcdTells', WHERE WHAT IT READS IS OF BULK AT MOST 1048576: true; the input reads as it did. -/
def gcdTellsUptoRow : OpenClaim := { program := "ytonbhpadoplpkaagreat", sum := "00154c0b15a7f0eac7b5c5f16edd8886eb10f0bce8ad13fc897e20c6adfb0f18", func := "rosette/rosettelaw20.GcdTells", spec := "gcdTells", inPlace := ["math/bits.Add64", "math/bits.Sub64"], unfollowed := true, recurses := true, named := ["math/bits.divideError", "math/bits.overflowError"], apart := false, narrowed := true }
def GcdTellsUptoSaid : Prop := gcdTellsUptoRow.holds Tryz.pinned (OpenSpec.upto gcdTellsSpec)

/-- 'rosettelaw20.GcdJoins', WHERE WHAT IT READS IS OF BULK AT MOST 1048576: true; the input reads as it did. -/
def gcdJoinsUptoRow : OpenClaim := { program := "ytonbhpadoplpkaagreat", sum := "00154c0b15a7f0eac7b5c5f16edd8886eb10f0bce8ad13fc897e20c6adfb0f18", func := "rosette/rosettelaw20.GcdJoins", spec := "gcdJoins", inPlace := ["math/bits.Add64", "math/bits.Sub64"], unfollowed := true, recurses := true, named := ["math/bits.divideError", "math/bits.overflowError"], apart := false, narrowed := true }
def GcdJoinsUptoSaid : Prop := gcdJoinsUptoRow.holds Tryz.pinned (OpenSpec.upto gcdJoinsSpec)

/-- 'rosettelaw20.GcdMade', WHERE WHAT IT READS IS OF BULK AT MOST 1048576: true; the input reads as it did. -/
def gcdMadeUptoRow : OpenClaim := { program := "ytonbhpadoplpkaagreat", sum := "00154c0b15a7f0eac7b5c5f16edd8886eb10f0bce8ad13fc897e20c6adfb0f18", func := "rosette/rosettelaw20.GcdMade", spec := "gcdMade", inPlace := ["math/bits.Add64", "math/bits.Sub64"], unfollowed := true, recurses := true, named := ["math/bits.divideError", "math/bits.overflowError"], apart := false, narrowed := true }
def GcdMadeUptoSaid : Prop := gcdMadeUptoRow.holds Tryz.pinned (OpenSpec.upto gcdMadeSpec)

/-- 'rosettelaw20.GcdRests', WHERE WHAT IT READS IS OF BULK AT MOST 1048576: true; the input reads as it did. -/
def gcdRestsUptoRow : OpenClaim := { program := "ytonbhpadoplpkaagreat", sum := "00154c0b15a7f0eac7b5c5f16edd8886eb10f0bce8ad13fc897e20c6adfb0f18", func := "rosette/rosettelaw20.GcdRests", spec := "gcdRests", inPlace := ["math/bits.Add64", "math/bits.Sub64"], unfollowed := true, recurses := true, named := ["math/bits.divideError", "math/bits.overflowError"], apart := false, narrowed := true }
def GcdRestsUptoSaid : Prop := gcdRestsUptoRow.holds Tryz.pinned (OpenSpec.upto gcdRestsSpec)

/-- 'rosettelaw20.GcdKeeps', WHERE WHAT IT READS IS OF BULK AT MOST 1048576: true; the input reads as it did. -/
def gcdKeepsUptoRow : OpenClaim := { program := "ytonbhpadoplpkaagreat", sum := "00154c0b15a7f0eac7b5c5f16edd8886eb10f0bce8ad13fc897e20c6adfb0f18", func := "rosette/rosettelaw20.GcdKeeps", spec := "gcdKeeps", inPlace := ["math/bits.Add64", "math/bits.Sub64"], unfollowed := true, recurses := true, named := ["math/bits.divideError", "math/bits.overflowError"], apart := false, narrowed := true }
def GcdKeepsUptoSaid : Prop := gcdKeepsUptoRow.holds Tryz.pinned (OpenSpec.upto gcdKeepsSpec)

end Rows
end Go.Proofs.YtonbhpadoplpkaaGreat
