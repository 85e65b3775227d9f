/-
  NARROWER THAN 'FOR EVERY INPUT', by the rows' own cells (each row's printed sentence says how): PowerMods: laid · PowerSymbols: laid · PowerOrders: laid · PowerKeeps: laid · PowerNumbers: laid · PowerSquares: laid · PowerLeast: laid · PowerAdds: laid · PowerJacobi: laid · PowerPlain: laid.
  DERIVED. THE GIVEN ROWS OF THIS SEAT. 10 by the template 'for every input the law returns true; each argument reads behind the call as it read before'; 0 by the template 'total and deterministic' (their statements: YtjbagikfogejnaaGreatDoorTotals.lean).
  GIVEN WITH THE SEED: the statements are not yours to turn. If you find one false, say at which input.
  Laid BY PROGRAM, IN A SANDBOX (cutbox-rows.mjs): the forced cells as the released guide's own fill.sh prints them over the translation 1a08db55da54b622… (all of the seat's roots in one cut). By AI agents, Wed Nov 11 2026. No macro, syntax, notation, axiom, sorry.
-/
import Derived.Test.YtjbagikfogejnaaGreatDoorChecked
import GoSem.Claim
import GoSem.ClaimJoined
import GoSem.ClaimMapViews
import Derived.JoinedTies
import Derived.KernelRfl
namespace Go.Proofs.YtjbagikfogejnaaGreatDoor
/- THE CELL 'sum', in the pinned program and in every row, IS THE sha256 OF THE DUMP (.gsa) THAT YtjbagikfogejnaaGreatDoorProg.lean LOADS. Nothing in Lean hashes anything: it is a label: what it is worth is what the hold of that sum in a sandbox is worth. -/
noncomputable def Tryz.pinned : Pinned := { name := "ytjbagikfogejnaagreatdoor", sum := "1a08db55da54b6220b7a0750cb9222d1cda4df4ce7a8a312952f38972cc473d0", checked := Tryz.checked }
namespace Rows
def none {H : Type} : Left H := { results := [], args := [] }

/- WHAT THE LISTED PACKAGE-LEVEL VARIABLES READ AS WHEN THE CALL BEGINS. Each datum BY PROGRAM (the guide's laid-datum.mjs) off the statement by which the dump's own 'gosem.cut.vars' lays the variable. In a bare row this is a premise. The card (YtjbagikfogejnaaGreatDoorCards.lean) ties it to the program's text. -/
def laid_math_bits_deBruijn64tab {H : Type} : DataW H := .agg [.lit (.int .u8 0), .lit (.int .u8 1), .lit (.int .u8 56), .lit (.int .u8 2), .lit (.int .u8 57), .lit (.int .u8 49), .lit (.int .u8 28), .lit (.int .u8 3), .lit (.int .u8 61), .lit (.int .u8 58), .lit (.int .u8 42), .lit (.int .u8 50), .lit (.int .u8 38), .lit (.int .u8 29), .lit (.int .u8 17), .lit (.int .u8 4), .lit (.int .u8 62), .lit (.int .u8 47), .lit (.int .u8 59), .lit (.int .u8 36), .lit (.int .u8 45), .lit (.int .u8 43), .lit (.int .u8 51), .lit (.int .u8 22), .lit (.int .u8 53), .lit (.int .u8 39), .lit (.int .u8 33), .lit (.int .u8 30), .lit (.int .u8 24), .lit (.int .u8 18), .lit (.int .u8 12), .lit (.int .u8 5), .lit (.int .u8 63), .lit (.int .u8 55), .lit (.int .u8 48), .lit (.int .u8 27), .lit (.int .u8 60), .lit (.int .u8 41), .lit (.int .u8 37), .lit (.int .u8 16), .lit (.int .u8 46), .lit (.int .u8 35), .lit (.int .u8 44), .lit (.int .u8 21), .lit (.int .u8 52), .lit (.int .u8 32), .lit (.int .u8 23), .lit (.int .u8 11), .lit (.int .u8 54), .lit (.int .u8 26), .lit (.int .u8 40), .lit (.int .u8 15), .lit (.int .u8 34), .lit (.int .u8 20), .lit (.int .u8 31), .lit (.int .u8 10), .lit (.int .u8 25), .lit (.int .u8 14), .lit (.int .u8 19), .lit (.int .u8 9), .lit (.int .u8 13), .lit (.int .u8 8), .lit (.int .u8 7), .lit (.int .u8 6)]

/-- 'rosettelaw21.PowerMods': WHATEVER THE INPUT: true; the input reads as it did. -/
def powerModsSpec : ChangeSpec := { name := "powerMods", fn := fun _ => fun
  | [d1, d2, d3] => { results := [.lit (.bool true)], args := [d1, d2, d3] }
  | _ => none }
def powerModsRow : OpenClaim := { program := "ytjbagikfogejnaagreatdoor", sum := "1a08db55da54b6220b7a0750cb9222d1cda4df4ce7a8a312952f38972cc473d0", func := "rosette/rosettelaw21.PowerMods", spec := "powerMods", inPlace := ["math/bits.Add64", "math/bits.Sub64"], unfollowed := true, recurses := true, named := ["math/bits.divideError", "math/bits.overflowError", "math/bits.deBruijn64tab"], apart := false, laid := [("math/bits.deBruijn64tab", laid_math_bits_deBruijn64tab)] }
def PowerModsSaid : Prop := powerModsRow.holds Tryz.pinned (OpenSpec.ofChange powerModsSpec)

/-- ITS FALSE NEIGHBOUR: 'it returns false'. Refute it at one input. -/
def powerModsWrong : ChangeSpec := { name := "powerMods", fn := fun _ => fun
  | [d1, d2, d3] => { results := [.lit (.bool false)], args := [d1, d2, d3] }
  | _ => none }
def PowerModsWrongFalsely : Prop := powerModsRow.holds Tryz.pinned (OpenSpec.ofChange powerModsWrong)

/-- 'rosettelaw21.PowerSymbols': WHATEVER THE INPUT: true; the input reads as it did. -/
def powerSymbolsSpec : ChangeSpec := { name := "powerSymbols", fn := fun _ => fun
  | [d1, d2] => { results := [.lit (.bool true)], args := [d1, d2] }
  | _ => none }
def powerSymbolsRow : OpenClaim := { program := "ytjbagikfogejnaagreatdoor", sum := "1a08db55da54b6220b7a0750cb9222d1cda4df4ce7a8a312952f38972cc473d0", func := "rosette/rosettelaw21.PowerSymbols", spec := "powerSymbols", inPlace := ["math/bits.Add64", "math/bits.Sub64"], unfollowed := true, recurses := true, named := ["math/bits.divideError", "math/bits.overflowError", "math/bits.deBruijn64tab"], apart := false, laid := [("math/bits.deBruijn64tab", laid_math_bits_deBruijn64tab)] }
def PowerSymbolsSaid : Prop := powerSymbolsRow.holds Tryz.pinned (OpenSpec.ofChange powerSymbolsSpec)

/-- ITS FALSE NEIGHBOUR: 'it returns false'. Refute it at one input. -/
def powerSymbolsWrong : ChangeSpec := { name := "powerSymbols", fn := fun _ => fun
  | [d1, d2] => { results := [.lit (.bool false)], args := [d1, d2] }
  | _ => none }
def PowerSymbolsWrongFalsely : Prop := powerSymbolsRow.holds Tryz.pinned (OpenSpec.ofChange powerSymbolsWrong)

/-- 'rosettelaw21.PowerOrders': WHATEVER THE INPUT: true; the input reads as it did. -/
def powerOrdersSpec : ChangeSpec := { name := "powerOrders", fn := fun _ => fun
  | [d1, d2, d3, d4] => { results := [.lit (.bool true)], args := [d1, d2, d3, d4] }
  | _ => none }
def powerOrdersRow : OpenClaim := { program := "ytjbagikfogejnaagreatdoor", sum := "1a08db55da54b6220b7a0750cb9222d1cda4df4ce7a8a312952f38972cc473d0", func := "rosette/rosettelaw21.PowerOrders", spec := "powerOrders", inPlace := ["math/bits.Add64", "math/bits.Sub64"], unfollowed := true, recurses := true, named := ["math/bits.divideError", "math/bits.overflowError", "math/bits.deBruijn64tab"], apart := false, laid := [("math/bits.deBruijn64tab", laid_math_bits_deBruijn64tab)] }
def PowerOrdersSaid : Prop := powerOrdersRow.holds Tryz.pinned (OpenSpec.ofChange powerOrdersSpec)

/-- ITS FALSE NEIGHBOUR: 'it returns false'. Refute it at one input. -/
def powerOrdersWrong : ChangeSpec := { name := "powerOrders", fn := fun _ => fun
  | [d1, d2, d3, d4] => { results := [.lit (.bool false)], args := [d1, d2, d3, d4] }
  | _ => none }
def PowerOrdersWrongFalsely : Prop := powerOrdersRow.holds Tryz.pinned (OpenSpec.ofChange powerOrdersWrong)

/-- 'rosettelaw21.PowerKeeps': WHATEVER THE INPUT: true; the input reads as it did. -/
def powerKeepsSpec : ChangeSpec := { name := "powerKeeps", fn := fun _ => fun
  | [d1, d2, d3, d4] => { results := [.lit (.bool true)], args := [d1, d2, d3, d4] }
  | _ => none }
def powerKeepsRow : OpenClaim := { program := "ytjbagikfogejnaagreatdoor", sum := "1a08db55da54b6220b7a0750cb9222d1cda4df4ce7a8a312952f38972cc473d0", func := "rosette/rosettelaw21.PowerKeeps", spec := "powerKeeps", inPlace := ["math/bits.Add64", "math/bits.Sub64"], unfollowed := true, recurses := true, named := ["math/bits.divideError", "math/bits.overflowError", "math/bits.deBruijn64tab"], apart := false, laid := [("math/bits.deBruijn64tab", laid_math_bits_deBruijn64tab)] }
def PowerKeepsSaid : Prop := powerKeepsRow.holds Tryz.pinned (OpenSpec.ofChange powerKeepsSpec)

/-- ITS FALSE NEIGHBOUR: 'it returns false'. Refute it at one input. -/
def powerKeepsWrong : ChangeSpec := { name := "powerKeeps", fn := fun _ => fun
  | [d1, d2, d3, d4] => { results := [.lit (.bool false)], args := [d1, d2, d3, d4] }
  | _ => none }
def PowerKeepsWrongFalsely : Prop := powerKeepsRow.holds Tryz.pinned (OpenSpec.ofChange powerKeepsWrong)

/-- 'rosettelaw21.PowerNumbers': WHATEVER THE INPUT: true; the input reads as it did. -/
def powerNumbersSpec : ChangeSpec := { name := "powerNumbers", fn := fun _ => fun
  | [] => { results := [.lit (.bool true)], args := [] }
  | _ => none }
def powerNumbersRow : OpenClaim := { program := "ytjbagikfogejnaagreatdoor", sum := "1a08db55da54b6220b7a0750cb9222d1cda4df4ce7a8a312952f38972cc473d0", func := "rosette/rosettelaw21.PowerNumbers", spec := "powerNumbers", inPlace := ["math/bits.Add64", "math/bits.Sub64"], unfollowed := true, recurses := true, named := ["math/bits.divideError", "math/bits.overflowError", "math/bits.deBruijn64tab"], apart := false, laid := [("math/bits.deBruijn64tab", laid_math_bits_deBruijn64tab)] }
def PowerNumbersSaid : Prop := powerNumbersRow.holds Tryz.pinned (OpenSpec.ofChange powerNumbersSpec)

/-- ITS FALSE NEIGHBOUR: 'it returns false'. Refute it at one input. -/
def powerNumbersWrong : ChangeSpec := { name := "powerNumbers", fn := fun _ => fun
  | [] => { results := [.lit (.bool false)], args := [] }
  | _ => none }
def PowerNumbersWrongFalsely : Prop := powerNumbersRow.holds Tryz.pinned (OpenSpec.ofChange powerNumbersWrong)

/-- 'rosettelaw21.PowerSquares': WHATEVER THE INPUT: true; the input reads as it did. -/
def powerSquaresSpec : ChangeSpec := { name := "powerSquares", fn := fun _ => fun
  | [d1, d2] => { results := [.lit (.bool true)], args := [d1, d2] }
  | _ => none }
def powerSquaresRow : OpenClaim := { program := "ytjbagikfogejnaagreatdoor", sum := "1a08db55da54b6220b7a0750cb9222d1cda4df4ce7a8a312952f38972cc473d0", func := "rosette/rosettelaw21.PowerSquares", spec := "powerSquares", inPlace := ["math/bits.Add64", "math/bits.Sub64"], unfollowed := true, recurses := true, named := ["math/bits.divideError", "math/bits.overflowError", "math/bits.deBruijn64tab"], apart := false, laid := [("math/bits.deBruijn64tab", laid_math_bits_deBruijn64tab)] }
def PowerSquaresSaid : Prop := powerSquaresRow.holds Tryz.pinned (OpenSpec.ofChange powerSquaresSpec)

/-- ITS FALSE NEIGHBOUR: 'it returns false'. Refute it at one input. -/
def powerSquaresWrong : ChangeSpec := { name := "powerSquares", fn := fun _ => fun
  | [d1, d2] => { results := [.lit (.bool false)], args := [d1, d2] }
  | _ => none }
def PowerSquaresWrongFalsely : Prop := powerSquaresRow.holds Tryz.pinned (OpenSpec.ofChange powerSquaresWrong)

/-- 'rosettelaw21.PowerLeast': WHATEVER THE INPUT: true; the input reads as it did. -/
def powerLeastSpec : ChangeSpec := { name := "powerLeast", fn := fun _ => fun
  | [d1, d2] => { results := [.lit (.bool true)], args := [d1, d2] }
  | _ => none }
def powerLeastRow : OpenClaim := { program := "ytjbagikfogejnaagreatdoor", sum := "1a08db55da54b6220b7a0750cb9222d1cda4df4ce7a8a312952f38972cc473d0", func := "rosette/rosettelaw21.PowerLeast", spec := "powerLeast", inPlace := ["math/bits.Add64", "math/bits.Sub64"], unfollowed := true, recurses := true, named := ["math/bits.divideError", "math/bits.overflowError", "math/bits.deBruijn64tab"], apart := false, laid := [("math/bits.deBruijn64tab", laid_math_bits_deBruijn64tab)] }
def PowerLeastSaid : Prop := powerLeastRow.holds Tryz.pinned (OpenSpec.ofChange powerLeastSpec)

/-- ITS FALSE NEIGHBOUR: 'it returns false'. Refute it at one input. -/
def powerLeastWrong : ChangeSpec := { name := "powerLeast", fn := fun _ => fun
  | [d1, d2] => { results := [.lit (.bool false)], args := [d1, d2] }
  | _ => none }
def PowerLeastWrongFalsely : Prop := powerLeastRow.holds Tryz.pinned (OpenSpec.ofChange powerLeastWrong)

/-- 'rosettelaw21.PowerAdds': WHATEVER THE INPUT: true; the input reads as it did. -/
def powerAddsSpec : ChangeSpec := { name := "powerAdds", fn := fun _ => fun
  | [d1, d2, d3, d4] => { results := [.lit (.bool true)], args := [d1, d2, d3, d4] }
  | _ => none }
def powerAddsRow : OpenClaim := { program := "ytjbagikfogejnaagreatdoor", sum := "1a08db55da54b6220b7a0750cb9222d1cda4df4ce7a8a312952f38972cc473d0", func := "rosette/rosettelaw21.PowerAdds", spec := "powerAdds", inPlace := ["math/bits.Add64", "math/bits.Sub64"], unfollowed := true, recurses := true, named := ["math/bits.divideError", "math/bits.overflowError", "math/bits.deBruijn64tab"], apart := false, laid := [("math/bits.deBruijn64tab", laid_math_bits_deBruijn64tab)] }
def PowerAddsSaid : Prop := powerAddsRow.holds Tryz.pinned (OpenSpec.ofChange powerAddsSpec)

/-- ITS FALSE NEIGHBOUR: 'it returns false'. Refute it at one input. -/
def powerAddsWrong : ChangeSpec := { name := "powerAdds", fn := fun _ => fun
  | [d1, d2, d3, d4] => { results := [.lit (.bool false)], args := [d1, d2, d3, d4] }
  | _ => none }
def PowerAddsWrongFalsely : Prop := powerAddsRow.holds Tryz.pinned (OpenSpec.ofChange powerAddsWrong)

/-- 'rosettelaw21.PowerJacobi': WHATEVER THE INPUT: true; the input reads as it did. -/
def powerJacobiSpec : ChangeSpec := { name := "powerJacobi", fn := fun _ => fun
  | [d1, d2, d3, d4] => { results := [.lit (.bool true)], args := [d1, d2, d3, d4] }
  | _ => none }
def powerJacobiRow : OpenClaim := { program := "ytjbagikfogejnaagreatdoor", sum := "1a08db55da54b6220b7a0750cb9222d1cda4df4ce7a8a312952f38972cc473d0", func := "rosette/rosettelaw21.PowerJacobi", spec := "powerJacobi", inPlace := ["math/bits.Add64", "math/bits.Sub64"], unfollowed := true, recurses := true, named := ["math/bits.divideError", "math/bits.overflowError", "math/bits.deBruijn64tab"], apart := false, laid := [("math/bits.deBruijn64tab", laid_math_bits_deBruijn64tab)] }
def PowerJacobiSaid : Prop := powerJacobiRow.holds Tryz.pinned (OpenSpec.ofChange powerJacobiSpec)

/-- ITS FALSE NEIGHBOUR: 'it returns false'. Refute it at one input. -/
def powerJacobiWrong : ChangeSpec := { name := "powerJacobi", fn := fun _ => fun
  | [d1, d2, d3, d4] => { results := [.lit (.bool false)], args := [d1, d2, d3, d4] }
  | _ => none }
def PowerJacobiWrongFalsely : Prop := powerJacobiRow.holds Tryz.pinned (OpenSpec.ofChange powerJacobiWrong)

/-- 'rosettelaw21.PowerPlain': WHATEVER THE INPUT: true; the input reads as it did. -/
def powerPlainSpec : ChangeSpec := { name := "powerPlain", fn := fun _ => fun
  | [d1, d2, d3] => { results := [.lit (.bool true)], args := [d1, d2, d3] }
  | _ => none }
def powerPlainRow : OpenClaim := { program := "ytjbagikfogejnaagreatdoor", sum := "1a08db55da54b6220b7a0750cb9222d1cda4df4ce7a8a312952f38972cc473d0", func := "rosette/rosettelaw21.PowerPlain", spec := "powerPlain", inPlace := ["math/bits.Add64", "math/bits.Sub64"], unfollowed := true, recurses := true, named := ["math/bits.divideError", "math/bits.overflowError", "math/bits.deBruijn64tab"], apart := false, laid := [("math/bits.deBruijn64tab", laid_math_bits_deBruijn64tab)] }
def PowerPlainSaid : Prop := powerPlainRow.holds Tryz.pinned (OpenSpec.ofChange powerPlainSpec)

/-- ITS FALSE NEIGHBOUR: 'it returns false'. Refute it at one input. -/
def powerPlainWrong : ChangeSpec := { name := "powerPlain", fn := fun _ => fun
  | [d1, d2, d3] => { results := [.lit (.bool false)], args := [d1, d2, d3] }
  | _ => none }
def PowerPlainWrongFalsely : Prop := powerPlainRow.holds Tryz.pinned (OpenSpec.ofChange powerPlainWrong)

/- THE SECOND FORM. 'bulk': how many values and letters a reading holds, each counted each time it is reached (what is shared counts as often as it is met; a slice's spare places count too). A statement '..UptoSaid' is the law's where the arguments, and the package variables that the reading takes, are together of bulk at most 1048576: NARROWER than '..Said'. Prove '..Said' where nothing that the law and all that it calls make is longer than what came in: it says more and counts as full. Else prove '..UptoSaid'. A law counts once. -/
mutual
def uptoBulk {H : Type} : DataW H → Nat
  | .lit (.string bytes) => bytes.length + 1
  | .lit _ => 1
  | .nil => 1
  | .ptr d => uptoBulk d + 1
  | .slice elems spare => uptoBulkAll elems + uptoBulkAll spare + 1
  | .agg parts => uptoBulkAll parts + 1
  | .iface _ d => uptoBulk d + 1
  | .map entries => uptoBulkEntries entries + 1
  | .held _ => 1
def uptoBulkAll {H : Type} : List (DataW H) → Nat
  | [] => 0
  | d :: r => uptoBulk d + uptoBulkAll r
def uptoBulkEntries {H : Type} : List (Lit × DataW H) → Nat
  | [] => 0
  | x :: r => uptoBulkEntry x + uptoBulkEntries r
def uptoBulkEntry {H : Type} : Lit × DataW H → Nat
  | (.string bytes, d) => bytes.length + uptoBulk d + 1
  | (_, d) => uptoBulk d + 1
 end
def uptoSmall : (H : Type) → List (DataW H) → Bool := fun _ ds => decide (uptoBulkAll ds ≤ 1048576)
def OpenSpec.upto (s : _root_.Go.ChangeSpec) : _root_.Go.OpenSpec := { _root_.Go.OpenSpec.ofChange s with cond := some uptoSmall }

/-- 'rosettelaw21.PowerMods', WHERE WHAT IT READS IS OF BULK AT MOST 1048576: true; the input reads as it did. -/
def powerModsUptoRow : OpenClaim := { program := "ytjbagikfogejnaagreatdoor", sum := "1a08db55da54b6220b7a0750cb9222d1cda4df4ce7a8a312952f38972cc473d0", func := "rosette/rosettelaw21.PowerMods", spec := "powerMods", inPlace := ["math/bits.Add64", "math/bits.Sub64"], unfollowed := true, recurses := true, named := ["math/bits.divideError", "math/bits.overflowError", "math/bits.deBruijn64tab"], apart := false, laid := [("math/bits.deBruijn64tab", laid_math_bits_deBruijn64tab)], narrowed := true }
def PowerModsUptoSaid : Prop := powerModsUptoRow.holds Tryz.pinned (OpenSpec.upto powerModsSpec)

/-- 'rosettelaw21.PowerSymbols', WHERE WHAT IT READS IS OF BULK AT MOST 1048576: true; the input reads as it did. -/
def powerSymbolsUptoRow : OpenClaim := { program := "ytjbagikfogejnaagreatdoor", sum := "1a08db55da54b6220b7a0750cb9222d1cda4df4ce7a8a312952f38972cc473d0", func := "rosette/rosettelaw21.PowerSymbols", spec := "powerSymbols", inPlace := ["math/bits.Add64", "math/bits.Sub64"], unfollowed := true, recurses := true, named := ["math/bits.divideError", "math/bits.overflowError", "math/bits.deBruijn64tab"], apart := false, laid := [("math/bits.deBruijn64tab", laid_math_bits_deBruijn64tab)], narrowed := true }
def PowerSymbolsUptoSaid : Prop := powerSymbolsUptoRow.holds Tryz.pinned (OpenSpec.upto powerSymbolsSpec)

/-- 'rosettelaw21.PowerOrders', WHERE WHAT IT READS IS OF BULK AT MOST 1048576: true; the input reads as it did. -/
def powerOrdersUptoRow : OpenClaim := { program := "ytjbagikfogejnaagreatdoor", sum := "1a08db55da54b6220b7a0750cb9222d1cda4df4ce7a8a312952f38972cc473d0", func := "rosette/rosettelaw21.PowerOrders", spec := "powerOrders", inPlace := ["math/bits.Add64", "math/bits.Sub64"], unfollowed := true, recurses := true, named := ["math/bits.divideError", "math/bits.overflowError", "math/bits.deBruijn64tab"], apart := false, laid := [("math/bits.deBruijn64tab", laid_math_bits_deBruijn64tab)], narrowed := true }
def PowerOrdersUptoSaid : Prop := powerOrdersUptoRow.holds Tryz.pinned (OpenSpec.upto powerOrdersSpec)

/-- 'rosettelaw21.PowerKeeps', WHERE WHAT IT READS IS OF BULK AT MOST 1048576: true; the input reads as it did. -/
def powerKeepsUptoRow : OpenClaim := { program := "ytjbagikfogejnaagreatdoor", sum := "1a08db55da54b6220b7a0750cb9222d1cda4df4ce7a8a312952f38972cc473d0", func := "rosette/rosettelaw21.PowerKeeps", spec := "powerKeeps", inPlace := ["math/bits.Add64", "math/bits.Sub64"], unfollowed := true, recurses := true, named := ["math/bits.divideError", "math/bits.overflowError", "math/bits.deBruijn64tab"], apart := false, laid := [("math/bits.deBruijn64tab", laid_math_bits_deBruijn64tab)], narrowed := true }
def PowerKeepsUptoSaid : Prop := powerKeepsUptoRow.holds Tryz.pinned (OpenSpec.upto powerKeepsSpec)

/-- 'rosettelaw21.PowerNumbers', WHERE WHAT IT READS IS OF BULK AT MOST 1048576: true; the input reads as it did. -/
def powerNumbersUptoRow : OpenClaim := { program := "ytjbagikfogejnaagreatdoor", sum := "1a08db55da54b6220b7a0750cb9222d1cda4df4ce7a8a312952f38972cc473d0", func := "rosette/rosettelaw21.PowerNumbers", spec := "powerNumbers", inPlace := ["math/bits.Add64", "math/bits.Sub64"], unfollowed := true, recurses := true, named := ["math/bits.divideError", "math/bits.overflowError", "math/bits.deBruijn64tab"], apart := false, laid := [("math/bits.deBruijn64tab", laid_math_bits_deBruijn64tab)], narrowed := true }
def PowerNumbersUptoSaid : Prop := powerNumbersUptoRow.holds Tryz.pinned (OpenSpec.upto powerNumbersSpec)

/-- 'rosettelaw21.PowerSquares', WHERE WHAT IT READS IS OF BULK AT MOST 1048576: true; the input reads as it did. -/
def powerSquaresUptoRow : OpenClaim := { program := "ytjbagikfogejnaagreatdoor", sum := "1a08db55da54b6220b7a0750cb9222d1cda4df4ce7a8a312952f38972cc473d0", func := "rosette/rosettelaw21.PowerSquares", spec := "powerSquares", inPlace := ["math/bits.Add64", "math/bits.Sub64"], unfollowed := true, recurses := true, named := ["math/bits.divideError", "math/bits.overflowError", "math/bits.deBruijn64tab"], apart := false, laid := [("math/bits.deBruijn64tab", laid_math_bits_deBruijn64tab)], narrowed := true }
def PowerSquaresUptoSaid : Prop := powerSquaresUptoRow.holds Tryz.pinned (OpenSpec.upto powerSquaresSpec)

/-- 'rosettelaw21.PowerLeast', WHERE WHAT IT READS IS OF BULK AT MOST 1048576: true; the input reads as it did. -/
def powerLeastUptoRow : OpenClaim := { program := "ytjbagikfogejnaagreatdoor", sum := "1a08db55da54b6220b7a0750cb9222d1cda4df4ce7a8a312952f38972cc473d0", func := "rosette/rosettelaw21.PowerLeast", spec := "powerLeast", inPlace := ["math/bits.Add64", "math/bits.Sub64"], unfollowed := true, recurses := true, named := ["math/bits.divideError", "math/bits.overflowError", "math/bits.deBruijn64tab"], apart := false, laid := [("math/bits.deBruijn64tab", laid_math_bits_deBruijn64tab)], narrowed := true }
def PowerLeastUptoSaid : Prop := powerLeastUptoRow.holds Tryz.pinned (OpenSpec.upto powerLeastSpec)

/-- 'rosettelaw21.PowerAdds', WHERE WHAT IT READS IS OF BULK AT MOST 1048576: true; the input reads as it did. -/
def powerAddsUptoRow : OpenClaim := { program := "ytjbagikfogejnaagreatdoor", sum := "1a08db55da54b6220b7a0750cb9222d1cda4df4ce7a8a312952f38972cc473d0", func := "rosette/rosettelaw21.PowerAdds", spec := "powerAdds", inPlace := ["math/bits.Add64", "math/bits.Sub64"], unfollowed := true, recurses := true, named := ["math/bits.divideError", "math/bits.overflowError", "math/bits.deBruijn64tab"], apart := false, laid := [("math/bits.deBruijn64tab", laid_math_bits_deBruijn64tab)], narrowed := true }
def PowerAddsUptoSaid : Prop := powerAddsUptoRow.holds Tryz.pinned (OpenSpec.upto powerAddsSpec)

/-- 'rosettelaw21.PowerJacobi', WHERE WHAT IT READS IS OF BULK AT MOST 1048576: true; the input reads as it did. -/
def powerJacobiUptoRow : OpenClaim := { program := "ytjbagikfogejnaagreatdoor", sum := "1a08db55da54b6220b7a0750cb9222d1cda4df4ce7a8a312952f38972cc473d0", func := "rosette/rosettelaw21.PowerJacobi", spec := "powerJacobi", inPlace := ["math/bits.Add64", "math/bits.Sub64"], unfollowed := true, recurses := true, named := ["math/bits.divideError", "math/bits.overflowError", "math/bits.deBruijn64tab"], apart := false, laid := [("math/bits.deBruijn64tab", laid_math_bits_deBruijn64tab)], narrowed := true }
def PowerJacobiUptoSaid : Prop := powerJacobiUptoRow.holds Tryz.pinned (OpenSpec.upto powerJacobiSpec)

/-- 'rosettelaw21.PowerPlain', WHERE WHAT IT READS IS OF BULK AT MOST 1048576: true; the input reads as it did. -/
def powerPlainUptoRow : OpenClaim := { program := "ytjbagikfogejnaagreatdoor", sum := "1a08db55da54b6220b7a0750cb9222d1cda4df4ce7a8a312952f38972cc473d0", func := "rosette/rosettelaw21.PowerPlain", spec := "powerPlain", inPlace := ["math/bits.Add64", "math/bits.Sub64"], unfollowed := true, recurses := true, named := ["math/bits.divideError", "math/bits.overflowError", "math/bits.deBruijn64tab"], apart := false, laid := [("math/bits.deBruijn64tab", laid_math_bits_deBruijn64tab)], narrowed := true }
def PowerPlainUptoSaid : Prop := powerPlainUptoRow.holds Tryz.pinned (OpenSpec.upto powerPlainSpec)

end Rows
end Go.Proofs.YtjbagikfogejnaaGreatDoor
