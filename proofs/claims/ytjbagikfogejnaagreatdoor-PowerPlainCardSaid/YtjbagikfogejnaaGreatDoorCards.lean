/-
  DERIVED. GIVEN WITH THE SEED: THE CARDS: each row of YtjbagikfogejnaaGreatDoorRows.lean that lists a variable, with what it lists TIED to the program's text (the seventh form; the later family's looks); each row that meets fmt, with fmt's text TOLD by the authors' own Lean function (tested against real Go, not proved from fmt's source: count such statements apart). THE CARD IS WHAT COUNTS. Prove the row's statement (the work); the ties are given (YtjbagikfogejnaaGreatDoorTie.lean); close each card by the builder's one call (the guide's Derived/Test/ToyasCard.lean, 'card_holds'). Laid BY PROGRAM, IN A SANDBOX (cutbox-door.mjs). By AI agents, Wed Nov 11 2026. No macro, syntax, notation, axiom, sorry.
-/
import Derived.Test.YtjbagikfogejnaaGreatDoorRows
import GoSem.ClaimSeven
namespace Go.Proofs.YtjbagikfogejnaaGreatDoor
namespace Rows

/-- THE TIED CARD OF 'rosettelaw21.PowerMods'. -/
def powerModsCard : Claim7 := { stood := { row := powerModsRow, standIns := [], harness := (true, "bc5c1243cfcba23a035e10a05bd565ab9374a00e0cad900d59742b10a5711e8d"), looks := false }, kinds := [], alts := [], laidByText := true, laidKinds := [.data], laidTests := true, laidLooks := .later }
def PowerModsCardSaid : Prop := Claim7.holds Tryz.pinned (.plain (OpenSpec.ofChange powerModsSpec)) powerModsCard

/-- THE TIED CARD OF 'rosettelaw21.PowerSymbols'. -/
def powerSymbolsCard : Claim7 := { stood := { row := powerSymbolsRow, standIns := [], harness := (true, "bc5c1243cfcba23a035e10a05bd565ab9374a00e0cad900d59742b10a5711e8d"), looks := false }, kinds := [], alts := [], laidByText := true, laidKinds := [.data], laidTests := true, laidLooks := .later }
def PowerSymbolsCardSaid : Prop := Claim7.holds Tryz.pinned (.plain (OpenSpec.ofChange powerSymbolsSpec)) powerSymbolsCard

/-- THE TIED CARD OF 'rosettelaw21.PowerOrders'. -/
def powerOrdersCard : Claim7 := { stood := { row := powerOrdersRow, standIns := [], harness := (true, "bc5c1243cfcba23a035e10a05bd565ab9374a00e0cad900d59742b10a5711e8d"), looks := false }, kinds := [], alts := [], laidByText := true, laidKinds := [.data], laidTests := true, laidLooks := .later }
def PowerOrdersCardSaid : Prop := Claim7.holds Tryz.pinned (.plain (OpenSpec.ofChange powerOrdersSpec)) powerOrdersCard

/-- THE TIED CARD OF 'rosettelaw21.PowerKeeps'. -/
def powerKeepsCard : Claim7 := { stood := { row := powerKeepsRow, standIns := [], harness := (true, "bc5c1243cfcba23a035e10a05bd565ab9374a00e0cad900d59742b10a5711e8d"), looks := false }, kinds := [], alts := [], laidByText := true, laidKinds := [.data], laidTests := true, laidLooks := .later }
def PowerKeepsCardSaid : Prop := Claim7.holds Tryz.pinned (.plain (OpenSpec.ofChange powerKeepsSpec)) powerKeepsCard

/-- THE TIED CARD OF 'rosettelaw21.PowerNumbers'. -/
def powerNumbersCard : Claim7 := { stood := { row := powerNumbersRow, standIns := [], harness := (true, "bc5c1243cfcba23a035e10a05bd565ab9374a00e0cad900d59742b10a5711e8d"), looks := false }, kinds := [], alts := [], laidByText := true, laidKinds := [.data], laidTests := true, laidLooks := .later }
def PowerNumbersCardSaid : Prop := Claim7.holds Tryz.pinned (.plain (OpenSpec.ofChange powerNumbersSpec)) powerNumbersCard

/-- THE TIED CARD OF 'rosettelaw21.PowerSquares'. -/
def powerSquaresCard : Claim7 := { stood := { row := powerSquaresRow, standIns := [], harness := (true, "bc5c1243cfcba23a035e10a05bd565ab9374a00e0cad900d59742b10a5711e8d"), looks := false }, kinds := [], alts := [], laidByText := true, laidKinds := [.data], laidTests := true, laidLooks := .later }
def PowerSquaresCardSaid : Prop := Claim7.holds Tryz.pinned (.plain (OpenSpec.ofChange powerSquaresSpec)) powerSquaresCard

/-- THE TIED CARD OF 'rosettelaw21.PowerLeast'. -/
def powerLeastCard : Claim7 := { stood := { row := powerLeastRow, standIns := [], harness := (true, "bc5c1243cfcba23a035e10a05bd565ab9374a00e0cad900d59742b10a5711e8d"), looks := false }, kinds := [], alts := [], laidByText := true, laidKinds := [.data], laidTests := true, laidLooks := .later }
def PowerLeastCardSaid : Prop := Claim7.holds Tryz.pinned (.plain (OpenSpec.ofChange powerLeastSpec)) powerLeastCard

/-- THE TIED CARD OF 'rosettelaw21.PowerAdds'. -/
def powerAddsCard : Claim7 := { stood := { row := powerAddsRow, standIns := [], harness := (true, "bc5c1243cfcba23a035e10a05bd565ab9374a00e0cad900d59742b10a5711e8d"), looks := false }, kinds := [], alts := [], laidByText := true, laidKinds := [.data], laidTests := true, laidLooks := .later }
def PowerAddsCardSaid : Prop := Claim7.holds Tryz.pinned (.plain (OpenSpec.ofChange powerAddsSpec)) powerAddsCard

/-- THE TIED CARD OF 'rosettelaw21.PowerJacobi'. -/
def powerJacobiCard : Claim7 := { stood := { row := powerJacobiRow, standIns := [], harness := (true, "bc5c1243cfcba23a035e10a05bd565ab9374a00e0cad900d59742b10a5711e8d"), looks := false }, kinds := [], alts := [], laidByText := true, laidKinds := [.data], laidTests := true, laidLooks := .later }
def PowerJacobiCardSaid : Prop := Claim7.holds Tryz.pinned (.plain (OpenSpec.ofChange powerJacobiSpec)) powerJacobiCard

/-- THE TIED CARD OF 'rosettelaw21.PowerPlain'. -/
def powerPlainCard : Claim7 := { stood := { row := powerPlainRow, standIns := [], harness := (true, "bc5c1243cfcba23a035e10a05bd565ab9374a00e0cad900d59742b10a5711e8d"), looks := false }, kinds := [], alts := [], laidByText := true, laidKinds := [.data], laidTests := true, laidLooks := .later }
def PowerPlainCardSaid : Prop := Claim7.holds Tryz.pinned (.plain (OpenSpec.ofChange powerPlainSpec)) powerPlainCard

/-- THE SECOND FORM's CARD OF 'rosettelaw21.PowerMods'. -/
def powerModsUptoCard : Claim7 := { stood := { row := powerModsUptoRow, standIns := [], harness := (true, "bc5c1243cfcba23a035e10a05bd565ab9374a00e0cad900d59742b10a5711e8d"), looks := false }, kinds := [], alts := [], laidByText := true, laidKinds := [.data], laidTests := true, laidLooks := .later }
def PowerModsUptoCardSaid : Prop := Claim7.holds Tryz.pinned (.plain (OpenSpec.upto powerModsSpec)) powerModsUptoCard

/-- THE SECOND FORM's CARD OF 'rosettelaw21.PowerSymbols'. -/
def powerSymbolsUptoCard : Claim7 := { stood := { row := powerSymbolsUptoRow, standIns := [], harness := (true, "bc5c1243cfcba23a035e10a05bd565ab9374a00e0cad900d59742b10a5711e8d"), looks := false }, kinds := [], alts := [], laidByText := true, laidKinds := [.data], laidTests := true, laidLooks := .later }
def PowerSymbolsUptoCardSaid : Prop := Claim7.holds Tryz.pinned (.plain (OpenSpec.upto powerSymbolsSpec)) powerSymbolsUptoCard

/-- THE SECOND FORM's CARD OF 'rosettelaw21.PowerOrders'. -/
def powerOrdersUptoCard : Claim7 := { stood := { row := powerOrdersUptoRow, standIns := [], harness := (true, "bc5c1243cfcba23a035e10a05bd565ab9374a00e0cad900d59742b10a5711e8d"), looks := false }, kinds := [], alts := [], laidByText := true, laidKinds := [.data], laidTests := true, laidLooks := .later }
def PowerOrdersUptoCardSaid : Prop := Claim7.holds Tryz.pinned (.plain (OpenSpec.upto powerOrdersSpec)) powerOrdersUptoCard

/-- THE SECOND FORM's CARD OF 'rosettelaw21.PowerKeeps'. -/
def powerKeepsUptoCard : Claim7 := { stood := { row := powerKeepsUptoRow, standIns := [], harness := (true, "bc5c1243cfcba23a035e10a05bd565ab9374a00e0cad900d59742b10a5711e8d"), looks := false }, kinds := [], alts := [], laidByText := true, laidKinds := [.data], laidTests := true, laidLooks := .later }
def PowerKeepsUptoCardSaid : Prop := Claim7.holds Tryz.pinned (.plain (OpenSpec.upto powerKeepsSpec)) powerKeepsUptoCard

/-- THE SECOND FORM's CARD OF 'rosettelaw21.PowerNumbers'. -/
def powerNumbersUptoCard : Claim7 := { stood := { row := powerNumbersUptoRow, standIns := [], harness := (true, "bc5c1243cfcba23a035e10a05bd565ab9374a00e0cad900d59742b10a5711e8d"), looks := false }, kinds := [], alts := [], laidByText := true, laidKinds := [.data], laidTests := true, laidLooks := .later }
def PowerNumbersUptoCardSaid : Prop := Claim7.holds Tryz.pinned (.plain (OpenSpec.upto powerNumbersSpec)) powerNumbersUptoCard

/-- THE SECOND FORM's CARD OF 'rosettelaw21.PowerSquares'. -/
def powerSquaresUptoCard : Claim7 := { stood := { row := powerSquaresUptoRow, standIns := [], harness := (true, "bc5c1243cfcba23a035e10a05bd565ab9374a00e0cad900d59742b10a5711e8d"), looks := false }, kinds := [], alts := [], laidByText := true, laidKinds := [.data], laidTests := true, laidLooks := .later }
def PowerSquaresUptoCardSaid : Prop := Claim7.holds Tryz.pinned (.plain (OpenSpec.upto powerSquaresSpec)) powerSquaresUptoCard

/-- THE SECOND FORM's CARD OF 'rosettelaw21.PowerLeast'. -/
def powerLeastUptoCard : Claim7 := { stood := { row := powerLeastUptoRow, standIns := [], harness := (true, "bc5c1243cfcba23a035e10a05bd565ab9374a00e0cad900d59742b10a5711e8d"), looks := false }, kinds := [], alts := [], laidByText := true, laidKinds := [.data], laidTests := true, laidLooks := .later }
def PowerLeastUptoCardSaid : Prop := Claim7.holds Tryz.pinned (.plain (OpenSpec.upto powerLeastSpec)) powerLeastUptoCard

/-- THE SECOND FORM's CARD OF 'rosettelaw21.PowerAdds'. -/
def powerAddsUptoCard : Claim7 := { stood := { row := powerAddsUptoRow, standIns := [], harness := (true, "bc5c1243cfcba23a035e10a05bd565ab9374a00e0cad900d59742b10a5711e8d"), looks := false }, kinds := [], alts := [], laidByText := true, laidKinds := [.data], laidTests := true, laidLooks := .later }
def PowerAddsUptoCardSaid : Prop := Claim7.holds Tryz.pinned (.plain (OpenSpec.upto powerAddsSpec)) powerAddsUptoCard

/-- THE SECOND FORM's CARD OF 'rosettelaw21.PowerJacobi'. -/
def powerJacobiUptoCard : Claim7 := { stood := { row := powerJacobiUptoRow, standIns := [], harness := (true, "bc5c1243cfcba23a035e10a05bd565ab9374a00e0cad900d59742b10a5711e8d"), looks := false }, kinds := [], alts := [], laidByText := true, laidKinds := [.data], laidTests := true, laidLooks := .later }
def PowerJacobiUptoCardSaid : Prop := Claim7.holds Tryz.pinned (.plain (OpenSpec.upto powerJacobiSpec)) powerJacobiUptoCard

/-- THE SECOND FORM's CARD OF 'rosettelaw21.PowerPlain'. -/
def powerPlainUptoCard : Claim7 := { stood := { row := powerPlainUptoRow, standIns := [], harness := (true, "bc5c1243cfcba23a035e10a05bd565ab9374a00e0cad900d59742b10a5711e8d"), looks := false }, kinds := [], alts := [], laidByText := true, laidKinds := [.data], laidTests := true, laidLooks := .later }
def PowerPlainUptoCardSaid : Prop := Claim7.holds Tryz.pinned (.plain (OpenSpec.upto powerPlainSpec)) powerPlainUptoCard
end Rows
end Go.Proofs.YtjbagikfogejnaaGreatDoor
