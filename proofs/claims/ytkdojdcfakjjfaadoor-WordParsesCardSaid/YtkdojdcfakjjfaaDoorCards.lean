/-
  DERIVED. GIVEN WITH THE SEED: THE CARDS: each row of YtkdojdcfakjjfaaDoorRows.lean that lists a variable, with what it lists TIED to the program's text (the seventh form; the later family's looks); each row that meets fmt, with fmt's text TOLD by the authors' own Lean function (tested against real Go, not proved from fmt's source: count such statements apart). THE CARD IS WHAT COUNTS. Prove the row's statement (the work); the ties are given (YtkdojdcfakjjfaaDoorTie.lean); close each card by the builder's one call (the guide's Derived/Test/ToyasCard.lean, 'card_holds'). Laid BY PROGRAM, IN A SANDBOX (cutbox-door.mjs). By AI agents, Wed Nov 11 2026. No macro, syntax, notation, axiom, sorry.
-/
import Derived.Test.YtkdojdcfakjjfaaDoorRows
import GoSem.ClaimSeven
namespace Go.Proofs.YtkdojdcfakjjfaaDoor
namespace Rows

/-- THE TIED CARD OF 'embrasurelaw01.WordSigns'. -/
def wordSignsCard : Claim7 := { stood := { row := wordSignsRow, standIns := [], harness := (true, "6e038f96576721d9fd609db9dd55c8665d6fe1b1f33fd470701189f2312ea9eb"), looks := false }, kinds := [], alts := [], laidByText := true, laidKinds := [.data, .pinned], laidTests := true, laidLooks := .later }
def WordSignsCardSaid : Prop := Claim7.holds Tryd.pinned (.plain (OpenSpec.ofChange wordSignsSpec)) wordSignsCard

/-- THE TIED CARD OF 'embrasurelaw01.WordTells'. -/
def wordTellsCard : Claim7 := { stood := { row := wordTellsRow, standIns := [], harness := (true, "6e038f96576721d9fd609db9dd55c8665d6fe1b1f33fd470701189f2312ea9eb"), looks := false }, kinds := [], alts := [], laidByText := true, laidKinds := [.data, .pinned], laidTests := true, laidLooks := .later }
def WordTellsCardSaid : Prop := Claim7.holds Tryd.pinned (.plain (OpenSpec.ofChange wordTellsSpec)) wordTellsCard

/-- THE TIED CARD OF 'embrasurelaw01.WordBack'. -/
def wordBackCard : Claim7 := { stood := { row := wordBackRow, standIns := [], harness := (true, "6e038f96576721d9fd609db9dd55c8665d6fe1b1f33fd470701189f2312ea9eb"), looks := false }, kinds := [], alts := [], laidByText := true, laidKinds := [.data, .pinned], laidTests := true, laidLooks := .later }
def WordBackCardSaid : Prop := Claim7.holds Tryd.pinned (.plain (OpenSpec.ofChange wordBackSpec)) wordBackCard

/-- THE TIED CARD OF 'embrasurelaw01.WordReckons'. -/
def wordReckonsCard : Claim7 := { stood := { row := wordReckonsRow, standIns := [], harness := (true, "6e038f96576721d9fd609db9dd55c8665d6fe1b1f33fd470701189f2312ea9eb"), looks := false }, kinds := [], alts := [], laidByText := true, laidKinds := [.data, .pinned], laidTests := true, laidLooks := .later }
def WordReckonsCardSaid : Prop := Claim7.holds Tryd.pinned (.plain (OpenSpec.ofChange wordReckonsSpec)) wordReckonsCard

/-- THE TIED CARD OF 'embrasurelaw01.WordTurns'. -/
def wordTurnsCard : Claim7 := { stood := { row := wordTurnsRow, standIns := [], harness := (true, "6e038f96576721d9fd609db9dd55c8665d6fe1b1f33fd470701189f2312ea9eb"), looks := false }, kinds := [], alts := [], laidByText := true, laidKinds := [.data, .pinned], laidTests := true, laidLooks := .later }
def WordTurnsCardSaid : Prop := Claim7.holds Tryd.pinned (.plain (OpenSpec.ofChange wordTurnsSpec)) wordTurnsCard

/-- THE TIED CARD OF 'embrasurelaw01.WordMoves'. -/
def wordMovesCard : Claim7 := { stood := { row := wordMovesRow, standIns := [], harness := (true, "6e038f96576721d9fd609db9dd55c8665d6fe1b1f33fd470701189f2312ea9eb"), looks := false }, kinds := [], alts := [], laidByText := true, laidKinds := [.data, .pinned], laidTests := true, laidLooks := .later }
def WordMovesCardSaid : Prop := Claim7.holds Tryd.pinned (.plain (OpenSpec.ofChange wordMovesSpec)) wordMovesCard

/-- THE TIED CARD OF 'embrasurelaw01.WordParses'. -/
def wordParsesCard : Claim7 := { stood := { row := wordParsesRow, standIns := [], harness := (true, "6e038f96576721d9fd609db9dd55c8665d6fe1b1f33fd470701189f2312ea9eb"), looks := false }, kinds := [], alts := [], laidByText := true, laidKinds := [.data, .pinned], laidTests := true, laidLooks := .later }
def WordParsesCardSaid : Prop := Claim7.holds Tryd.pinned (.plain (OpenSpec.ofChange wordParsesSpec)) wordParsesCard

/-- THE SECOND FORM's CARD OF 'embrasurelaw01.WordSigns'. -/
def wordSignsUptoCard : Claim7 := { stood := { row := wordSignsUptoRow, standIns := [], harness := (true, "6e038f96576721d9fd609db9dd55c8665d6fe1b1f33fd470701189f2312ea9eb"), looks := false }, kinds := [], alts := [], laidByText := true, laidKinds := [.data, .pinned], laidTests := true, laidLooks := .later }
def WordSignsUptoCardSaid : Prop := Claim7.holds Tryd.pinned (.plain (OpenSpec.upto wordSignsSpec)) wordSignsUptoCard

/-- THE SECOND FORM's CARD OF 'embrasurelaw01.WordTells'. -/
def wordTellsUptoCard : Claim7 := { stood := { row := wordTellsUptoRow, standIns := [], harness := (true, "6e038f96576721d9fd609db9dd55c8665d6fe1b1f33fd470701189f2312ea9eb"), looks := false }, kinds := [], alts := [], laidByText := true, laidKinds := [.data, .pinned], laidTests := true, laidLooks := .later }
def WordTellsUptoCardSaid : Prop := Claim7.holds Tryd.pinned (.plain (OpenSpec.upto wordTellsSpec)) wordTellsUptoCard

/-- THE SECOND FORM's CARD OF 'embrasurelaw01.WordBack'. -/
def wordBackUptoCard : Claim7 := { stood := { row := wordBackUptoRow, standIns := [], harness := (true, "6e038f96576721d9fd609db9dd55c8665d6fe1b1f33fd470701189f2312ea9eb"), looks := false }, kinds := [], alts := [], laidByText := true, laidKinds := [.data, .pinned], laidTests := true, laidLooks := .later }
def WordBackUptoCardSaid : Prop := Claim7.holds Tryd.pinned (.plain (OpenSpec.upto wordBackSpec)) wordBackUptoCard

/-- THE SECOND FORM's CARD OF 'embrasurelaw01.WordReckons'. -/
def wordReckonsUptoCard : Claim7 := { stood := { row := wordReckonsUptoRow, standIns := [], harness := (true, "6e038f96576721d9fd609db9dd55c8665d6fe1b1f33fd470701189f2312ea9eb"), looks := false }, kinds := [], alts := [], laidByText := true, laidKinds := [.data, .pinned], laidTests := true, laidLooks := .later }
def WordReckonsUptoCardSaid : Prop := Claim7.holds Tryd.pinned (.plain (OpenSpec.upto wordReckonsSpec)) wordReckonsUptoCard

/-- THE SECOND FORM's CARD OF 'embrasurelaw01.WordTurns'. -/
def wordTurnsUptoCard : Claim7 := { stood := { row := wordTurnsUptoRow, standIns := [], harness := (true, "6e038f96576721d9fd609db9dd55c8665d6fe1b1f33fd470701189f2312ea9eb"), looks := false }, kinds := [], alts := [], laidByText := true, laidKinds := [.data, .pinned], laidTests := true, laidLooks := .later }
def WordTurnsUptoCardSaid : Prop := Claim7.holds Tryd.pinned (.plain (OpenSpec.upto wordTurnsSpec)) wordTurnsUptoCard

/-- THE SECOND FORM's CARD OF 'embrasurelaw01.WordMoves'. -/
def wordMovesUptoCard : Claim7 := { stood := { row := wordMovesUptoRow, standIns := [], harness := (true, "6e038f96576721d9fd609db9dd55c8665d6fe1b1f33fd470701189f2312ea9eb"), looks := false }, kinds := [], alts := [], laidByText := true, laidKinds := [.data, .pinned], laidTests := true, laidLooks := .later }
def WordMovesUptoCardSaid : Prop := Claim7.holds Tryd.pinned (.plain (OpenSpec.upto wordMovesSpec)) wordMovesUptoCard

/-- THE SECOND FORM's CARD OF 'embrasurelaw01.WordParses'. -/
def wordParsesUptoCard : Claim7 := { stood := { row := wordParsesUptoRow, standIns := [], harness := (true, "6e038f96576721d9fd609db9dd55c8665d6fe1b1f33fd470701189f2312ea9eb"), looks := false }, kinds := [], alts := [], laidByText := true, laidKinds := [.data, .pinned], laidTests := true, laidLooks := .later }
def WordParsesUptoCardSaid : Prop := Claim7.holds Tryd.pinned (.plain (OpenSpec.upto wordParsesSpec)) wordParsesUptoCard
end Rows
end Go.Proofs.YtkdojdcfakjjfaaDoor
