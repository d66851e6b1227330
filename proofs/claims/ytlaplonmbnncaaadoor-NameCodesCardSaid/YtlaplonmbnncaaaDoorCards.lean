/-
  DERIVED. GIVEN WITH THE SEED: THE CARDS: each row of YtlaplonmbnncaaaDoorRows.lean that lists a variable, with what it lists TIED to the program's text (the seventh form; the later family's looks); each row that meets fmt, with fmt's text TOLD by the authors' own Lean function (tested against real Go, not proved from fmt's source: count such statements apart). THE CARD IS WHAT COUNTS. Prove the row's statement (the work); the ties are given (YtlaplonmbnncaaaDoorTie.lean); close each card by the builder's one call (the guide's Derived/Test/ToyasCard.lean, 'card_holds'). Laid BY PROGRAM, IN A SANDBOX (cutbox-door.mjs). By AI agents, Wed Nov 11 2026. No macro, syntax, notation, axiom, sorry.
-/
import Derived.Test.YtlaplonmbnncaaaDoorRows
import GoSem.ClaimSeven
namespace Go.Proofs.YtlaplonmbnncaaaDoor
namespace Rows

/-- THE TIED CARD OF 'embrasurelaw02.NameJoins'. -/
def nameJoinsCard : Claim7 := { stood := { row := nameJoinsRow, standIns := [], harness := (true, "ecbe6d9813a5d7aaca7a2cc4b1273456703fd10625bdf5d1ac954e5d0f63312b"), looks := false }, kinds := [], alts := [], laidByText := true, laidKinds := [.data, .pinned], laidTests := true, laidLooks := .later }
def NameJoinsCardSaid : Prop := Claim7.holds Tryd.pinned (.plain (OpenSpec.ofChange nameJoinsSpec)) nameJoinsCard

/-- THE TIED CARD OF 'embrasurelaw02.NameCaps'. -/
def nameCapsCard : Claim7 := { stood := { row := nameCapsRow, standIns := [], harness := (true, "ecbe6d9813a5d7aaca7a2cc4b1273456703fd10625bdf5d1ac954e5d0f63312b"), looks := false }, kinds := [], alts := [], laidByText := true, laidKinds := [.data, .pinned], laidTests := true, laidLooks := .later }
def NameCapsCardSaid : Prop := Claim7.holds Tryd.pinned (.plain (OpenSpec.ofChange nameCapsSpec)) nameCapsCard

/-- THE TIED CARD OF 'embrasurelaw02.NameStands'. -/
def nameStandsCard : Claim7 := { stood := { row := nameStandsRow, standIns := [], harness := (true, "ecbe6d9813a5d7aaca7a2cc4b1273456703fd10625bdf5d1ac954e5d0f63312b"), looks := false }, kinds := [], alts := [], laidByText := true, laidKinds := [.data, .pinned], laidTests := true, laidLooks := .later }
def NameStandsCardSaid : Prop := Claim7.holds Tryd.pinned (.plain (OpenSpec.ofChange nameStandsSpec)) nameStandsCard

/-- THE TIED CARD OF 'embrasurelaw02.NameSplits'. -/
def nameSplitsCard : Claim7 := { stood := { row := nameSplitsRow, standIns := [], harness := (true, "ecbe6d9813a5d7aaca7a2cc4b1273456703fd10625bdf5d1ac954e5d0f63312b"), looks := false }, kinds := [], alts := [], laidByText := true, laidKinds := [.data, .pinned], laidTests := true, laidLooks := .later }
def NameSplitsCardSaid : Prop := Claim7.holds Tryd.pinned (.plain (OpenSpec.ofChange nameSplitsSpec)) nameSplitsCard

/-- THE TIED CARD OF 'embrasurelaw02.NameCodes'. -/
def nameCodesCard : Claim7 := { stood := { row := nameCodesRow, standIns := [], harness := (true, "ecbe6d9813a5d7aaca7a2cc4b1273456703fd10625bdf5d1ac954e5d0f63312b"), looks := false }, kinds := [], alts := [], laidByText := true, laidKinds := [.data, .pinned], laidTests := true, laidLooks := .later }
def NameCodesCardSaid : Prop := Claim7.holds Tryd.pinned (.plain (OpenSpec.ofChange nameCodesSpec)) nameCodesCard

/-- THE SECOND FORM's CARD OF 'embrasurelaw02.NameJoins'. -/
def nameJoinsUptoCard : Claim7 := { stood := { row := nameJoinsUptoRow, standIns := [], harness := (true, "ecbe6d9813a5d7aaca7a2cc4b1273456703fd10625bdf5d1ac954e5d0f63312b"), looks := false }, kinds := [], alts := [], laidByText := true, laidKinds := [.data, .pinned], laidTests := true, laidLooks := .later }
def NameJoinsUptoCardSaid : Prop := Claim7.holds Tryd.pinned (.plain (OpenSpec.upto nameJoinsSpec)) nameJoinsUptoCard

/-- THE SECOND FORM's CARD OF 'embrasurelaw02.NameCaps'. -/
def nameCapsUptoCard : Claim7 := { stood := { row := nameCapsUptoRow, standIns := [], harness := (true, "ecbe6d9813a5d7aaca7a2cc4b1273456703fd10625bdf5d1ac954e5d0f63312b"), looks := false }, kinds := [], alts := [], laidByText := true, laidKinds := [.data, .pinned], laidTests := true, laidLooks := .later }
def NameCapsUptoCardSaid : Prop := Claim7.holds Tryd.pinned (.plain (OpenSpec.upto nameCapsSpec)) nameCapsUptoCard

/-- THE SECOND FORM's CARD OF 'embrasurelaw02.NameStands'. -/
def nameStandsUptoCard : Claim7 := { stood := { row := nameStandsUptoRow, standIns := [], harness := (true, "ecbe6d9813a5d7aaca7a2cc4b1273456703fd10625bdf5d1ac954e5d0f63312b"), looks := false }, kinds := [], alts := [], laidByText := true, laidKinds := [.data, .pinned], laidTests := true, laidLooks := .later }
def NameStandsUptoCardSaid : Prop := Claim7.holds Tryd.pinned (.plain (OpenSpec.upto nameStandsSpec)) nameStandsUptoCard

/-- THE SECOND FORM's CARD OF 'embrasurelaw02.NameSplits'. -/
def nameSplitsUptoCard : Claim7 := { stood := { row := nameSplitsUptoRow, standIns := [], harness := (true, "ecbe6d9813a5d7aaca7a2cc4b1273456703fd10625bdf5d1ac954e5d0f63312b"), looks := false }, kinds := [], alts := [], laidByText := true, laidKinds := [.data, .pinned], laidTests := true, laidLooks := .later }
def NameSplitsUptoCardSaid : Prop := Claim7.holds Tryd.pinned (.plain (OpenSpec.upto nameSplitsSpec)) nameSplitsUptoCard

/-- THE SECOND FORM's CARD OF 'embrasurelaw02.NameCodes'. -/
def nameCodesUptoCard : Claim7 := { stood := { row := nameCodesUptoRow, standIns := [], harness := (true, "ecbe6d9813a5d7aaca7a2cc4b1273456703fd10625bdf5d1ac954e5d0f63312b"), looks := false }, kinds := [], alts := [], laidByText := true, laidKinds := [.data, .pinned], laidTests := true, laidLooks := .later }
def NameCodesUptoCardSaid : Prop := Claim7.holds Tryd.pinned (.plain (OpenSpec.upto nameCodesSpec)) nameCodesUptoCard
end Rows
end Go.Proofs.YtlaplonmbnncaaaDoor
