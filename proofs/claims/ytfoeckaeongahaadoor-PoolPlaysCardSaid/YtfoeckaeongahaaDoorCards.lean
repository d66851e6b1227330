/-
  DERIVED. GIVEN WITH THE SEED: THE CARDS: each row of YtfoeckaeongahaaDoorRows.lean that lists a variable, with what it lists TIED to the program's text (the seventh form; the later family's looks); each row that meets fmt, with fmt's text TOLD by the authors' own Lean function (tested against real Go, not proved from fmt's source: count such statements apart). THE CARD IS WHAT COUNTS. Prove the row's statement (the work); the ties are given (YtfoeckaeongahaaDoorTie.lean); close each card by the builder's one call (the guide's Derived/Test/ToyasCard.lean, 'card_holds'). Laid BY PROGRAM, IN A SANDBOX (cutbox-door.mjs). By AI agents, Wed Nov 11 2026. No macro, syntax, notation, axiom, sorry.
-/
import Derived.Test.YtfoeckaeongahaaDoorRows
import GoSem.ClaimSeven
namespace Go.Proofs.YtfoeckaeongahaaDoor
namespace Rows

/-- THE TIED CARD OF 'embrasurelaw10.PoolEvents'. -/
def poolEventsCard : Claim7 := { stood := { row := poolEventsRow, standIns := [], harness := (true, "3a8acb36f364f17fd791dfab3308efbb89432e07f43c2d1916c0970095ac7e6f"), looks := false }, kinds := [], alts := [], laidByText := true, laidKinds := [.data, .pinned], laidTests := true, laidLooks := .later }
def PoolEventsCardSaid : Prop := Claim7.holds Tryd.pinned (.plain (OpenSpec.ofChange poolEventsSpec)) poolEventsCard

/-- THE TIED CARD OF 'embrasurelaw10.PoolQuota'. -/
def poolQuotaCard : Claim7 := { stood := { row := poolQuotaRow, standIns := [], harness := (true, "3a8acb36f364f17fd791dfab3308efbb89432e07f43c2d1916c0970095ac7e6f"), looks := false }, kinds := [], alts := [], laidByText := true, laidKinds := [.data, .pinned], laidTests := true, laidLooks := .later }
def PoolQuotaCardSaid : Prop := Claim7.holds Tryd.pinned (.plain (OpenSpec.ofChange poolQuotaSpec)) poolQuotaCard

/-- THE TIED CARD OF 'embrasurelaw10.PoolLeast'. -/
def poolLeastCard : Claim7 := { stood := { row := poolLeastRow, standIns := [], harness := (true, "3a8acb36f364f17fd791dfab3308efbb89432e07f43c2d1916c0970095ac7e6f"), looks := false }, kinds := [], alts := [], laidByText := true, laidKinds := [.data, .pinned], laidTests := true, laidLooks := .later }
def PoolLeastCardSaid : Prop := Claim7.holds Tryd.pinned (.plain (OpenSpec.ofChange poolLeastSpec)) poolLeastCard

/-- THE TIED CARD OF 'embrasurelaw10.PoolOnce'. -/
def poolOnceCard : Claim7 := { stood := { row := poolOnceRow, standIns := [], harness := (true, "3a8acb36f364f17fd791dfab3308efbb89432e07f43c2d1916c0970095ac7e6f"), looks := false }, kinds := [], alts := [], laidByText := true, laidKinds := [.data, .pinned], laidTests := true, laidLooks := .later }
def PoolOnceCardSaid : Prop := Claim7.holds Tryd.pinned (.plain (OpenSpec.ofChange poolOnceSpec)) poolOnceCard

/-- THE TIED CARD OF 'embrasurelaw10.PoolPlays'. -/
def poolPlaysCard : Claim7 := { stood := { row := poolPlaysRow, standIns := [], harness := (true, "3a8acb36f364f17fd791dfab3308efbb89432e07f43c2d1916c0970095ac7e6f"), looks := false }, kinds := [], alts := [], laidByText := true, laidKinds := [.data, .pinned], laidTests := true, laidLooks := .later }
def PoolPlaysCardSaid : Prop := Claim7.holds Tryd.pinned (.plain (OpenSpec.ofChange poolPlaysSpec)) poolPlaysCard

/-- THE TIED CARD OF 'embrasurelaw10.PoolForks'. -/
def poolForksCard : Claim7 := { stood := { row := poolForksRow, standIns := [], harness := (true, "3a8acb36f364f17fd791dfab3308efbb89432e07f43c2d1916c0970095ac7e6f"), looks := false }, kinds := [], alts := [], laidByText := true, laidKinds := [.data, .pinned], laidTests := true, laidLooks := .later }
def PoolForksCardSaid : Prop := Claim7.holds Tryd.pinned (.plain (OpenSpec.ofChange poolForksSpec)) poolForksCard

/-- THE SECOND FORM's CARD OF 'embrasurelaw10.PoolEvents'. -/
def poolEventsUptoCard : Claim7 := { stood := { row := poolEventsUptoRow, standIns := [], harness := (true, "3a8acb36f364f17fd791dfab3308efbb89432e07f43c2d1916c0970095ac7e6f"), looks := false }, kinds := [], alts := [], laidByText := true, laidKinds := [.data, .pinned], laidTests := true, laidLooks := .later }
def PoolEventsUptoCardSaid : Prop := Claim7.holds Tryd.pinned (.plain (OpenSpec.upto poolEventsSpec)) poolEventsUptoCard

/-- THE SECOND FORM's CARD OF 'embrasurelaw10.PoolQuota'. -/
def poolQuotaUptoCard : Claim7 := { stood := { row := poolQuotaUptoRow, standIns := [], harness := (true, "3a8acb36f364f17fd791dfab3308efbb89432e07f43c2d1916c0970095ac7e6f"), looks := false }, kinds := [], alts := [], laidByText := true, laidKinds := [.data, .pinned], laidTests := true, laidLooks := .later }
def PoolQuotaUptoCardSaid : Prop := Claim7.holds Tryd.pinned (.plain (OpenSpec.upto poolQuotaSpec)) poolQuotaUptoCard

/-- THE SECOND FORM's CARD OF 'embrasurelaw10.PoolLeast'. -/
def poolLeastUptoCard : Claim7 := { stood := { row := poolLeastUptoRow, standIns := [], harness := (true, "3a8acb36f364f17fd791dfab3308efbb89432e07f43c2d1916c0970095ac7e6f"), looks := false }, kinds := [], alts := [], laidByText := true, laidKinds := [.data, .pinned], laidTests := true, laidLooks := .later }
def PoolLeastUptoCardSaid : Prop := Claim7.holds Tryd.pinned (.plain (OpenSpec.upto poolLeastSpec)) poolLeastUptoCard

/-- THE SECOND FORM's CARD OF 'embrasurelaw10.PoolOnce'. -/
def poolOnceUptoCard : Claim7 := { stood := { row := poolOnceUptoRow, standIns := [], harness := (true, "3a8acb36f364f17fd791dfab3308efbb89432e07f43c2d1916c0970095ac7e6f"), looks := false }, kinds := [], alts := [], laidByText := true, laidKinds := [.data, .pinned], laidTests := true, laidLooks := .later }
def PoolOnceUptoCardSaid : Prop := Claim7.holds Tryd.pinned (.plain (OpenSpec.upto poolOnceSpec)) poolOnceUptoCard

/-- THE SECOND FORM's CARD OF 'embrasurelaw10.PoolPlays'. -/
def poolPlaysUptoCard : Claim7 := { stood := { row := poolPlaysUptoRow, standIns := [], harness := (true, "3a8acb36f364f17fd791dfab3308efbb89432e07f43c2d1916c0970095ac7e6f"), looks := false }, kinds := [], alts := [], laidByText := true, laidKinds := [.data, .pinned], laidTests := true, laidLooks := .later }
def PoolPlaysUptoCardSaid : Prop := Claim7.holds Tryd.pinned (.plain (OpenSpec.upto poolPlaysSpec)) poolPlaysUptoCard

/-- THE SECOND FORM's CARD OF 'embrasurelaw10.PoolForks'. -/
def poolForksUptoCard : Claim7 := { stood := { row := poolForksUptoRow, standIns := [], harness := (true, "3a8acb36f364f17fd791dfab3308efbb89432e07f43c2d1916c0970095ac7e6f"), looks := false }, kinds := [], alts := [], laidByText := true, laidKinds := [.data, .pinned], laidTests := true, laidLooks := .later }
def PoolForksUptoCardSaid : Prop := Claim7.holds Tryd.pinned (.plain (OpenSpec.upto poolForksSpec)) poolForksUptoCard
end Rows
end Go.Proofs.YtfoeckaeongahaaDoor
