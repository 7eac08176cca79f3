/-
  DERIVED. GIVEN WITH THE SEED: THE CARDS: each row of YtbccdlbibcbcfaaDoorRows.lean that lists a variable, with what it lists TIED to the program's text (the seventh form; the later family's looks); each row that meets fmt, with fmt's text TOLD by the authors' own Lean function (tested against real Go, not proved from fmt's source: count such statements apart). THE CARD IS WHAT COUNTS. Prove the row's statement (the work); the ties are given (YtbccdlbibcbcfaaDoorTie.lean); close each card by the builder's one call (the guide's Derived/Test/ToyasCard.lean, 'card_holds'). Laid BY PROGRAM, IN A SANDBOX (cutbox-door.mjs). By AI agents, Wed Nov 11 2026. No macro, syntax, notation, axiom, sorry.
-/
import Derived.Test.YtbccdlbibcbcfaaDoorRows
import GoSem.ClaimSeven
namespace Go.Proofs.YtbccdlbibcbcfaaDoor
namespace Rows

/-- THE TIED CARD OF 'noonmarklaw05.ClockParses'. -/
def clockParsesCard : Claim7 := { stood := { row := clockParsesRow, standIns := [], harness := (true, "88c46b6684191121e502025344e5e7a7eb8d79498b411f8b8089a61bf9fcdbb1"), looks := true }, kinds := [], alts := [], laidByText := true, laidKinds := [.data, .data, .data], laidTests := true, laidLooks := .later }
def ClockParsesCardSaid : Prop := Claim7.holds Tryd.pinned (.plain (OpenSpec.ofChange clockParsesSpec)) clockParsesCard

/-- THE TIED CARD OF 'noonmarklaw05.ClockAgain'. -/
def clockAgainCard : Claim7 := { stood := { row := clockAgainRow, standIns := [], harness := (true, "88c46b6684191121e502025344e5e7a7eb8d79498b411f8b8089a61bf9fcdbb1"), looks := true }, kinds := [], alts := [], laidByText := true, laidKinds := [.data, .data, .data], laidTests := true, laidLooks := .later }
def ClockAgainCardSaid : Prop := Claim7.holds Tryd.pinned (.plain (OpenSpec.ofChange clockAgainSpec)) clockAgainCard

/-- THE TIED CARD OF 'noonmarklaw05.ClockParts'. -/
def clockPartsCard : Claim7 := { stood := { row := clockPartsRow, standIns := [], harness := (true, "88c46b6684191121e502025344e5e7a7eb8d79498b411f8b8089a61bf9fcdbb1"), looks := true }, kinds := [], alts := [], laidByText := true, laidKinds := [.data, .data, .data], laidTests := true, laidLooks := .later }
def ClockPartsCardSaid : Prop := Claim7.holds Tryd.pinned (.plain (OpenSpec.ofChange clockPartsSpec)) clockPartsCard

/-- THE TIED CARD OF 'noonmarklaw05.ClockShows'. -/
def clockShowsCard : Claim7 := { stood := { row := clockShowsRow, standIns := [], harness := (true, "88c46b6684191121e502025344e5e7a7eb8d79498b411f8b8089a61bf9fcdbb1"), looks := true }, kinds := [], alts := [], laidByText := true, laidKinds := [.data, .data, .data], laidTests := true, laidLooks := .later }
def ClockShowsCardSaid : Prop := Claim7.holds Tryd.pinned (.plain (OpenSpec.ofChange clockShowsSpec)) clockShowsCard

/-- THE TIED CARD OF 'noonmarklaw05.ClockBack'. -/
def clockBackCard : Claim7 := { stood := { row := clockBackRow, standIns := [], harness := (true, "88c46b6684191121e502025344e5e7a7eb8d79498b411f8b8089a61bf9fcdbb1"), looks := true }, kinds := [], alts := [], laidByText := true, laidKinds := [.data, .data, .data], laidTests := true, laidLooks := .later }
def ClockBackCardSaid : Prop := Claim7.holds Tryd.pinned (.plain (OpenSpec.ofChange clockBackSpec)) clockBackCard

/-- THE SECOND FORM's CARD OF 'noonmarklaw05.ClockParses'. -/
def clockParsesUptoCard : Claim7 := { stood := { row := clockParsesUptoRow, standIns := [], harness := (true, "88c46b6684191121e502025344e5e7a7eb8d79498b411f8b8089a61bf9fcdbb1"), looks := true }, kinds := [], alts := [], laidByText := true, laidKinds := [.data, .data, .data], laidTests := true, laidLooks := .later }
def ClockParsesUptoCardSaid : Prop := Claim7.holds Tryd.pinned (.plain (OpenSpec.upto clockParsesSpec)) clockParsesUptoCard

/-- THE SECOND FORM's CARD OF 'noonmarklaw05.ClockAgain'. -/
def clockAgainUptoCard : Claim7 := { stood := { row := clockAgainUptoRow, standIns := [], harness := (true, "88c46b6684191121e502025344e5e7a7eb8d79498b411f8b8089a61bf9fcdbb1"), looks := true }, kinds := [], alts := [], laidByText := true, laidKinds := [.data, .data, .data], laidTests := true, laidLooks := .later }
def ClockAgainUptoCardSaid : Prop := Claim7.holds Tryd.pinned (.plain (OpenSpec.upto clockAgainSpec)) clockAgainUptoCard

/-- THE SECOND FORM's CARD OF 'noonmarklaw05.ClockParts'. -/
def clockPartsUptoCard : Claim7 := { stood := { row := clockPartsUptoRow, standIns := [], harness := (true, "88c46b6684191121e502025344e5e7a7eb8d79498b411f8b8089a61bf9fcdbb1"), looks := true }, kinds := [], alts := [], laidByText := true, laidKinds := [.data, .data, .data], laidTests := true, laidLooks := .later }
def ClockPartsUptoCardSaid : Prop := Claim7.holds Tryd.pinned (.plain (OpenSpec.upto clockPartsSpec)) clockPartsUptoCard

/-- THE SECOND FORM's CARD OF 'noonmarklaw05.ClockShows'. -/
def clockShowsUptoCard : Claim7 := { stood := { row := clockShowsUptoRow, standIns := [], harness := (true, "88c46b6684191121e502025344e5e7a7eb8d79498b411f8b8089a61bf9fcdbb1"), looks := true }, kinds := [], alts := [], laidByText := true, laidKinds := [.data, .data, .data], laidTests := true, laidLooks := .later }
def ClockShowsUptoCardSaid : Prop := Claim7.holds Tryd.pinned (.plain (OpenSpec.upto clockShowsSpec)) clockShowsUptoCard

/-- THE SECOND FORM's CARD OF 'noonmarklaw05.ClockBack'. -/
def clockBackUptoCard : Claim7 := { stood := { row := clockBackUptoRow, standIns := [], harness := (true, "88c46b6684191121e502025344e5e7a7eb8d79498b411f8b8089a61bf9fcdbb1"), looks := true }, kinds := [], alts := [], laidByText := true, laidKinds := [.data, .data, .data], laidTests := true, laidLooks := .later }
def ClockBackUptoCardSaid : Prop := Claim7.holds Tryd.pinned (.plain (OpenSpec.upto clockBackSpec)) clockBackUptoCard
end Rows
end Go.Proofs.YtbccdlbibcbcfaaDoor
