/-
  DERIVED. GIVEN WITH THE SEED: THE CARDS: each row of YtahpmeijinndhaaDoorRows.lean that lists a variable, with what it lists TIED to the program's text (the seventh form; the later family's looks); each row that meets fmt, with fmt's text TOLD by the authors' own Lean function (tested against real Go, not proved from fmt's source: count such statements apart). THE CARD IS WHAT COUNTS. Prove the row's statement (the work); the ties are given (YtahpmeijinndhaaDoorTie.lean); close each card by the builder's one call (the guide's Derived/Test/ToyasCard.lean, 'card_holds'). Laid BY PROGRAM, IN A SANDBOX (cutbox-door.mjs). By AI agents, Wed Nov 11 2026. No macro, syntax, notation, axiom, sorry.
-/
import Derived.Test.YtahpmeijinndhaaDoorRows
import GoSem.ClaimSeven
namespace Go.Proofs.YtahpmeijinndhaaDoor
namespace Rows

/-- THE TIED CARD OF 'noonmarklaw06.DayformTexts'. -/
def dayformTextsCard : Claim7 := { stood := { row := dayformTextsRow, standIns := [], harness := (true, "50eceb318f35c8ab7f602086ff158a460a53c6269edf17bc6026b4a463aa3f1c"), looks := false }, kinds := [], alts := [], laidByText := true, laidKinds := [.data, .data, .data], laidTests := true, laidLooks := .later }
def DayformTextsCardSaid : Prop := Claim7.holds Tryd.pinned (.plain (OpenSpec.ofChange dayformTextsSpec)) dayformTextsCard

/-- THE TIED CARD OF 'noonmarklaw06.DayformBack'. -/
def dayformBackCard : Claim7 := { stood := { row := dayformBackRow, standIns := [], harness := (true, "50eceb318f35c8ab7f602086ff158a460a53c6269edf17bc6026b4a463aa3f1c"), looks := false }, kinds := [], alts := [], laidByText := true, laidKinds := [.data, .data, .data], laidTests := true, laidLooks := .later }
def DayformBackCardSaid : Prop := Claim7.holds Tryd.pinned (.plain (OpenSpec.ofChange dayformBackSpec)) dayformBackCard

/-- THE SECOND FORM's CARD OF 'noonmarklaw06.DayformTexts'. -/
def dayformTextsUptoCard : Claim7 := { stood := { row := dayformTextsUptoRow, standIns := [], harness := (true, "50eceb318f35c8ab7f602086ff158a460a53c6269edf17bc6026b4a463aa3f1c"), looks := false }, kinds := [], alts := [], laidByText := true, laidKinds := [.data, .data, .data], laidTests := true, laidLooks := .later }
def DayformTextsUptoCardSaid : Prop := Claim7.holds Tryd.pinned (.plain (OpenSpec.upto dayformTextsSpec)) dayformTextsUptoCard

/-- THE SECOND FORM's CARD OF 'noonmarklaw06.DayformBack'. -/
def dayformBackUptoCard : Claim7 := { stood := { row := dayformBackUptoRow, standIns := [], harness := (true, "50eceb318f35c8ab7f602086ff158a460a53c6269edf17bc6026b4a463aa3f1c"), looks := false }, kinds := [], alts := [], laidByText := true, laidKinds := [.data, .data, .data], laidTests := true, laidLooks := .later }
def DayformBackUptoCardSaid : Prop := Claim7.holds Tryd.pinned (.plain (OpenSpec.upto dayformBackSpec)) dayformBackUptoCard
end Rows
end Go.Proofs.YtahpmeijinndhaaDoor
