/-
  DERIVED. GIVEN WITH THE SEED: THE CARDS: each row of YtibklmjoepckdaaDoorRows.lean that lists a variable, with what it lists TIED to the program's text (the seventh form; the later family's looks); each row that meets fmt, with fmt's text TOLD by the authors' own Lean function (tested against real Go, not proved from fmt's source: count such statements apart). THE CARD IS WHAT COUNTS. Prove the row's statement (the work); the ties are given (YtibklmjoepckdaaDoorTie.lean); close each card by the builder's one call (the guide's Derived/Test/ToyasCard.lean, 'card_holds'). Laid BY PROGRAM, IN A SANDBOX (cutbox-door.mjs). By AI agents, Wed Nov 11 2026. No macro, syntax, notation, axiom, sorry.
-/
import Derived.Test.YtibklmjoepckdaaDoorRows
import GoSem.ClaimSeven
namespace Go.Proofs.YtibklmjoepckdaaDoor
namespace Rows

/-- THE TIED CARD OF 'noonmarklaw08.KeywordNames'. -/
def keywordNamesCard : Claim7 := { stood := { row := keywordNamesRow, standIns := [], harness := (true, "f7794cc0957ac5f4cf1ef90598ba884b1f0edebd6637fee8ab4d158d3675816e"), looks := false }, kinds := [], alts := [], laidByText := true, laidKinds := [.data, .listed, .data, .pinned], laidTests := true, laidLooks := .later }
def KeywordNamesCardSaid : Prop := Claim7.holds Tryd.pinned (.plain (OpenSpec.ofChange keywordNamesSpec)) keywordNamesCard

/-- THE TIED CARD OF 'noonmarklaw08.KeywordParts'. -/
def keywordPartsCard : Claim7 := { stood := { row := keywordPartsRow, standIns := [], harness := (true, "f7794cc0957ac5f4cf1ef90598ba884b1f0edebd6637fee8ab4d158d3675816e"), looks := false }, kinds := [], alts := [], laidByText := true, laidKinds := [.data, .listed, .data, .pinned], laidTests := true, laidLooks := .later }
def KeywordPartsCardSaid : Prop := Claim7.holds Tryd.pinned (.plain (OpenSpec.ofChange keywordPartsSpec)) keywordPartsCard

/-- THE TIED CARD OF 'noonmarklaw08.KeywordWords'. -/
def keywordWordsCard : Claim7 := { stood := { row := keywordWordsRow, standIns := [], harness := (true, "f7794cc0957ac5f4cf1ef90598ba884b1f0edebd6637fee8ab4d158d3675816e"), looks := false }, kinds := [], alts := [], laidByText := true, laidKinds := [.data, .listed, .data, .pinned], laidTests := true, laidLooks := .later }
def KeywordWordsCardSaid : Prop := Claim7.holds Tryd.pinned (.plain (OpenSpec.ofChange keywordWordsSpec)) keywordWordsCard

/-- THE TIED CARD OF 'noonmarklaw08.KeywordLonger'. -/
def keywordLongerCard : Claim7 := { stood := { row := keywordLongerRow, standIns := [], harness := (true, "f7794cc0957ac5f4cf1ef90598ba884b1f0edebd6637fee8ab4d158d3675816e"), looks := false }, kinds := [], alts := [], laidByText := true, laidKinds := [.data, .listed, .data, .pinned], laidTests := true, laidLooks := .later }
def KeywordLongerCardSaid : Prop := Claim7.holds Tryd.pinned (.plain (OpenSpec.ofChange keywordLongerSpec)) keywordLongerCard

/-- THE TIED CARD OF 'noonmarklaw08.KeywordYears'. -/
def keywordYearsCard : Claim7 := { stood := { row := keywordYearsRow, standIns := [], harness := (true, "f7794cc0957ac5f4cf1ef90598ba884b1f0edebd6637fee8ab4d158d3675816e"), looks := false }, kinds := [], alts := [], laidByText := true, laidKinds := [.data, .listed, .data, .pinned], laidTests := true, laidLooks := .later }
def KeywordYearsCardSaid : Prop := Claim7.holds Tryd.pinned (.plain (OpenSpec.ofChange keywordYearsSpec)) keywordYearsCard

/-- THE TIED CARD OF 'noonmarklaw08.KeywordBack'. -/
def keywordBackCard : Claim7 := { stood := { row := keywordBackRow, standIns := [], harness := (true, "f7794cc0957ac5f4cf1ef90598ba884b1f0edebd6637fee8ab4d158d3675816e"), looks := false }, kinds := [], alts := [], laidByText := true, laidKinds := [.data, .listed, .data, .pinned], laidTests := true, laidLooks := .later }
def KeywordBackCardSaid : Prop := Claim7.holds Tryd.pinned (.plain (OpenSpec.ofChange keywordBackSpec)) keywordBackCard

/-- THE SECOND FORM's CARD OF 'noonmarklaw08.KeywordNames'. -/
def keywordNamesUptoCard : Claim7 := { stood := { row := keywordNamesUptoRow, standIns := [], harness := (true, "f7794cc0957ac5f4cf1ef90598ba884b1f0edebd6637fee8ab4d158d3675816e"), looks := false }, kinds := [], alts := [], laidByText := true, laidKinds := [.data, .listed, .data, .pinned], laidTests := true, laidLooks := .later }
def KeywordNamesUptoCardSaid : Prop := Claim7.holds Tryd.pinned (.plain (OpenSpec.upto keywordNamesSpec)) keywordNamesUptoCard

/-- THE SECOND FORM's CARD OF 'noonmarklaw08.KeywordParts'. -/
def keywordPartsUptoCard : Claim7 := { stood := { row := keywordPartsUptoRow, standIns := [], harness := (true, "f7794cc0957ac5f4cf1ef90598ba884b1f0edebd6637fee8ab4d158d3675816e"), looks := false }, kinds := [], alts := [], laidByText := true, laidKinds := [.data, .listed, .data, .pinned], laidTests := true, laidLooks := .later }
def KeywordPartsUptoCardSaid : Prop := Claim7.holds Tryd.pinned (.plain (OpenSpec.upto keywordPartsSpec)) keywordPartsUptoCard

/-- THE SECOND FORM's CARD OF 'noonmarklaw08.KeywordWords'. -/
def keywordWordsUptoCard : Claim7 := { stood := { row := keywordWordsUptoRow, standIns := [], harness := (true, "f7794cc0957ac5f4cf1ef90598ba884b1f0edebd6637fee8ab4d158d3675816e"), looks := false }, kinds := [], alts := [], laidByText := true, laidKinds := [.data, .listed, .data, .pinned], laidTests := true, laidLooks := .later }
def KeywordWordsUptoCardSaid : Prop := Claim7.holds Tryd.pinned (.plain (OpenSpec.upto keywordWordsSpec)) keywordWordsUptoCard

/-- THE SECOND FORM's CARD OF 'noonmarklaw08.KeywordLonger'. -/
def keywordLongerUptoCard : Claim7 := { stood := { row := keywordLongerUptoRow, standIns := [], harness := (true, "f7794cc0957ac5f4cf1ef90598ba884b1f0edebd6637fee8ab4d158d3675816e"), looks := false }, kinds := [], alts := [], laidByText := true, laidKinds := [.data, .listed, .data, .pinned], laidTests := true, laidLooks := .later }
def KeywordLongerUptoCardSaid : Prop := Claim7.holds Tryd.pinned (.plain (OpenSpec.upto keywordLongerSpec)) keywordLongerUptoCard

/-- THE SECOND FORM's CARD OF 'noonmarklaw08.KeywordYears'. -/
def keywordYearsUptoCard : Claim7 := { stood := { row := keywordYearsUptoRow, standIns := [], harness := (true, "f7794cc0957ac5f4cf1ef90598ba884b1f0edebd6637fee8ab4d158d3675816e"), looks := false }, kinds := [], alts := [], laidByText := true, laidKinds := [.data, .listed, .data, .pinned], laidTests := true, laidLooks := .later }
def KeywordYearsUptoCardSaid : Prop := Claim7.holds Tryd.pinned (.plain (OpenSpec.upto keywordYearsSpec)) keywordYearsUptoCard

/-- THE SECOND FORM's CARD OF 'noonmarklaw08.KeywordBack'. -/
def keywordBackUptoCard : Claim7 := { stood := { row := keywordBackUptoRow, standIns := [], harness := (true, "f7794cc0957ac5f4cf1ef90598ba884b1f0edebd6637fee8ab4d158d3675816e"), looks := false }, kinds := [], alts := [], laidByText := true, laidKinds := [.data, .listed, .data, .pinned], laidTests := true, laidLooks := .later }
def KeywordBackUptoCardSaid : Prop := Claim7.holds Tryd.pinned (.plain (OpenSpec.upto keywordBackSpec)) keywordBackUptoCard
end Rows
end Go.Proofs.YtibklmjoepckdaaDoor
