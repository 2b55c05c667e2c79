/-
  DERIVED. GIVEN WITH THE SEED: THE CARDS: each row of YtpbklllmplimaaaDoorRows.lean that lists a variable, with what it lists TIED to the program's text (the seventh form; the later family's looks); each row that meets fmt, with fmt's text TOLD by the authors' own Lean function (tested against real Go, not proved from fmt's source: count such statements apart). THE CARD IS WHAT COUNTS. Prove the row's statement (the work); the ties are given (YtpbklllmplimaaaDoorTie.lean); close each card by the builder's one call (the guide's Derived/Test/ToyasCard.lean, 'card_holds'). Laid BY PROGRAM, IN A SANDBOX (cutbox-door.mjs). By AI agents, Wed Nov 11 2026. No macro, syntax, notation, axiom, sorry.
-/
import Derived.Test.YtpbklllmplimaaaDoorRows
import GoSem.ClaimSeven
namespace Go.Proofs.YtpbklllmplimaaaDoor
namespace Rows

/-- THE TIED CARD OF 'laws.FnExactParseSingle'. -/
def fnExactParseSingleCard : Claim7 := { stood := { row := fnExactParseSingleRow, standIns := [], harness := (true, "467da7bb5fa175493a7310ecf050a9467c72f986ad6ed195106f926be12bd1ae"), looks := false }, kinds := [], alts := [], laidByText := true, laidKinds := [.data, .data, .data], laidTests := true, laidLooks := .later }
def FnExactParseSingleCardSaid : Prop := Claim7.holds Tryd.pinned (.plain (OpenSpec.ofChange fnExactParseSingleSpec)) fnExactParseSingleCard

/-- THE TIED CARD OF 'laws.FnSingleAgain'. -/
def fnSingleAgainCard : Claim7 := { stood := { row := fnSingleAgainRow, standIns := [], harness := (true, "467da7bb5fa175493a7310ecf050a9467c72f986ad6ed195106f926be12bd1ae"), looks := false }, kinds := [], alts := [], laidByText := true, laidKinds := [.data, .data, .data], laidTests := true, laidLooks := .later }
def FnSingleAgainCardSaid : Prop := Claim7.holds Tryd.pinned (.plain (OpenSpec.ofChange fnSingleAgainSpec)) fnSingleAgainCard

/-- THE TIED CARD OF 'laws.FnWholeTexts'. -/
def fnWholeTextsCard : Claim7 := { stood := { row := fnWholeTextsRow, standIns := [], harness := (true, "467da7bb5fa175493a7310ecf050a9467c72f986ad6ed195106f926be12bd1ae"), looks := false }, kinds := [], alts := [], laidByText := true, laidKinds := [.data, .data, .data], laidTests := true, laidLooks := .later }
def FnWholeTextsCardSaid : Prop := Claim7.holds Tryd.pinned (.plain (OpenSpec.ofChange fnWholeTextsSpec)) fnWholeTextsCard

/-- THE TIED CARD OF 'laws.FnExactFormatSingle'. -/
def fnExactFormatSingleCard : Claim7 := { stood := { row := fnExactFormatSingleRow, standIns := [], harness := (true, "467da7bb5fa175493a7310ecf050a9467c72f986ad6ed195106f926be12bd1ae"), looks := false }, kinds := [], alts := [], laidByText := true, laidKinds := [.data, .data, .data], laidTests := true, laidLooks := .later }
def FnExactFormatSingleCardSaid : Prop := Claim7.holds Tryd.pinned (.plain (OpenSpec.ofChange fnExactFormatSingleSpec)) fnExactFormatSingleCard

/-- THE SECOND FORM's CARD OF 'laws.FnExactParseSingle'. -/
def fnExactParseSingleUptoCard : Claim7 := { stood := { row := fnExactParseSingleUptoRow, standIns := [], harness := (true, "467da7bb5fa175493a7310ecf050a9467c72f986ad6ed195106f926be12bd1ae"), looks := false }, kinds := [], alts := [], laidByText := true, laidKinds := [.data, .data, .data], laidTests := true, laidLooks := .later }
def FnExactParseSingleUptoCardSaid : Prop := Claim7.holds Tryd.pinned (.plain (OpenSpec.upto fnExactParseSingleSpec)) fnExactParseSingleUptoCard

/-- THE SECOND FORM's CARD OF 'laws.FnSingleAgain'. -/
def fnSingleAgainUptoCard : Claim7 := { stood := { row := fnSingleAgainUptoRow, standIns := [], harness := (true, "467da7bb5fa175493a7310ecf050a9467c72f986ad6ed195106f926be12bd1ae"), looks := false }, kinds := [], alts := [], laidByText := true, laidKinds := [.data, .data, .data], laidTests := true, laidLooks := .later }
def FnSingleAgainUptoCardSaid : Prop := Claim7.holds Tryd.pinned (.plain (OpenSpec.upto fnSingleAgainSpec)) fnSingleAgainUptoCard

/-- THE SECOND FORM's CARD OF 'laws.FnWholeTexts'. -/
def fnWholeTextsUptoCard : Claim7 := { stood := { row := fnWholeTextsUptoRow, standIns := [], harness := (true, "467da7bb5fa175493a7310ecf050a9467c72f986ad6ed195106f926be12bd1ae"), looks := false }, kinds := [], alts := [], laidByText := true, laidKinds := [.data, .data, .data], laidTests := true, laidLooks := .later }
def FnWholeTextsUptoCardSaid : Prop := Claim7.holds Tryd.pinned (.plain (OpenSpec.upto fnWholeTextsSpec)) fnWholeTextsUptoCard

/-- THE SECOND FORM's CARD OF 'laws.FnExactFormatSingle'. -/
def fnExactFormatSingleUptoCard : Claim7 := { stood := { row := fnExactFormatSingleUptoRow, standIns := [], harness := (true, "467da7bb5fa175493a7310ecf050a9467c72f986ad6ed195106f926be12bd1ae"), looks := false }, kinds := [], alts := [], laidByText := true, laidKinds := [.data, .data, .data], laidTests := true, laidLooks := .later }
def FnExactFormatSingleUptoCardSaid : Prop := Claim7.holds Tryd.pinned (.plain (OpenSpec.upto fnExactFormatSingleSpec)) fnExactFormatSingleUptoCard
end Rows
end Go.Proofs.YtpbklllmplimaaaDoor
