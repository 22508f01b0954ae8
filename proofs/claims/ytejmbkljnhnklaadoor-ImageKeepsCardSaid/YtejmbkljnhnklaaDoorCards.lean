/-
  DERIVED. GIVEN WITH THE SEED: THE CARDS: each row of YtejmbkljnhnklaaDoorRows.lean that lists a variable, with what it lists TIED to the program's text (the seventh form; the later family's looks); each row that meets fmt, with fmt's text TOLD by the authors' own Lean function (tested against real Go, not proved from fmt's source: count such statements apart). THE CARD IS WHAT COUNTS. Prove the row's statement (the work); the ties are given (YtejmbkljnhnklaaDoorTie.lean); close each card by the builder's one call (the guide's Derived/Test/ToyasCard.lean, 'card_holds'). Laid BY PROGRAM, IN A SANDBOX (cutbox-door.mjs). By AI agents, Wed Nov 11 2026. No macro, syntax, notation, axiom, sorry.
-/
import Derived.Test.YtejmbkljnhnklaaDoorRows
import GoSem.ClaimSeven
namespace Go.Proofs.YtejmbkljnhnklaaDoor
namespace Rows

/-- THE TIED CARD OF 'portcullislaw11.ImageNames'. -/
def imageNamesCard : Claim7 := { stood := { row := imageNamesRow, standIns := [], harness := (true, "86a55e7a5772e52dd50f8d7dd8cbdda0b9807bc234795f803e7001f23e9ecd9d"), looks := true }, kinds := [], alts := [], laidByText := true, laidKinds := [.handle], laidTests := true, laidLooks := .later }
def ImageNamesCardSaid : Prop := Claim7.holds Tryd.pinned (.plain (OpenSpec.ofChange imageNamesSpec)) imageNamesCard

/-- THE TIED CARD OF 'portcullislaw11.ImageMakes'. -/
def imageMakesCard : Claim7 := { stood := { row := imageMakesRow, standIns := [], harness := (true, "86a55e7a5772e52dd50f8d7dd8cbdda0b9807bc234795f803e7001f23e9ecd9d"), looks := true }, kinds := [], alts := [], laidByText := true, laidKinds := [.handle], laidTests := true, laidLooks := .later }
def ImageMakesCardSaid : Prop := Claim7.holds Tryd.pinned (.plain (OpenSpec.ofChange imageMakesSpec)) imageMakesCard

/-- THE TIED CARD OF 'portcullislaw11.ImageParses'. -/
def imageParsesCard : Claim7 := { stood := { row := imageParsesRow, standIns := [], harness := (true, "86a55e7a5772e52dd50f8d7dd8cbdda0b9807bc234795f803e7001f23e9ecd9d"), looks := true }, kinds := [], alts := [], laidByText := true, laidKinds := [.handle], laidTests := true, laidLooks := .later }
def ImageParsesCardSaid : Prop := Claim7.holds Tryd.pinned (.plain (OpenSpec.ofChange imageParsesSpec)) imageParsesCard

/-- THE TIED CARD OF 'portcullislaw11.ImageReturns'. -/
def imageReturnsCard : Claim7 := { stood := { row := imageReturnsRow, standIns := [], harness := (true, "86a55e7a5772e52dd50f8d7dd8cbdda0b9807bc234795f803e7001f23e9ecd9d"), looks := true }, kinds := [], alts := [], laidByText := true, laidKinds := [.handle], laidTests := true, laidLooks := .later }
def ImageReturnsCardSaid : Prop := Claim7.holds Tryd.pinned (.plain (OpenSpec.ofChange imageReturnsSpec)) imageReturnsCard

/-- THE TIED CARD OF 'portcullislaw11.ImageOneForm'. -/
def imageOneFormCard : Claim7 := { stood := { row := imageOneFormRow, standIns := [], harness := (true, "86a55e7a5772e52dd50f8d7dd8cbdda0b9807bc234795f803e7001f23e9ecd9d"), looks := true }, kinds := [], alts := [], laidByText := true, laidKinds := [.handle], laidTests := true, laidLooks := .later }
def ImageOneFormCardSaid : Prop := Claim7.holds Tryd.pinned (.plain (OpenSpec.ofChange imageOneFormSpec)) imageOneFormCard

/-- THE TIED CARD OF 'portcullislaw11.ImageKeeps'. -/
def imageKeepsCard : Claim7 := { stood := { row := imageKeepsRow, standIns := [], harness := (true, "86a55e7a5772e52dd50f8d7dd8cbdda0b9807bc234795f803e7001f23e9ecd9d"), looks := true }, kinds := [], alts := [], laidByText := true, laidKinds := [.handle], laidTests := true, laidLooks := .later }
def ImageKeepsCardSaid : Prop := Claim7.holds Tryd.pinned (.plain (OpenSpec.ofChange imageKeepsSpec)) imageKeepsCard

/-- THE SECOND FORM's CARD OF 'portcullislaw11.ImageNames'. -/
def imageNamesUptoCard : Claim7 := { stood := { row := imageNamesUptoRow, standIns := [], harness := (true, "86a55e7a5772e52dd50f8d7dd8cbdda0b9807bc234795f803e7001f23e9ecd9d"), looks := true }, kinds := [], alts := [], laidByText := true, laidKinds := [.handle], laidTests := true, laidLooks := .later }
def ImageNamesUptoCardSaid : Prop := Claim7.holds Tryd.pinned (.plain (OpenSpec.upto imageNamesSpec)) imageNamesUptoCard

/-- THE SECOND FORM's CARD OF 'portcullislaw11.ImageMakes'. -/
def imageMakesUptoCard : Claim7 := { stood := { row := imageMakesUptoRow, standIns := [], harness := (true, "86a55e7a5772e52dd50f8d7dd8cbdda0b9807bc234795f803e7001f23e9ecd9d"), looks := true }, kinds := [], alts := [], laidByText := true, laidKinds := [.handle], laidTests := true, laidLooks := .later }
def ImageMakesUptoCardSaid : Prop := Claim7.holds Tryd.pinned (.plain (OpenSpec.upto imageMakesSpec)) imageMakesUptoCard

/-- THE SECOND FORM's CARD OF 'portcullislaw11.ImageParses'. -/
def imageParsesUptoCard : Claim7 := { stood := { row := imageParsesUptoRow, standIns := [], harness := (true, "86a55e7a5772e52dd50f8d7dd8cbdda0b9807bc234795f803e7001f23e9ecd9d"), looks := true }, kinds := [], alts := [], laidByText := true, laidKinds := [.handle], laidTests := true, laidLooks := .later }
def ImageParsesUptoCardSaid : Prop := Claim7.holds Tryd.pinned (.plain (OpenSpec.upto imageParsesSpec)) imageParsesUptoCard

/-- THE SECOND FORM's CARD OF 'portcullislaw11.ImageReturns'. -/
def imageReturnsUptoCard : Claim7 := { stood := { row := imageReturnsUptoRow, standIns := [], harness := (true, "86a55e7a5772e52dd50f8d7dd8cbdda0b9807bc234795f803e7001f23e9ecd9d"), looks := true }, kinds := [], alts := [], laidByText := true, laidKinds := [.handle], laidTests := true, laidLooks := .later }
def ImageReturnsUptoCardSaid : Prop := Claim7.holds Tryd.pinned (.plain (OpenSpec.upto imageReturnsSpec)) imageReturnsUptoCard

/-- THE SECOND FORM's CARD OF 'portcullislaw11.ImageOneForm'. -/
def imageOneFormUptoCard : Claim7 := { stood := { row := imageOneFormUptoRow, standIns := [], harness := (true, "86a55e7a5772e52dd50f8d7dd8cbdda0b9807bc234795f803e7001f23e9ecd9d"), looks := true }, kinds := [], alts := [], laidByText := true, laidKinds := [.handle], laidTests := true, laidLooks := .later }
def ImageOneFormUptoCardSaid : Prop := Claim7.holds Tryd.pinned (.plain (OpenSpec.upto imageOneFormSpec)) imageOneFormUptoCard

/-- THE SECOND FORM's CARD OF 'portcullislaw11.ImageKeeps'. -/
def imageKeepsUptoCard : Claim7 := { stood := { row := imageKeepsUptoRow, standIns := [], harness := (true, "86a55e7a5772e52dd50f8d7dd8cbdda0b9807bc234795f803e7001f23e9ecd9d"), looks := true }, kinds := [], alts := [], laidByText := true, laidKinds := [.handle], laidTests := true, laidLooks := .later }
def ImageKeepsUptoCardSaid : Prop := Claim7.holds Tryd.pinned (.plain (OpenSpec.upto imageKeepsSpec)) imageKeepsUptoCard
end Rows
end Go.Proofs.YtejmbkljnhnklaaDoor
