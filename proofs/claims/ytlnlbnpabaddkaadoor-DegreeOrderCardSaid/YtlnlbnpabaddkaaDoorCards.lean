/-
  DERIVED. GIVEN WITH THE SEED: THE CARDS: each row of YtlnlbnpabaddkaaDoorRows.lean that lists a variable, with what it lists TIED to the program's text (the seventh form; the later family's looks); each row that meets fmt, with fmt's text TOLD by the authors' own Lean function (tested against real Go, not proved from fmt's source: count such statements apart). THE CARD IS WHAT COUNTS. Prove the row's statement (the work); the ties are given (YtlnlbnpabaddkaaDoorTie.lean); close each card by the builder's one call (the guide's Derived/Test/ToyasCard.lean, 'card_holds'). Laid BY PROGRAM, IN A SANDBOX (cutbox-door.mjs). By AI agents, Wed Nov 11 2026. No macro, syntax, notation, axiom, sorry.
-/
import Derived.Test.YtlnlbnpabaddkaaDoorRows
import GoSem.ClaimSeven
namespace Go.Proofs.YtlnlbnpabaddkaaDoor
namespace Rows

/-- THE TIED CARD OF 'hoarfrostlaw01.DegreeTells'. -/
def degreeTellsCard : Claim7 := { stood := { row := degreeTellsRow, standIns := [], harness := (true, "3cbd39cc9487d8fb924fe77424364732fd9a2d30a5aa8f7db47a4b3d55b5dc11"), looks := true }, kinds := [], alts := [], laidByText := true, laidKinds := [.data, .data, .data, .sentinel, .sentinel], laidTests := true, laidLooks := .later }
def DegreeTellsCardSaid : Prop := Claim7.holds Tryd.pinned (.plain (OpenSpec.ofChange degreeTellsSpec)) degreeTellsCard

/-- THE TIED CARD OF 'hoarfrostlaw01.DegreeOrder'. -/
def degreeOrderCard : Claim7 := { stood := { row := degreeOrderRow, standIns := [], harness := (true, "3cbd39cc9487d8fb924fe77424364732fd9a2d30a5aa8f7db47a4b3d55b5dc11"), looks := true }, kinds := [], alts := [], laidByText := true, laidKinds := [.data, .data, .data, .sentinel, .sentinel], laidTests := true, laidLooks := .later }
def DegreeOrderCardSaid : Prop := Claim7.holds Tryd.pinned (.plain (OpenSpec.ofChange degreeOrderSpec)) degreeOrderCard

/-- THE TIED CARD OF 'hoarfrostlaw01.DegreeTexts'. -/
def degreeTextsCard : Claim7 := { stood := { row := degreeTextsRow, standIns := [], harness := (true, "3cbd39cc9487d8fb924fe77424364732fd9a2d30a5aa8f7db47a4b3d55b5dc11"), looks := true }, kinds := [], alts := [], laidByText := true, laidKinds := [.data, .data, .data, .sentinel, .sentinel], laidTests := true, laidLooks := .later }
def DegreeTextsCardSaid : Prop := Claim7.holds Tryd.pinned (.plain (OpenSpec.ofChange degreeTextsSpec)) degreeTextsCard

/-- THE TIED CARD OF 'hoarfrostlaw01.DegreeBack'. -/
def degreeBackCard : Claim7 := { stood := { row := degreeBackRow, standIns := [], harness := (true, "3cbd39cc9487d8fb924fe77424364732fd9a2d30a5aa8f7db47a4b3d55b5dc11"), looks := true }, kinds := [], alts := [], laidByText := true, laidKinds := [.data, .data, .data, .sentinel, .sentinel], laidTests := true, laidLooks := .later }
def DegreeBackCardSaid : Prop := Claim7.holds Tryd.pinned (.plain (OpenSpec.ofChange degreeBackSpec)) degreeBackCard

/-- THE SECOND FORM's CARD OF 'hoarfrostlaw01.DegreeTells'. -/
def degreeTellsUptoCard : Claim7 := { stood := { row := degreeTellsUptoRow, standIns := [], harness := (true, "3cbd39cc9487d8fb924fe77424364732fd9a2d30a5aa8f7db47a4b3d55b5dc11"), looks := true }, kinds := [], alts := [], laidByText := true, laidKinds := [.data, .data, .data, .sentinel, .sentinel], laidTests := true, laidLooks := .later }
def DegreeTellsUptoCardSaid : Prop := Claim7.holds Tryd.pinned (.plain (OpenSpec.upto degreeTellsSpec)) degreeTellsUptoCard

/-- THE SECOND FORM's CARD OF 'hoarfrostlaw01.DegreeOrder'. -/
def degreeOrderUptoCard : Claim7 := { stood := { row := degreeOrderUptoRow, standIns := [], harness := (true, "3cbd39cc9487d8fb924fe77424364732fd9a2d30a5aa8f7db47a4b3d55b5dc11"), looks := true }, kinds := [], alts := [], laidByText := true, laidKinds := [.data, .data, .data, .sentinel, .sentinel], laidTests := true, laidLooks := .later }
def DegreeOrderUptoCardSaid : Prop := Claim7.holds Tryd.pinned (.plain (OpenSpec.upto degreeOrderSpec)) degreeOrderUptoCard

/-- THE SECOND FORM's CARD OF 'hoarfrostlaw01.DegreeTexts'. -/
def degreeTextsUptoCard : Claim7 := { stood := { row := degreeTextsUptoRow, standIns := [], harness := (true, "3cbd39cc9487d8fb924fe77424364732fd9a2d30a5aa8f7db47a4b3d55b5dc11"), looks := true }, kinds := [], alts := [], laidByText := true, laidKinds := [.data, .data, .data, .sentinel, .sentinel], laidTests := true, laidLooks := .later }
def DegreeTextsUptoCardSaid : Prop := Claim7.holds Tryd.pinned (.plain (OpenSpec.upto degreeTextsSpec)) degreeTextsUptoCard

/-- THE SECOND FORM's CARD OF 'hoarfrostlaw01.DegreeBack'. -/
def degreeBackUptoCard : Claim7 := { stood := { row := degreeBackUptoRow, standIns := [], harness := (true, "3cbd39cc9487d8fb924fe77424364732fd9a2d30a5aa8f7db47a4b3d55b5dc11"), looks := true }, kinds := [], alts := [], laidByText := true, laidKinds := [.data, .data, .data, .sentinel, .sentinel], laidTests := true, laidLooks := .later }
def DegreeBackUptoCardSaid : Prop := Claim7.holds Tryd.pinned (.plain (OpenSpec.upto degreeBackSpec)) degreeBackUptoCard
end Rows
end Go.Proofs.YtlnlbnpabaddkaaDoor
