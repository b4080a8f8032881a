/-
  DERIVED. GIVEN WITH THE SEED: THE CARDS: each row of YtjpkncfmionieaaDoorRows.lean that lists a variable, with what it lists TIED to the program's text (the seventh form; the later family's looks); each row that meets fmt, with fmt's text TOLD by the authors' own Lean function (tested against real Go, not proved from fmt's source: count such statements apart). THE CARD IS WHAT COUNTS. Prove the row's statement (the work); the ties are given (YtjpkncfmionieaaDoorTie.lean); close each card by the builder's one call (the guide's Derived/Test/ToyasCard.lean, 'card_holds'). Laid BY PROGRAM, IN A SANDBOX (cutbox-door.mjs). By AI agents, Wed Nov 11 2026. No macro, syntax, notation, axiom, sorry.
-/
import Derived.Test.YtjpkncfmionieaaDoorRows
import GoSem.ClaimSeven
namespace Go.Proofs.YtjpkncfmionieaaDoor
namespace Rows

/-- THE TIED CARD OF 'batonlaw09.HeadBack'. -/
def headBackCard : Claim7 := { stood := { row := headBackRow, standIns := [], harness := (true, "3b6f9dbb4abb8185a7ee08c1617f101cd490fb35e85ab7dde1e3fc1a9615b7ee"), looks := false }, kinds := [], alts := [], laidByText := true, laidKinds := [.data], laidTests := true, laidLooks := .later }
def HeadBackCardSaid : Prop := Claim7.holds Tryd.pinned (.plain (OpenSpec.ofChange headBackSpec)) headBackCard

/-- THE TIED CARD OF 'batonlaw09.HeadRises'. -/
def headRisesCard : Claim7 := { stood := { row := headRisesRow, standIns := [], harness := (true, "3b6f9dbb4abb8185a7ee08c1617f101cd490fb35e85ab7dde1e3fc1a9615b7ee"), looks := false }, kinds := [], alts := [], laidByText := true, laidKinds := [.data], laidTests := true, laidLooks := .later }
def HeadRisesCardSaid : Prop := Claim7.holds Tryd.pinned (.plain (OpenSpec.ofChange headRisesSpec)) headRisesCard

/-- THE TIED CARD OF 'batonlaw09.HeadNames'. -/
def headNamesCard : Claim7 := { stood := { row := headNamesRow, standIns := [], harness := (true, "3b6f9dbb4abb8185a7ee08c1617f101cd490fb35e85ab7dde1e3fc1a9615b7ee"), looks := false }, kinds := [], alts := [], laidByText := true, laidKinds := [.data], laidTests := true, laidLooks := .later }
def HeadNamesCardSaid : Prop := Claim7.holds Tryd.pinned (.plain (OpenSpec.ofChange headNamesSpec)) headNamesCard

/-- THE TIED CARD OF 'batonlaw09.HeadParted'. -/
def headPartedCard : Claim7 := { stood := { row := headPartedRow, standIns := [], harness := (true, "3b6f9dbb4abb8185a7ee08c1617f101cd490fb35e85ab7dde1e3fc1a9615b7ee"), looks := false }, kinds := [], alts := [], laidByText := true, laidKinds := [.data], laidTests := true, laidLooks := .later }
def HeadPartedCardSaid : Prop := Claim7.holds Tryd.pinned (.plain (OpenSpec.ofChange headPartedSpec)) headPartedCard

/-- THE TIED CARD OF 'batonlaw09.HeadSwaps'. -/
def headSwapsCard : Claim7 := { stood := { row := headSwapsRow, standIns := [], harness := (true, "3b6f9dbb4abb8185a7ee08c1617f101cd490fb35e85ab7dde1e3fc1a9615b7ee"), looks := false }, kinds := [], alts := [], laidByText := true, laidKinds := [.data], laidTests := true, laidLooks := .later }
def HeadSwapsCardSaid : Prop := Claim7.holds Tryd.pinned (.plain (OpenSpec.ofChange headSwapsSpec)) headSwapsCard

/-- THE TIED CARD OF 'batonlaw09.HeadCodes'. -/
def headCodesCard : Claim7 := { stood := { row := headCodesRow, standIns := [], harness := (true, "3b6f9dbb4abb8185a7ee08c1617f101cd490fb35e85ab7dde1e3fc1a9615b7ee"), looks := false }, kinds := [], alts := [], laidByText := true, laidKinds := [.data], laidTests := true, laidLooks := .later }
def HeadCodesCardSaid : Prop := Claim7.holds Tryd.pinned (.plain (OpenSpec.ofChange headCodesSpec)) headCodesCard

/-- THE SECOND FORM's CARD OF 'batonlaw09.HeadBack'. -/
def headBackUptoCard : Claim7 := { stood := { row := headBackUptoRow, standIns := [], harness := (true, "3b6f9dbb4abb8185a7ee08c1617f101cd490fb35e85ab7dde1e3fc1a9615b7ee"), looks := false }, kinds := [], alts := [], laidByText := true, laidKinds := [.data], laidTests := true, laidLooks := .later }
def HeadBackUptoCardSaid : Prop := Claim7.holds Tryd.pinned (.plain (OpenSpec.upto headBackSpec)) headBackUptoCard

/-- THE SECOND FORM's CARD OF 'batonlaw09.HeadRises'. -/
def headRisesUptoCard : Claim7 := { stood := { row := headRisesUptoRow, standIns := [], harness := (true, "3b6f9dbb4abb8185a7ee08c1617f101cd490fb35e85ab7dde1e3fc1a9615b7ee"), looks := false }, kinds := [], alts := [], laidByText := true, laidKinds := [.data], laidTests := true, laidLooks := .later }
def HeadRisesUptoCardSaid : Prop := Claim7.holds Tryd.pinned (.plain (OpenSpec.upto headRisesSpec)) headRisesUptoCard

/-- THE SECOND FORM's CARD OF 'batonlaw09.HeadNames'. -/
def headNamesUptoCard : Claim7 := { stood := { row := headNamesUptoRow, standIns := [], harness := (true, "3b6f9dbb4abb8185a7ee08c1617f101cd490fb35e85ab7dde1e3fc1a9615b7ee"), looks := false }, kinds := [], alts := [], laidByText := true, laidKinds := [.data], laidTests := true, laidLooks := .later }
def HeadNamesUptoCardSaid : Prop := Claim7.holds Tryd.pinned (.plain (OpenSpec.upto headNamesSpec)) headNamesUptoCard

/-- THE SECOND FORM's CARD OF 'batonlaw09.HeadParted'. -/
def headPartedUptoCard : Claim7 := { stood := { row := headPartedUptoRow, standIns := [], harness := (true, "3b6f9dbb4abb8185a7ee08c1617f101cd490fb35e85ab7dde1e3fc1a9615b7ee"), looks := false }, kinds := [], alts := [], laidByText := true, laidKinds := [.data], laidTests := true, laidLooks := .later }
def HeadPartedUptoCardSaid : Prop := Claim7.holds Tryd.pinned (.plain (OpenSpec.upto headPartedSpec)) headPartedUptoCard

/-- THE SECOND FORM's CARD OF 'batonlaw09.HeadSwaps'. -/
def headSwapsUptoCard : Claim7 := { stood := { row := headSwapsUptoRow, standIns := [], harness := (true, "3b6f9dbb4abb8185a7ee08c1617f101cd490fb35e85ab7dde1e3fc1a9615b7ee"), looks := false }, kinds := [], alts := [], laidByText := true, laidKinds := [.data], laidTests := true, laidLooks := .later }
def HeadSwapsUptoCardSaid : Prop := Claim7.holds Tryd.pinned (.plain (OpenSpec.upto headSwapsSpec)) headSwapsUptoCard

/-- THE SECOND FORM's CARD OF 'batonlaw09.HeadCodes'. -/
def headCodesUptoCard : Claim7 := { stood := { row := headCodesUptoRow, standIns := [], harness := (true, "3b6f9dbb4abb8185a7ee08c1617f101cd490fb35e85ab7dde1e3fc1a9615b7ee"), looks := false }, kinds := [], alts := [], laidByText := true, laidKinds := [.data], laidTests := true, laidLooks := .later }
def HeadCodesUptoCardSaid : Prop := Claim7.holds Tryd.pinned (.plain (OpenSpec.upto headCodesSpec)) headCodesUptoCard
end Rows
end Go.Proofs.YtjpkncfmionieaaDoor
