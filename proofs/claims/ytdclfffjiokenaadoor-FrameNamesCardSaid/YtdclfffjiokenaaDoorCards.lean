/-
  DERIVED. GIVEN WITH THE SEED: THE CARDS: each row of YtdclfffjiokenaaDoorRows.lean that lists a variable, with what it lists TIED to the program's text (the seventh form; the later family's looks); each row that meets fmt, with fmt's text TOLD by the authors' own Lean function (tested against real Go, not proved from fmt's source: count such statements apart). THE CARD IS WHAT COUNTS. Prove the row's statement (the work); the ties are given (YtdclfffjiokenaaDoorTie.lean); close each card by the builder's one call (the guide's Derived/Test/ToyasCard.lean, 'card_holds'). Laid BY PROGRAM, IN A SANDBOX (cutbox-door.mjs). By AI agents, Wed Nov 11 2026. No macro, syntax, notation, axiom, sorry.
-/
import Derived.Test.YtdclfffjiokenaaDoorRows
import GoSem.ClaimSeven
namespace Go.Proofs.YtdclfffjiokenaaDoor
namespace Rows

/-- THE TIED CARD OF 'batonlaw08.FrameRow'. -/
def frameRowCard : Claim7 := { stood := { row := frameRowRow, standIns := [], harness := (true, "87bd82a5199939ad16a34052ab9070c9411df2281585853a76f7c95bcafbbf4f"), looks := false }, kinds := [], alts := [], laidByText := true, laidKinds := [.data], laidTests := true, laidLooks := .later }
def FrameRowCardSaid : Prop := Claim7.holds Tryd.pinned (.plain (OpenSpec.ofChange frameRowSpec)) frameRowCard

/-- THE TIED CARD OF 'batonlaw08.FrameBent'. -/
def frameBentCard : Claim7 := { stood := { row := frameBentRow, standIns := [], harness := (true, "87bd82a5199939ad16a34052ab9070c9411df2281585853a76f7c95bcafbbf4f"), looks := false }, kinds := [], alts := [], laidByText := true, laidKinds := [.data], laidTests := true, laidLooks := .later }
def FrameBentCardSaid : Prop := Claim7.holds Tryd.pinned (.plain (OpenSpec.ofChange frameBentSpec)) frameBentCard

/-- THE TIED CARD OF 'batonlaw08.FrameMakes'. -/
def frameMakesCard : Claim7 := { stood := { row := frameMakesRow, standIns := [], harness := (true, "87bd82a5199939ad16a34052ab9070c9411df2281585853a76f7c95bcafbbf4f"), looks := false }, kinds := [], alts := [], laidByText := true, laidKinds := [.data], laidTests := true, laidLooks := .later }
def FrameMakesCardSaid : Prop := Claim7.holds Tryd.pinned (.plain (OpenSpec.ofChange frameMakesSpec)) frameMakesCard

/-- THE TIED CARD OF 'batonlaw08.FrameTorn'. -/
def frameTornCard : Claim7 := { stood := { row := frameTornRow, standIns := [], harness := (true, "87bd82a5199939ad16a34052ab9070c9411df2281585853a76f7c95bcafbbf4f"), looks := false }, kinds := [], alts := [], laidByText := true, laidKinds := [.data], laidTests := true, laidLooks := .later }
def FrameTornCardSaid : Prop := Claim7.holds Tryd.pinned (.plain (OpenSpec.ofChange frameTornSpec)) frameTornCard

/-- THE TIED CARD OF 'batonlaw08.FrameAny'. -/
def frameAnyCard : Claim7 := { stood := { row := frameAnyRow, standIns := [], harness := (true, "87bd82a5199939ad16a34052ab9070c9411df2281585853a76f7c95bcafbbf4f"), looks := false }, kinds := [], alts := [], laidByText := true, laidKinds := [.data], laidTests := true, laidLooks := .later }
def FrameAnyCardSaid : Prop := Claim7.holds Tryd.pinned (.plain (OpenSpec.ofChange frameAnySpec)) frameAnyCard

/-- THE TIED CARD OF 'batonlaw08.FrameReads'. -/
def frameReadsCard : Claim7 := { stood := { row := frameReadsRow, standIns := [], harness := (true, "87bd82a5199939ad16a34052ab9070c9411df2281585853a76f7c95bcafbbf4f"), looks := false }, kinds := [], alts := [], laidByText := true, laidKinds := [.data], laidTests := true, laidLooks := .later }
def FrameReadsCardSaid : Prop := Claim7.holds Tryd.pinned (.plain (OpenSpec.ofChange frameReadsSpec)) frameReadsCard

/-- THE TIED CARD OF 'batonlaw08.FrameBack'. -/
def frameBackCard : Claim7 := { stood := { row := frameBackRow, standIns := [], harness := (true, "87bd82a5199939ad16a34052ab9070c9411df2281585853a76f7c95bcafbbf4f"), looks := false }, kinds := [], alts := [], laidByText := true, laidKinds := [.data], laidTests := true, laidLooks := .later }
def FrameBackCardSaid : Prop := Claim7.holds Tryd.pinned (.plain (OpenSpec.ofChange frameBackSpec)) frameBackCard

/-- THE TIED CARD OF 'batonlaw08.FrameNames'. -/
def frameNamesCard : Claim7 := { stood := { row := frameNamesRow, standIns := [], harness := (true, "87bd82a5199939ad16a34052ab9070c9411df2281585853a76f7c95bcafbbf4f"), looks := false }, kinds := [], alts := [], laidByText := true, laidKinds := [.data], laidTests := true, laidLooks := .later }
def FrameNamesCardSaid : Prop := Claim7.holds Tryd.pinned (.plain (OpenSpec.ofChange frameNamesSpec)) frameNamesCard

/-- THE SECOND FORM's CARD OF 'batonlaw08.FrameRow'. -/
def frameRowUptoCard : Claim7 := { stood := { row := frameRowUptoRow, standIns := [], harness := (true, "87bd82a5199939ad16a34052ab9070c9411df2281585853a76f7c95bcafbbf4f"), looks := false }, kinds := [], alts := [], laidByText := true, laidKinds := [.data], laidTests := true, laidLooks := .later }
def FrameRowUptoCardSaid : Prop := Claim7.holds Tryd.pinned (.plain (OpenSpec.upto frameRowSpec)) frameRowUptoCard

/-- THE SECOND FORM's CARD OF 'batonlaw08.FrameBent'. -/
def frameBentUptoCard : Claim7 := { stood := { row := frameBentUptoRow, standIns := [], harness := (true, "87bd82a5199939ad16a34052ab9070c9411df2281585853a76f7c95bcafbbf4f"), looks := false }, kinds := [], alts := [], laidByText := true, laidKinds := [.data], laidTests := true, laidLooks := .later }
def FrameBentUptoCardSaid : Prop := Claim7.holds Tryd.pinned (.plain (OpenSpec.upto frameBentSpec)) frameBentUptoCard

/-- THE SECOND FORM's CARD OF 'batonlaw08.FrameMakes'. -/
def frameMakesUptoCard : Claim7 := { stood := { row := frameMakesUptoRow, standIns := [], harness := (true, "87bd82a5199939ad16a34052ab9070c9411df2281585853a76f7c95bcafbbf4f"), looks := false }, kinds := [], alts := [], laidByText := true, laidKinds := [.data], laidTests := true, laidLooks := .later }
def FrameMakesUptoCardSaid : Prop := Claim7.holds Tryd.pinned (.plain (OpenSpec.upto frameMakesSpec)) frameMakesUptoCard

/-- THE SECOND FORM's CARD OF 'batonlaw08.FrameTorn'. -/
def frameTornUptoCard : Claim7 := { stood := { row := frameTornUptoRow, standIns := [], harness := (true, "87bd82a5199939ad16a34052ab9070c9411df2281585853a76f7c95bcafbbf4f"), looks := false }, kinds := [], alts := [], laidByText := true, laidKinds := [.data], laidTests := true, laidLooks := .later }
def FrameTornUptoCardSaid : Prop := Claim7.holds Tryd.pinned (.plain (OpenSpec.upto frameTornSpec)) frameTornUptoCard

/-- THE SECOND FORM's CARD OF 'batonlaw08.FrameAny'. -/
def frameAnyUptoCard : Claim7 := { stood := { row := frameAnyUptoRow, standIns := [], harness := (true, "87bd82a5199939ad16a34052ab9070c9411df2281585853a76f7c95bcafbbf4f"), looks := false }, kinds := [], alts := [], laidByText := true, laidKinds := [.data], laidTests := true, laidLooks := .later }
def FrameAnyUptoCardSaid : Prop := Claim7.holds Tryd.pinned (.plain (OpenSpec.upto frameAnySpec)) frameAnyUptoCard

/-- THE SECOND FORM's CARD OF 'batonlaw08.FrameReads'. -/
def frameReadsUptoCard : Claim7 := { stood := { row := frameReadsUptoRow, standIns := [], harness := (true, "87bd82a5199939ad16a34052ab9070c9411df2281585853a76f7c95bcafbbf4f"), looks := false }, kinds := [], alts := [], laidByText := true, laidKinds := [.data], laidTests := true, laidLooks := .later }
def FrameReadsUptoCardSaid : Prop := Claim7.holds Tryd.pinned (.plain (OpenSpec.upto frameReadsSpec)) frameReadsUptoCard

/-- THE SECOND FORM's CARD OF 'batonlaw08.FrameBack'. -/
def frameBackUptoCard : Claim7 := { stood := { row := frameBackUptoRow, standIns := [], harness := (true, "87bd82a5199939ad16a34052ab9070c9411df2281585853a76f7c95bcafbbf4f"), looks := false }, kinds := [], alts := [], laidByText := true, laidKinds := [.data], laidTests := true, laidLooks := .later }
def FrameBackUptoCardSaid : Prop := Claim7.holds Tryd.pinned (.plain (OpenSpec.upto frameBackSpec)) frameBackUptoCard

/-- THE SECOND FORM's CARD OF 'batonlaw08.FrameNames'. -/
def frameNamesUptoCard : Claim7 := { stood := { row := frameNamesUptoRow, standIns := [], harness := (true, "87bd82a5199939ad16a34052ab9070c9411df2281585853a76f7c95bcafbbf4f"), looks := false }, kinds := [], alts := [], laidByText := true, laidKinds := [.data], laidTests := true, laidLooks := .later }
def FrameNamesUptoCardSaid : Prop := Claim7.holds Tryd.pinned (.plain (OpenSpec.upto frameNamesSpec)) frameNamesUptoCard
end Rows
end Go.Proofs.YtdclfffjiokenaaDoor
