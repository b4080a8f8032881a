/-
  DERIVED. GIVEN WITH THE SEED: THE CARDS: each row of YtinbmoafdmccfaaDoorRows.lean that lists a variable, with what it lists TIED to the program's text (the seventh form; the later family's looks); each row that meets fmt, with fmt's text TOLD by the authors' own Lean function (tested against real Go, not proved from fmt's source: count such statements apart). THE CARD IS WHAT COUNTS. Prove the row's statement (the work); the ties are given (YtinbmoafdmccfaaDoorTie.lean); close each card by the builder's one call (the guide's Derived/Test/ToyasCard.lean, 'card_holds'). Laid BY PROGRAM, IN A SANDBOX (cutbox-door.mjs). By AI agents, Wed Nov 11 2026. No macro, syntax, notation, axiom, sorry.
-/
import Derived.Test.YtinbmoafdmccfaaDoorRows
import GoSem.ClaimSeven
namespace Go.Proofs.YtinbmoafdmccfaaDoor
namespace Rows

/-- THE TIED CARD OF 'batonlaw02.SumJoined'. -/
def sumJoinedCard : Claim7 := { stood := { row := sumJoinedRow, standIns := [], harness := (true, "c9ac9f6654376aa4b1140b432a1caaf16d408e37a520ff8a9d52b5bc86b297f1"), looks := false }, kinds := [], alts := [], laidByText := true, laidKinds := [.data], laidTests := true, laidLooks := .later }
def SumJoinedCardSaid : Prop := Claim7.holds Tryd.pinned (.plain (OpenSpec.ofChange sumJoinedSpec)) sumJoinedCard

/-- THE TIED CARD OF 'batonlaw02.SumThree'. -/
def sumThreeCard : Claim7 := { stood := { row := sumThreeRow, standIns := [], harness := (true, "c9ac9f6654376aa4b1140b432a1caaf16d408e37a520ff8a9d52b5bc86b297f1"), looks := false }, kinds := [], alts := [], laidByText := true, laidKinds := [.data], laidTests := true, laidLooks := .later }
def SumThreeCardSaid : Prop := Claim7.holds Tryd.pinned (.plain (OpenSpec.ofChange sumThreeSpec)) sumThreeCard

/-- THE TIED CARD OF 'batonlaw02.SumFar'. -/
def sumFarCard : Claim7 := { stood := { row := sumFarRow, standIns := [], harness := (true, "c9ac9f6654376aa4b1140b432a1caaf16d408e37a520ff8a9d52b5bc86b297f1"), looks := false }, kinds := [], alts := [], laidByText := true, laidKinds := [.data], laidTests := true, laidLooks := .later }
def SumFarCardSaid : Prop := Claim7.holds Tryd.pinned (.plain (OpenSpec.ofChange sumFarSpec)) sumFarCard

/-- THE TIED CARD OF 'batonlaw02.SumBurst'. -/
def sumBurstCard : Claim7 := { stood := { row := sumBurstRow, standIns := [], harness := (true, "c9ac9f6654376aa4b1140b432a1caaf16d408e37a520ff8a9d52b5bc86b297f1"), looks := false }, kinds := [], alts := [], laidByText := true, laidKinds := [.data], laidTests := true, laidLooks := .later }
def SumBurstCardSaid : Prop := Claim7.holds Tryd.pinned (.plain (OpenSpec.ofChange sumBurstSpec)) sumBurstCard

/-- THE TIED CARD OF 'batonlaw02.SumMasked'. -/
def sumMaskedCard : Claim7 := { stood := { row := sumMaskedRow, standIns := [], harness := (true, "c9ac9f6654376aa4b1140b432a1caaf16d408e37a520ff8a9d52b5bc86b297f1"), looks := false }, kinds := [], alts := [], laidByText := true, laidKinds := [.data], laidTests := true, laidLooks := .later }
def SumMaskedCardSaid : Prop := Claim7.holds Tryd.pinned (.plain (OpenSpec.ofChange sumMaskedSpec)) sumMaskedCard

/-- THE TIED CARD OF 'batonlaw02.SumTells'. -/
def sumTellsCard : Claim7 := { stood := { row := sumTellsRow, standIns := [], harness := (true, "c9ac9f6654376aa4b1140b432a1caaf16d408e37a520ff8a9d52b5bc86b297f1"), looks := false }, kinds := [], alts := [], laidByText := true, laidKinds := [.data], laidTests := true, laidLooks := .later }
def SumTellsCardSaid : Prop := Claim7.holds Tryd.pinned (.plain (OpenSpec.ofChange sumTellsSpec)) sumTellsCard

/-- THE TIED CARD OF 'batonlaw02.SumNames'. -/
def sumNamesCard : Claim7 := { stood := { row := sumNamesRow, standIns := [], harness := (true, "c9ac9f6654376aa4b1140b432a1caaf16d408e37a520ff8a9d52b5bc86b297f1"), looks := false }, kinds := [], alts := [], laidByText := true, laidKinds := [.data], laidTests := true, laidLooks := .later }
def SumNamesCardSaid : Prop := Claim7.holds Tryd.pinned (.plain (OpenSpec.ofChange sumNamesSpec)) sumNamesCard

/-- THE SECOND FORM's CARD OF 'batonlaw02.SumJoined'. -/
def sumJoinedUptoCard : Claim7 := { stood := { row := sumJoinedUptoRow, standIns := [], harness := (true, "c9ac9f6654376aa4b1140b432a1caaf16d408e37a520ff8a9d52b5bc86b297f1"), looks := false }, kinds := [], alts := [], laidByText := true, laidKinds := [.data], laidTests := true, laidLooks := .later }
def SumJoinedUptoCardSaid : Prop := Claim7.holds Tryd.pinned (.plain (OpenSpec.upto sumJoinedSpec)) sumJoinedUptoCard

/-- THE SECOND FORM's CARD OF 'batonlaw02.SumThree'. -/
def sumThreeUptoCard : Claim7 := { stood := { row := sumThreeUptoRow, standIns := [], harness := (true, "c9ac9f6654376aa4b1140b432a1caaf16d408e37a520ff8a9d52b5bc86b297f1"), looks := false }, kinds := [], alts := [], laidByText := true, laidKinds := [.data], laidTests := true, laidLooks := .later }
def SumThreeUptoCardSaid : Prop := Claim7.holds Tryd.pinned (.plain (OpenSpec.upto sumThreeSpec)) sumThreeUptoCard

/-- THE SECOND FORM's CARD OF 'batonlaw02.SumFar'. -/
def sumFarUptoCard : Claim7 := { stood := { row := sumFarUptoRow, standIns := [], harness := (true, "c9ac9f6654376aa4b1140b432a1caaf16d408e37a520ff8a9d52b5bc86b297f1"), looks := false }, kinds := [], alts := [], laidByText := true, laidKinds := [.data], laidTests := true, laidLooks := .later }
def SumFarUptoCardSaid : Prop := Claim7.holds Tryd.pinned (.plain (OpenSpec.upto sumFarSpec)) sumFarUptoCard

/-- THE SECOND FORM's CARD OF 'batonlaw02.SumBurst'. -/
def sumBurstUptoCard : Claim7 := { stood := { row := sumBurstUptoRow, standIns := [], harness := (true, "c9ac9f6654376aa4b1140b432a1caaf16d408e37a520ff8a9d52b5bc86b297f1"), looks := false }, kinds := [], alts := [], laidByText := true, laidKinds := [.data], laidTests := true, laidLooks := .later }
def SumBurstUptoCardSaid : Prop := Claim7.holds Tryd.pinned (.plain (OpenSpec.upto sumBurstSpec)) sumBurstUptoCard

/-- THE SECOND FORM's CARD OF 'batonlaw02.SumMasked'. -/
def sumMaskedUptoCard : Claim7 := { stood := { row := sumMaskedUptoRow, standIns := [], harness := (true, "c9ac9f6654376aa4b1140b432a1caaf16d408e37a520ff8a9d52b5bc86b297f1"), looks := false }, kinds := [], alts := [], laidByText := true, laidKinds := [.data], laidTests := true, laidLooks := .later }
def SumMaskedUptoCardSaid : Prop := Claim7.holds Tryd.pinned (.plain (OpenSpec.upto sumMaskedSpec)) sumMaskedUptoCard

/-- THE SECOND FORM's CARD OF 'batonlaw02.SumTells'. -/
def sumTellsUptoCard : Claim7 := { stood := { row := sumTellsUptoRow, standIns := [], harness := (true, "c9ac9f6654376aa4b1140b432a1caaf16d408e37a520ff8a9d52b5bc86b297f1"), looks := false }, kinds := [], alts := [], laidByText := true, laidKinds := [.data], laidTests := true, laidLooks := .later }
def SumTellsUptoCardSaid : Prop := Claim7.holds Tryd.pinned (.plain (OpenSpec.upto sumTellsSpec)) sumTellsUptoCard

/-- THE SECOND FORM's CARD OF 'batonlaw02.SumNames'. -/
def sumNamesUptoCard : Claim7 := { stood := { row := sumNamesUptoRow, standIns := [], harness := (true, "c9ac9f6654376aa4b1140b432a1caaf16d408e37a520ff8a9d52b5bc86b297f1"), looks := false }, kinds := [], alts := [], laidByText := true, laidKinds := [.data], laidTests := true, laidLooks := .later }
def SumNamesUptoCardSaid : Prop := Claim7.holds Tryd.pinned (.plain (OpenSpec.upto sumNamesSpec)) sumNamesUptoCard
end Rows
end Go.Proofs.YtinbmoafdmccfaaDoor
