/-
  DERIVED. GIVEN WITH THE SEED: THE CARDS: each row of YtpfoekfbcpinlaaGreatDoorRows.lean that lists a variable, with what it lists TIED to the program's text (the seventh form; the later family's looks); each row that meets fmt, with fmt's text TOLD by the authors' own Lean function (tested against real Go, not proved from fmt's source: count such statements apart). THE CARD IS WHAT COUNTS. Prove the row's statement (the work); the ties are given (YtpfoekfbcpinlaaGreatDoorTie.lean); close each card by the builder's one call (the guide's Derived/Test/ToyasCard.lean, 'card_holds'). Laid BY PROGRAM, IN A SANDBOX (cutbox-door.mjs). By AI agents, Wed Nov 11 2026. No macro, syntax, notation, axiom, sorry.
-/
import Derived.Test.YtpfoekfbcpinlaaGreatDoorRows
import GoSem.ClaimSeven
namespace Go.Proofs.YtpfoekfbcpinlaaGreatDoor
namespace Rows

/-- THE TIED CARD OF 'batonlaw10.VaultTorn'. -/
def vaultTornCard : Claim7 := { stood := { row := vaultTornRow, standIns := [], harness := (true, "6d9d3ed92beebb4fd3df87948e4c734a7e0b05969f795503062f998ca93f8fca"), looks := false }, kinds := [], alts := [], laidByText := true, laidKinds := [.data], laidTests := true, laidLooks := .later }
def VaultTornCardSaid : Prop := Claim7.holds Tryz.pinned (.plain (OpenSpec.ofChange vaultTornSpec)) vaultTornCard

/-- THE TIED CARD OF 'batonlaw10.VaultNames'. -/
def vaultNamesCard : Claim7 := { stood := { row := vaultNamesRow, standIns := [], harness := (true, "6d9d3ed92beebb4fd3df87948e4c734a7e0b05969f795503062f998ca93f8fca"), looks := false }, kinds := [], alts := [], laidByText := true, laidKinds := [.data], laidTests := true, laidLooks := .later }
def VaultNamesCardSaid : Prop := Claim7.holds Tryz.pinned (.plain (OpenSpec.ofChange vaultNamesSpec)) vaultNamesCard

/-- THE TIED CARD OF 'batonlaw10.VaultAgain'. -/
def vaultAgainCard : Claim7 := { stood := { row := vaultAgainRow, standIns := [], harness := (true, "6d9d3ed92beebb4fd3df87948e4c734a7e0b05969f795503062f998ca93f8fca"), looks := false }, kinds := [], alts := [], laidByText := true, laidKinds := [.data], laidTests := true, laidLooks := .later }
def VaultAgainCardSaid : Prop := Claim7.holds Tryz.pinned (.plain (OpenSpec.ofChange vaultAgainSpec)) vaultAgainCard

/-- THE TIED CARD OF 'batonlaw10.VaultTapes'. -/
def vaultTapesCard : Claim7 := { stood := { row := vaultTapesRow, standIns := [], harness := (true, "6d9d3ed92beebb4fd3df87948e4c734a7e0b05969f795503062f998ca93f8fca"), looks := false }, kinds := [], alts := [], laidByText := true, laidKinds := [.data], laidTests := true, laidLooks := .later }
def VaultTapesCardSaid : Prop := Claim7.holds Tryz.pinned (.plain (OpenSpec.ofChange vaultTapesSpec)) vaultTapesCard

/-- THE TIED CARD OF 'batonlaw10.VaultKeeps'. -/
def vaultKeepsCard : Claim7 := { stood := { row := vaultKeepsRow, standIns := [], harness := (true, "6d9d3ed92beebb4fd3df87948e4c734a7e0b05969f795503062f998ca93f8fca"), looks := false }, kinds := [], alts := [], laidByText := true, laidKinds := [.data], laidTests := true, laidLooks := .later }
def VaultKeepsCardSaid : Prop := Claim7.holds Tryz.pinned (.plain (OpenSpec.ofChange vaultKeepsSpec)) vaultKeepsCard

/-- THE SECOND FORM's CARD OF 'batonlaw10.VaultTorn'. -/
def vaultTornUptoCard : Claim7 := { stood := { row := vaultTornUptoRow, standIns := [], harness := (true, "6d9d3ed92beebb4fd3df87948e4c734a7e0b05969f795503062f998ca93f8fca"), looks := false }, kinds := [], alts := [], laidByText := true, laidKinds := [.data], laidTests := true, laidLooks := .later }
def VaultTornUptoCardSaid : Prop := Claim7.holds Tryz.pinned (.plain (OpenSpec.upto vaultTornSpec)) vaultTornUptoCard

/-- THE SECOND FORM's CARD OF 'batonlaw10.VaultNames'. -/
def vaultNamesUptoCard : Claim7 := { stood := { row := vaultNamesUptoRow, standIns := [], harness := (true, "6d9d3ed92beebb4fd3df87948e4c734a7e0b05969f795503062f998ca93f8fca"), looks := false }, kinds := [], alts := [], laidByText := true, laidKinds := [.data], laidTests := true, laidLooks := .later }
def VaultNamesUptoCardSaid : Prop := Claim7.holds Tryz.pinned (.plain (OpenSpec.upto vaultNamesSpec)) vaultNamesUptoCard

/-- THE SECOND FORM's CARD OF 'batonlaw10.VaultAgain'. -/
def vaultAgainUptoCard : Claim7 := { stood := { row := vaultAgainUptoRow, standIns := [], harness := (true, "6d9d3ed92beebb4fd3df87948e4c734a7e0b05969f795503062f998ca93f8fca"), looks := false }, kinds := [], alts := [], laidByText := true, laidKinds := [.data], laidTests := true, laidLooks := .later }
def VaultAgainUptoCardSaid : Prop := Claim7.holds Tryz.pinned (.plain (OpenSpec.upto vaultAgainSpec)) vaultAgainUptoCard

/-- THE SECOND FORM's CARD OF 'batonlaw10.VaultTapes'. -/
def vaultTapesUptoCard : Claim7 := { stood := { row := vaultTapesUptoRow, standIns := [], harness := (true, "6d9d3ed92beebb4fd3df87948e4c734a7e0b05969f795503062f998ca93f8fca"), looks := false }, kinds := [], alts := [], laidByText := true, laidKinds := [.data], laidTests := true, laidLooks := .later }
def VaultTapesUptoCardSaid : Prop := Claim7.holds Tryz.pinned (.plain (OpenSpec.upto vaultTapesSpec)) vaultTapesUptoCard

/-- THE SECOND FORM's CARD OF 'batonlaw10.VaultKeeps'. -/
def vaultKeepsUptoCard : Claim7 := { stood := { row := vaultKeepsUptoRow, standIns := [], harness := (true, "6d9d3ed92beebb4fd3df87948e4c734a7e0b05969f795503062f998ca93f8fca"), looks := false }, kinds := [], alts := [], laidByText := true, laidKinds := [.data], laidTests := true, laidLooks := .later }
def VaultKeepsUptoCardSaid : Prop := Claim7.holds Tryz.pinned (.plain (OpenSpec.upto vaultKeepsSpec)) vaultKeepsUptoCard
end Rows
end Go.Proofs.YtpfoekfbcpinlaaGreatDoor
