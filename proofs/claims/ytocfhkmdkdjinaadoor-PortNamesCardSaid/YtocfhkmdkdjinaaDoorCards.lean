/-
  DERIVED. GIVEN WITH THE SEED: THE CARDS: each row of YtocfhkmdkdjinaaDoorRows.lean that lists a variable, with what it lists TIED to the program's text (the seventh form; the later family's looks); each row that meets fmt, with fmt's text TOLD by the authors' own Lean function (tested against real Go, not proved from fmt's source: count such statements apart). THE CARD IS WHAT COUNTS. Prove the row's statement (the work); the ties are given (YtocfhkmdkdjinaaDoorTie.lean); close each card by the builder's one call (the guide's Derived/Test/ToyasCard.lean, 'card_holds'). Laid BY PROGRAM, IN A SANDBOX (cutbox-door.mjs). By AI agents, Wed Nov 11 2026. No macro, syntax, notation, axiom, sorry.
-/
import Derived.Test.YtocfhkmdkdjinaaDoorRows
import GoSem.ClaimSeven
namespace Go.Proofs.YtocfhkmdkdjinaaDoor
namespace Rows

/-- THE TIED CARD OF 'tollgatetop.TollgateKeys'. -/
def tollgateKeysCard : Claim7 := { stood := { row := tollgateKeysRow, standIns := [], harness := (true, "bdb0056214c76e6fa263bd96a4f3dcefee7036980c368a11cd9ee5d0ea09dd29"), looks := false }, kinds := [], alts := [], laidByText := true, laidKinds := [.data, .data, .data, .data], laidTests := true, laidLooks := .later }
def TollgateKeysCardSaid : Prop := Claim7.holds Tryd.pinned (.plain (OpenSpec.ofChange tollgateKeysSpec)) tollgateKeysCard

/-- THE TIED CARD OF 'tollgatelaw20.WrapWraps'. -/
def wrapWrapsCard : Claim7 := { stood := { row := wrapWrapsRow, standIns := [], harness := (true, "bdb0056214c76e6fa263bd96a4f3dcefee7036980c368a11cd9ee5d0ea09dd29"), looks := false }, kinds := [], alts := [], laidByText := true, laidKinds := [.data, .data], laidTests := true, laidLooks := .later }
def WrapWrapsCardSaid : Prop := Claim7.holds Tryd.pinned (.plain (OpenSpec.ofChange wrapWrapsSpec)) wrapWrapsCard

/-- THE TIED CARD OF 'tollgatelaw20.WrapUnwraps'. -/
def wrapUnwrapsCard : Claim7 := { stood := { row := wrapUnwrapsRow, standIns := [], harness := (true, "bdb0056214c76e6fa263bd96a4f3dcefee7036980c368a11cd9ee5d0ea09dd29"), looks := false }, kinds := [], alts := [], laidByText := true, laidKinds := [.data, .data], laidTests := true, laidLooks := .later }
def WrapUnwrapsCardSaid : Prop := Claim7.holds Tryd.pinned (.plain (OpenSpec.ofChange wrapUnwrapsSpec)) wrapUnwrapsCard

/-- THE TIED CARD OF 'tollgatelaw20.WrapBent'. -/
def wrapBentCard : Claim7 := { stood := { row := wrapBentRow, standIns := [], harness := (true, "bdb0056214c76e6fa263bd96a4f3dcefee7036980c368a11cd9ee5d0ea09dd29"), looks := false }, kinds := [], alts := [], laidByText := true, laidKinds := [.data, .data], laidTests := true, laidLooks := .later }
def WrapBentCardSaid : Prop := Claim7.holds Tryd.pinned (.plain (OpenSpec.ofChange wrapBentSpec)) wrapBentCard

/-- THE TIED CARD OF 'tollgatelaw20.WrapSizes'. -/
def wrapSizesCard : Claim7 := { stood := { row := wrapSizesRow, standIns := [], harness := (true, "bdb0056214c76e6fa263bd96a4f3dcefee7036980c368a11cd9ee5d0ea09dd29"), looks := false }, kinds := [], alts := [], laidByText := true, laidKinds := [.data, .data], laidTests := true, laidLooks := .later }
def WrapSizesCardSaid : Prop := Claim7.holds Tryd.pinned (.plain (OpenSpec.ofChange wrapSizesSpec)) wrapSizesCard

/-- THE TIED CARD OF 'tollgatelaw20.WrapSalts'. -/
def wrapSaltsCard : Claim7 := { stood := { row := wrapSaltsRow, standIns := [], harness := (true, "bdb0056214c76e6fa263bd96a4f3dcefee7036980c368a11cd9ee5d0ea09dd29"), looks := false }, kinds := [], alts := [], laidByText := true, laidKinds := [.data, .data], laidTests := true, laidLooks := .later }
def WrapSaltsCardSaid : Prop := Claim7.holds Tryd.pinned (.plain (OpenSpec.ofChange wrapSaltsSpec)) wrapSaltsCard

/-- THE TIED CARD OF 'tollgatelaw19.RadiusWrites'. -/
def radiusWritesCard : Claim7 := { stood := { row := radiusWritesRow, standIns := [], harness := (true, "bdb0056214c76e6fa263bd96a4f3dcefee7036980c368a11cd9ee5d0ea09dd29"), looks := false }, kinds := [], alts := [], laidByText := true, laidKinds := [.data, .data], laidTests := true, laidLooks := .later }
def RadiusWritesCardSaid : Prop := Claim7.holds Tryd.pinned (.plain (OpenSpec.ofChange radiusWritesSpec)) radiusWritesCard

/-- THE TIED CARD OF 'tollgatelaw19.RadiusRooms'. -/
def radiusRoomsCard : Claim7 := { stood := { row := radiusRoomsRow, standIns := [], harness := (true, "bdb0056214c76e6fa263bd96a4f3dcefee7036980c368a11cd9ee5d0ea09dd29"), looks := false }, kinds := [], alts := [], laidByText := true, laidKinds := [.data, .data], laidTests := true, laidLooks := .later }
def RadiusRoomsCardSaid : Prop := Claim7.holds Tryd.pinned (.plain (OpenSpec.ofChange radiusRoomsSpec)) radiusRoomsCard

/-- THE TIED CARD OF 'tollgatelaw19.RadiusOpens'. -/
def radiusOpensCard : Claim7 := { stood := { row := radiusOpensRow, standIns := [], harness := (true, "bdb0056214c76e6fa263bd96a4f3dcefee7036980c368a11cd9ee5d0ea09dd29"), looks := false }, kinds := [], alts := [], laidByText := true, laidKinds := [.data, .data], laidTests := true, laidLooks := .later }
def RadiusOpensCardSaid : Prop := Claim7.holds Tryd.pinned (.plain (OpenSpec.ofChange radiusOpensSpec)) radiusOpensCard

/-- THE TIED CARD OF 'tollgatelaw19.RadiusSeals'. -/
def radiusSealsCard : Claim7 := { stood := { row := radiusSealsRow, standIns := [], harness := (true, "bdb0056214c76e6fa263bd96a4f3dcefee7036980c368a11cd9ee5d0ea09dd29"), looks := false }, kinds := [], alts := [], laidByText := true, laidKinds := [.data, .data], laidTests := true, laidLooks := .later }
def RadiusSealsCardSaid : Prop := Claim7.holds Tryd.pinned (.plain (OpenSpec.ofChange radiusSealsSpec)) radiusSealsCard

/-- THE TIED CARD OF 'tollgatelaw19.RadiusSplits'. -/
def radiusSplitsCard : Claim7 := { stood := { row := radiusSplitsRow, standIns := [], harness := (true, "bdb0056214c76e6fa263bd96a4f3dcefee7036980c368a11cd9ee5d0ea09dd29"), looks := false }, kinds := [], alts := [], laidByText := true, laidKinds := [.data, .data], laidTests := true, laidLooks := .later }
def RadiusSplitsCardSaid : Prop := Claim7.holds Tryd.pinned (.plain (OpenSpec.ofChange radiusSplitsSpec)) radiusSplitsCard

/-- THE TIED CARD OF 'tollgatelaw22.PortTries'. -/
def portTriesCard : Claim7 := { stood := { row := portTriesRow, standIns := [], harness := (true, "bdb0056214c76e6fa263bd96a4f3dcefee7036980c368a11cd9ee5d0ea09dd29"), looks := false }, kinds := [], alts := [], laidByText := true, laidKinds := [.data, .data, .data, .data], laidTests := true, laidLooks := .later }
def PortTriesCardSaid : Prop := Claim7.holds Tryd.pinned (.plain (OpenSpec.ofChange portTriesSpec)) portTriesCard

/-- THE TIED CARD OF 'tollgatelaw22.PortNames'. -/
def portNamesCard : Claim7 := { stood := { row := portNamesRow, standIns := [], harness := (true, "bdb0056214c76e6fa263bd96a4f3dcefee7036980c368a11cd9ee5d0ea09dd29"), looks := false }, kinds := [], alts := [], laidByText := true, laidKinds := [.data, .data, .data, .data], laidTests := true, laidLooks := .later }
def PortNamesCardSaid : Prop := Claim7.holds Tryd.pinned (.plain (OpenSpec.ofChange portNamesSpec)) portNamesCard

/-- THE TIED CARD OF 'tollgatelaw22.PortIds'. -/
def portIdsCard : Claim7 := { stood := { row := portIdsRow, standIns := [], harness := (true, "bdb0056214c76e6fa263bd96a4f3dcefee7036980c368a11cd9ee5d0ea09dd29"), looks := false }, kinds := [], alts := [], laidByText := true, laidKinds := [.data, .data, .data, .data], laidTests := true, laidLooks := .later }
def PortIdsCardSaid : Prop := Claim7.holds Tryd.pinned (.plain (OpenSpec.ofChange portIdsSpec)) portIdsCard

/-- THE TIED CARD OF 'tollgatelaw22.PortShuts'. -/
def portShutsCard : Claim7 := { stood := { row := portShutsRow, standIns := [], harness := (true, "bdb0056214c76e6fa263bd96a4f3dcefee7036980c368a11cd9ee5d0ea09dd29"), looks := false }, kinds := [], alts := [], laidByText := true, laidKinds := [.data, .data, .data, .data], laidTests := true, laidLooks := .later }
def PortShutsCardSaid : Prop := Claim7.holds Tryd.pinned (.plain (OpenSpec.ofChange portShutsSpec)) portShutsCard

/-- THE TIED CARD OF 'tollgatetop.TollgateCarries'. -/
def tollgateCarriesCard : Claim7 := { stood := { row := tollgateCarriesRow, standIns := [], harness := (true, "bdb0056214c76e6fa263bd96a4f3dcefee7036980c368a11cd9ee5d0ea09dd29"), looks := false }, kinds := [], alts := [], laidByText := true, laidKinds := [.data, .data, .data, .data], laidTests := true, laidLooks := .later }
def TollgateCarriesCardSaid : Prop := Claim7.holds Tryd.pinned (.plain (OpenSpec.ofChange tollgateCarriesSpec)) tollgateCarriesCard

/-- THE SECOND FORM's CARD OF 'tollgatetop.TollgateKeys'. -/
def tollgateKeysUptoCard : Claim7 := { stood := { row := tollgateKeysUptoRow, standIns := [], harness := (true, "bdb0056214c76e6fa263bd96a4f3dcefee7036980c368a11cd9ee5d0ea09dd29"), looks := false }, kinds := [], alts := [], laidByText := true, laidKinds := [.data, .data, .data, .data], laidTests := true, laidLooks := .later }
def TollgateKeysUptoCardSaid : Prop := Claim7.holds Tryd.pinned (.plain (OpenSpec.upto tollgateKeysSpec)) tollgateKeysUptoCard

/-- THE SECOND FORM's CARD OF 'tollgatelaw20.WrapWraps'. -/
def wrapWrapsUptoCard : Claim7 := { stood := { row := wrapWrapsUptoRow, standIns := [], harness := (true, "bdb0056214c76e6fa263bd96a4f3dcefee7036980c368a11cd9ee5d0ea09dd29"), looks := false }, kinds := [], alts := [], laidByText := true, laidKinds := [.data, .data], laidTests := true, laidLooks := .later }
def WrapWrapsUptoCardSaid : Prop := Claim7.holds Tryd.pinned (.plain (OpenSpec.upto wrapWrapsSpec)) wrapWrapsUptoCard

/-- THE SECOND FORM's CARD OF 'tollgatelaw20.WrapUnwraps'. -/
def wrapUnwrapsUptoCard : Claim7 := { stood := { row := wrapUnwrapsUptoRow, standIns := [], harness := (true, "bdb0056214c76e6fa263bd96a4f3dcefee7036980c368a11cd9ee5d0ea09dd29"), looks := false }, kinds := [], alts := [], laidByText := true, laidKinds := [.data, .data], laidTests := true, laidLooks := .later }
def WrapUnwrapsUptoCardSaid : Prop := Claim7.holds Tryd.pinned (.plain (OpenSpec.upto wrapUnwrapsSpec)) wrapUnwrapsUptoCard

/-- THE SECOND FORM's CARD OF 'tollgatelaw20.WrapBent'. -/
def wrapBentUptoCard : Claim7 := { stood := { row := wrapBentUptoRow, standIns := [], harness := (true, "bdb0056214c76e6fa263bd96a4f3dcefee7036980c368a11cd9ee5d0ea09dd29"), looks := false }, kinds := [], alts := [], laidByText := true, laidKinds := [.data, .data], laidTests := true, laidLooks := .later }
def WrapBentUptoCardSaid : Prop := Claim7.holds Tryd.pinned (.plain (OpenSpec.upto wrapBentSpec)) wrapBentUptoCard

/-- THE SECOND FORM's CARD OF 'tollgatelaw20.WrapSizes'. -/
def wrapSizesUptoCard : Claim7 := { stood := { row := wrapSizesUptoRow, standIns := [], harness := (true, "bdb0056214c76e6fa263bd96a4f3dcefee7036980c368a11cd9ee5d0ea09dd29"), looks := false }, kinds := [], alts := [], laidByText := true, laidKinds := [.data, .data], laidTests := true, laidLooks := .later }
def WrapSizesUptoCardSaid : Prop := Claim7.holds Tryd.pinned (.plain (OpenSpec.upto wrapSizesSpec)) wrapSizesUptoCard

/-- THE SECOND FORM's CARD OF 'tollgatelaw20.WrapSalts'. -/
def wrapSaltsUptoCard : Claim7 := { stood := { row := wrapSaltsUptoRow, standIns := [], harness := (true, "bdb0056214c76e6fa263bd96a4f3dcefee7036980c368a11cd9ee5d0ea09dd29"), looks := false }, kinds := [], alts := [], laidByText := true, laidKinds := [.data, .data], laidTests := true, laidLooks := .later }
def WrapSaltsUptoCardSaid : Prop := Claim7.holds Tryd.pinned (.plain (OpenSpec.upto wrapSaltsSpec)) wrapSaltsUptoCard

/-- THE SECOND FORM's CARD OF 'tollgatelaw19.RadiusWrites'. -/
def radiusWritesUptoCard : Claim7 := { stood := { row := radiusWritesUptoRow, standIns := [], harness := (true, "bdb0056214c76e6fa263bd96a4f3dcefee7036980c368a11cd9ee5d0ea09dd29"), looks := false }, kinds := [], alts := [], laidByText := true, laidKinds := [.data, .data], laidTests := true, laidLooks := .later }
def RadiusWritesUptoCardSaid : Prop := Claim7.holds Tryd.pinned (.plain (OpenSpec.upto radiusWritesSpec)) radiusWritesUptoCard

/-- THE SECOND FORM's CARD OF 'tollgatelaw19.RadiusRooms'. -/
def radiusRoomsUptoCard : Claim7 := { stood := { row := radiusRoomsUptoRow, standIns := [], harness := (true, "bdb0056214c76e6fa263bd96a4f3dcefee7036980c368a11cd9ee5d0ea09dd29"), looks := false }, kinds := [], alts := [], laidByText := true, laidKinds := [.data, .data], laidTests := true, laidLooks := .later }
def RadiusRoomsUptoCardSaid : Prop := Claim7.holds Tryd.pinned (.plain (OpenSpec.upto radiusRoomsSpec)) radiusRoomsUptoCard

/-- THE SECOND FORM's CARD OF 'tollgatelaw19.RadiusOpens'. -/
def radiusOpensUptoCard : Claim7 := { stood := { row := radiusOpensUptoRow, standIns := [], harness := (true, "bdb0056214c76e6fa263bd96a4f3dcefee7036980c368a11cd9ee5d0ea09dd29"), looks := false }, kinds := [], alts := [], laidByText := true, laidKinds := [.data, .data], laidTests := true, laidLooks := .later }
def RadiusOpensUptoCardSaid : Prop := Claim7.holds Tryd.pinned (.plain (OpenSpec.upto radiusOpensSpec)) radiusOpensUptoCard

/-- THE SECOND FORM's CARD OF 'tollgatelaw19.RadiusSeals'. -/
def radiusSealsUptoCard : Claim7 := { stood := { row := radiusSealsUptoRow, standIns := [], harness := (true, "bdb0056214c76e6fa263bd96a4f3dcefee7036980c368a11cd9ee5d0ea09dd29"), looks := false }, kinds := [], alts := [], laidByText := true, laidKinds := [.data, .data], laidTests := true, laidLooks := .later }
def RadiusSealsUptoCardSaid : Prop := Claim7.holds Tryd.pinned (.plain (OpenSpec.upto radiusSealsSpec)) radiusSealsUptoCard

/-- THE SECOND FORM's CARD OF 'tollgatelaw19.RadiusSplits'. -/
def radiusSplitsUptoCard : Claim7 := { stood := { row := radiusSplitsUptoRow, standIns := [], harness := (true, "bdb0056214c76e6fa263bd96a4f3dcefee7036980c368a11cd9ee5d0ea09dd29"), looks := false }, kinds := [], alts := [], laidByText := true, laidKinds := [.data, .data], laidTests := true, laidLooks := .later }
def RadiusSplitsUptoCardSaid : Prop := Claim7.holds Tryd.pinned (.plain (OpenSpec.upto radiusSplitsSpec)) radiusSplitsUptoCard

/-- THE SECOND FORM's CARD OF 'tollgatelaw22.PortTries'. -/
def portTriesUptoCard : Claim7 := { stood := { row := portTriesUptoRow, standIns := [], harness := (true, "bdb0056214c76e6fa263bd96a4f3dcefee7036980c368a11cd9ee5d0ea09dd29"), looks := false }, kinds := [], alts := [], laidByText := true, laidKinds := [.data, .data, .data, .data], laidTests := true, laidLooks := .later }
def PortTriesUptoCardSaid : Prop := Claim7.holds Tryd.pinned (.plain (OpenSpec.upto portTriesSpec)) portTriesUptoCard

/-- THE SECOND FORM's CARD OF 'tollgatelaw22.PortNames'. -/
def portNamesUptoCard : Claim7 := { stood := { row := portNamesUptoRow, standIns := [], harness := (true, "bdb0056214c76e6fa263bd96a4f3dcefee7036980c368a11cd9ee5d0ea09dd29"), looks := false }, kinds := [], alts := [], laidByText := true, laidKinds := [.data, .data, .data, .data], laidTests := true, laidLooks := .later }
def PortNamesUptoCardSaid : Prop := Claim7.holds Tryd.pinned (.plain (OpenSpec.upto portNamesSpec)) portNamesUptoCard

/-- THE SECOND FORM's CARD OF 'tollgatelaw22.PortIds'. -/
def portIdsUptoCard : Claim7 := { stood := { row := portIdsUptoRow, standIns := [], harness := (true, "bdb0056214c76e6fa263bd96a4f3dcefee7036980c368a11cd9ee5d0ea09dd29"), looks := false }, kinds := [], alts := [], laidByText := true, laidKinds := [.data, .data, .data, .data], laidTests := true, laidLooks := .later }
def PortIdsUptoCardSaid : Prop := Claim7.holds Tryd.pinned (.plain (OpenSpec.upto portIdsSpec)) portIdsUptoCard

/-- THE SECOND FORM's CARD OF 'tollgatelaw22.PortShuts'. -/
def portShutsUptoCard : Claim7 := { stood := { row := portShutsUptoRow, standIns := [], harness := (true, "bdb0056214c76e6fa263bd96a4f3dcefee7036980c368a11cd9ee5d0ea09dd29"), looks := false }, kinds := [], alts := [], laidByText := true, laidKinds := [.data, .data, .data, .data], laidTests := true, laidLooks := .later }
def PortShutsUptoCardSaid : Prop := Claim7.holds Tryd.pinned (.plain (OpenSpec.upto portShutsSpec)) portShutsUptoCard

/-- THE SECOND FORM's CARD OF 'tollgatetop.TollgateCarries'. -/
def tollgateCarriesUptoCard : Claim7 := { stood := { row := tollgateCarriesUptoRow, standIns := [], harness := (true, "bdb0056214c76e6fa263bd96a4f3dcefee7036980c368a11cd9ee5d0ea09dd29"), looks := false }, kinds := [], alts := [], laidByText := true, laidKinds := [.data, .data, .data, .data], laidTests := true, laidLooks := .later }
def TollgateCarriesUptoCardSaid : Prop := Claim7.holds Tryd.pinned (.plain (OpenSpec.upto tollgateCarriesSpec)) tollgateCarriesUptoCard
end Rows
end Go.Proofs.YtocfhkmdkdjinaaDoor
