/-
  DERIVED. GIVEN WITH THE SEED: THE CARDS: each row of YtkokcibnkcmcjaaDoorRows.lean that lists a variable, with what it lists TIED to the program's text (the seventh form; the later family's looks); each row that meets fmt, with fmt's text TOLD by the authors' own Lean function (tested against real Go, not proved from fmt's source: count such statements apart). THE CARD IS WHAT COUNTS. Prove the row's statement (the work); the ties are given (YtkokcibnkcmcjaaDoorTie.lean); close each card by the builder's one call (the guide's Derived/Test/ToyasCard.lean, 'card_holds'). Laid BY PROGRAM, IN A SANDBOX (cutbox-door.mjs). By AI agents, Wed Nov 11 2026. No macro, syntax, notation, axiom, sorry.
-/
import Derived.Test.YtkokcibnkcmcjaaDoorRows
import GoSem.ClaimSeven
namespace Go.Proofs.YtkokcibnkcmcjaaDoor
namespace Rows

/-- THE TIED CARD OF 'tollgatelaw01.HashOf'. -/
def hashOfCard : Claim7 := { stood := { row := hashOfRow, standIns := [], harness := (true, "43894ff74c0255d81b474b29eb1194d5e046bad1f5d26ca2e3f5197059851510"), looks := false }, kinds := [], alts := [], laidByText := true, laidKinds := [.data, .data], laidTests := true, laidLooks := .later }
def HashOfCardSaid : Prop := Claim7.holds Tryd.pinned (.plain (OpenSpec.ofChange hashOfSpec)) hashOfCard

/-- THE TIED CARD OF 'tollgatelaw01.HashLong'. -/
def hashLongCard : Claim7 := { stood := { row := hashLongRow, standIns := [], harness := (true, "43894ff74c0255d81b474b29eb1194d5e046bad1f5d26ca2e3f5197059851510"), looks := false }, kinds := [], alts := [], laidByText := true, laidKinds := [.data, .data], laidTests := true, laidLooks := .later }
def HashLongCardSaid : Prop := Claim7.holds Tryd.pinned (.plain (OpenSpec.ofChange hashLongSpec)) hashLongCard

/-- THE TIED CARD OF 'tollgatelaw02.OldOf'. -/
def oldOfCard : Claim7 := { stood := { row := oldOfRow, standIns := [], harness := (true, "43894ff74c0255d81b474b29eb1194d5e046bad1f5d26ca2e3f5197059851510"), looks := false }, kinds := [], alts := [], laidByText := true, laidKinds := [.data, .data], laidTests := true, laidLooks := .later }
def OldOfCardSaid : Prop := Claim7.holds Tryd.pinned (.plain (OpenSpec.ofChange oldOfSpec)) oldOfCard

/-- THE TIED CARD OF 'tollgatelaw01.HashGoes'. -/
def hashGoesCard : Claim7 := { stood := { row := hashGoesRow, standIns := [], harness := (true, "43894ff74c0255d81b474b29eb1194d5e046bad1f5d26ca2e3f5197059851510"), looks := false }, kinds := [], alts := [], laidByText := true, laidKinds := [.data, .data], laidTests := true, laidLooks := .later }
def HashGoesCardSaid : Prop := Claim7.holds Tryd.pinned (.plain (OpenSpec.ofChange hashGoesSpec)) hashGoesCard

/-- THE TIED CARD OF 'tollgatelaw01.HashParts'. -/
def hashPartsCard : Claim7 := { stood := { row := hashPartsRow, standIns := [], harness := (true, "43894ff74c0255d81b474b29eb1194d5e046bad1f5d26ca2e3f5197059851510"), looks := false }, kinds := [], alts := [], laidByText := true, laidKinds := [.data, .data], laidTests := true, laidLooks := .later }
def HashPartsCardSaid : Prop := Claim7.holds Tryd.pinned (.plain (OpenSpec.ofChange hashPartsSpec)) hashPartsCard

/-- THE TIED CARD OF 'tollgatelaw01.HashRows'. -/
def hashRowsCard : Claim7 := { stood := { row := hashRowsRow, standIns := [], harness := (true, "43894ff74c0255d81b474b29eb1194d5e046bad1f5d26ca2e3f5197059851510"), looks := false }, kinds := [], alts := [], laidByText := true, laidKinds := [.data, .data], laidTests := true, laidLooks := .later }
def HashRowsCardSaid : Prop := Claim7.holds Tryd.pinned (.plain (OpenSpec.ofChange hashRowsSpec)) hashRowsCard

/-- THE TIED CARD OF 'tollgatetop.TollgateMarks'. -/
def tollgateMarksCard : Claim7 := { stood := { row := tollgateMarksRow, standIns := [], harness := (true, "43894ff74c0255d81b474b29eb1194d5e046bad1f5d26ca2e3f5197059851510"), looks := false }, kinds := [], alts := [], laidByText := true, laidKinds := [.data, .data, .data, .data], laidTests := true, laidLooks := .later }
def TollgateMarksCardSaid : Prop := Claim7.holds Tryd.pinned (.plain (OpenSpec.ofChange tollgateMarksSpec)) tollgateMarksCard

/-- THE TIED CARD OF 'tollgatelaw03.MacOf'. -/
def macOfCard : Claim7 := { stood := { row := macOfRow, standIns := [], harness := (true, "43894ff74c0255d81b474b29eb1194d5e046bad1f5d26ca2e3f5197059851510"), looks := false }, kinds := [], alts := [], laidByText := true, laidKinds := [.data, .data], laidTests := true, laidLooks := .later }
def MacOfCardSaid : Prop := Claim7.holds Tryd.pinned (.plain (OpenSpec.ofChange macOfSpec)) macOfCard

/-- THE TIED CARD OF 'tollgatelaw03.MacSames'. -/
def macSamesCard : Claim7 := { stood := { row := macSamesRow, standIns := [], harness := (true, "43894ff74c0255d81b474b29eb1194d5e046bad1f5d26ca2e3f5197059851510"), looks := false }, kinds := [], alts := [], laidByText := true, laidKinds := [.data, .data], laidTests := true, laidLooks := .later }
def MacSamesCardSaid : Prop := Claim7.holds Tryd.pinned (.plain (OpenSpec.ofChange macSamesSpec)) macSamesCard

/-- THE TIED CARD OF 'tollgatelaw03.MacExpands'. -/
def macExpandsCard : Claim7 := { stood := { row := macExpandsRow, standIns := [], harness := (true, "43894ff74c0255d81b474b29eb1194d5e046bad1f5d26ca2e3f5197059851510"), looks := false }, kinds := [], alts := [], laidByText := true, laidKinds := [.data, .data], laidTests := true, laidLooks := .later }
def MacExpandsCardSaid : Prop := Claim7.holds Tryd.pinned (.plain (OpenSpec.ofChange macExpandsSpec)) macExpandsCard

/-- THE TIED CARD OF 'tollgatelaw03.MacLabels'. -/
def macLabelsCard : Claim7 := { stood := { row := macLabelsRow, standIns := [], harness := (true, "43894ff74c0255d81b474b29eb1194d5e046bad1f5d26ca2e3f5197059851510"), looks := false }, kinds := [], alts := [], laidByText := true, laidKinds := [.data, .data], laidTests := true, laidLooks := .later }
def MacLabelsCardSaid : Prop := Claim7.holds Tryd.pinned (.plain (OpenSpec.ofChange macLabelsSpec)) macLabelsCard

/-- THE TIED CARD OF 'tollgatelaw03.MacDerives'. -/
def macDerivesCard : Claim7 := { stood := { row := macDerivesRow, standIns := [], harness := (true, "43894ff74c0255d81b474b29eb1194d5e046bad1f5d26ca2e3f5197059851510"), looks := false }, kinds := [], alts := [], laidByText := true, laidKinds := [.data, .data], laidTests := true, laidLooks := .later }
def MacDerivesCardSaid : Prop := Claim7.holds Tryd.pinned (.plain (OpenSpec.ofChange macDerivesSpec)) macDerivesCard

/-- THE TIED CARD OF 'tollgatelaw14.KeysSteps'. -/
def keysStepsCard : Claim7 := { stood := { row := keysStepsRow, standIns := [], harness := (true, "43894ff74c0255d81b474b29eb1194d5e046bad1f5d26ca2e3f5197059851510"), looks := false }, kinds := [], alts := [], laidByText := true, laidKinds := [.data, .data], laidTests := true, laidLooks := .later }
def KeysStepsCardSaid : Prop := Claim7.holds Tryd.pinned (.plain (OpenSpec.ofChange keysStepsSpec)) keysStepsCard

/-- THE TIED CARD OF 'tollgatelaw02.OldHides'. -/
def oldHidesCard : Claim7 := { stood := { row := oldHidesRow, standIns := [], harness := (true, "43894ff74c0255d81b474b29eb1194d5e046bad1f5d26ca2e3f5197059851510"), looks := false }, kinds := [], alts := [], laidByText := true, laidKinds := [.data, .data], laidTests := true, laidLooks := .later }
def OldHidesCardSaid : Prop := Claim7.holds Tryd.pinned (.plain (OpenSpec.ofChange oldHidesSpec)) oldHidesCard

/-- THE TIED CARD OF 'tollgatelaw14.KeysExports'. -/
def keysExportsCard : Claim7 := { stood := { row := keysExportsRow, standIns := [], harness := (true, "43894ff74c0255d81b474b29eb1194d5e046bad1f5d26ca2e3f5197059851510"), looks := false }, kinds := [], alts := [], laidByText := true, laidKinds := [.data, .data], laidTests := true, laidLooks := .later }
def KeysExportsCardSaid : Prop := Claim7.holds Tryd.pinned (.plain (OpenSpec.ofChange keysExportsSpec)) keysExportsCard

/-- THE TIED CARD OF 'tollgatelaw02.OldMacs'. -/
def oldMacsCard : Claim7 := { stood := { row := oldMacsRow, standIns := [], harness := (true, "43894ff74c0255d81b474b29eb1194d5e046bad1f5d26ca2e3f5197059851510"), looks := false }, kinds := [], alts := [], laidByText := true, laidKinds := [.data, .data], laidTests := true, laidLooks := .later }
def OldMacsCardSaid : Prop := Claim7.holds Tryd.pinned (.plain (OpenSpec.ofChange oldMacsSpec)) oldMacsCard

/-- THE TIED CARD OF 'tollgatelaw02.OldKeys'. -/
def oldKeysCard : Claim7 := { stood := { row := oldKeysRow, standIns := [], harness := (true, "43894ff74c0255d81b474b29eb1194d5e046bad1f5d26ca2e3f5197059851510"), looks := false }, kinds := [], alts := [], laidByText := true, laidKinds := [.data, .data], laidTests := true, laidLooks := .later }
def OldKeysCardSaid : Prop := Claim7.holds Tryd.pinned (.plain (OpenSpec.ofChange oldKeysSpec)) oldKeysCard

/-- THE TIED CARD OF 'tollgatelaw14.KeysMarks'. -/
def keysMarksCard : Claim7 := { stood := { row := keysMarksRow, standIns := [], harness := (true, "43894ff74c0255d81b474b29eb1194d5e046bad1f5d26ca2e3f5197059851510"), looks := false }, kinds := [], alts := [], laidByText := true, laidKinds := [.data, .data], laidTests := true, laidLooks := .later }
def KeysMarksCardSaid : Prop := Claim7.holds Tryd.pinned (.plain (OpenSpec.ofChange keysMarksSpec)) keysMarksCard

/-- THE SECOND FORM's CARD OF 'tollgatelaw01.HashOf'. -/
def hashOfUptoCard : Claim7 := { stood := { row := hashOfUptoRow, standIns := [], harness := (true, "43894ff74c0255d81b474b29eb1194d5e046bad1f5d26ca2e3f5197059851510"), looks := false }, kinds := [], alts := [], laidByText := true, laidKinds := [.data, .data], laidTests := true, laidLooks := .later }
def HashOfUptoCardSaid : Prop := Claim7.holds Tryd.pinned (.plain (OpenSpec.upto hashOfSpec)) hashOfUptoCard

/-- THE SECOND FORM's CARD OF 'tollgatelaw01.HashLong'. -/
def hashLongUptoCard : Claim7 := { stood := { row := hashLongUptoRow, standIns := [], harness := (true, "43894ff74c0255d81b474b29eb1194d5e046bad1f5d26ca2e3f5197059851510"), looks := false }, kinds := [], alts := [], laidByText := true, laidKinds := [.data, .data], laidTests := true, laidLooks := .later }
def HashLongUptoCardSaid : Prop := Claim7.holds Tryd.pinned (.plain (OpenSpec.upto hashLongSpec)) hashLongUptoCard

/-- THE SECOND FORM's CARD OF 'tollgatelaw02.OldOf'. -/
def oldOfUptoCard : Claim7 := { stood := { row := oldOfUptoRow, standIns := [], harness := (true, "43894ff74c0255d81b474b29eb1194d5e046bad1f5d26ca2e3f5197059851510"), looks := false }, kinds := [], alts := [], laidByText := true, laidKinds := [.data, .data], laidTests := true, laidLooks := .later }
def OldOfUptoCardSaid : Prop := Claim7.holds Tryd.pinned (.plain (OpenSpec.upto oldOfSpec)) oldOfUptoCard

/-- THE SECOND FORM's CARD OF 'tollgatelaw01.HashGoes'. -/
def hashGoesUptoCard : Claim7 := { stood := { row := hashGoesUptoRow, standIns := [], harness := (true, "43894ff74c0255d81b474b29eb1194d5e046bad1f5d26ca2e3f5197059851510"), looks := false }, kinds := [], alts := [], laidByText := true, laidKinds := [.data, .data], laidTests := true, laidLooks := .later }
def HashGoesUptoCardSaid : Prop := Claim7.holds Tryd.pinned (.plain (OpenSpec.upto hashGoesSpec)) hashGoesUptoCard

/-- THE SECOND FORM's CARD OF 'tollgatelaw01.HashParts'. -/
def hashPartsUptoCard : Claim7 := { stood := { row := hashPartsUptoRow, standIns := [], harness := (true, "43894ff74c0255d81b474b29eb1194d5e046bad1f5d26ca2e3f5197059851510"), looks := false }, kinds := [], alts := [], laidByText := true, laidKinds := [.data, .data], laidTests := true, laidLooks := .later }
def HashPartsUptoCardSaid : Prop := Claim7.holds Tryd.pinned (.plain (OpenSpec.upto hashPartsSpec)) hashPartsUptoCard

/-- THE SECOND FORM's CARD OF 'tollgatelaw01.HashRows'. -/
def hashRowsUptoCard : Claim7 := { stood := { row := hashRowsUptoRow, standIns := [], harness := (true, "43894ff74c0255d81b474b29eb1194d5e046bad1f5d26ca2e3f5197059851510"), looks := false }, kinds := [], alts := [], laidByText := true, laidKinds := [.data, .data], laidTests := true, laidLooks := .later }
def HashRowsUptoCardSaid : Prop := Claim7.holds Tryd.pinned (.plain (OpenSpec.upto hashRowsSpec)) hashRowsUptoCard

/-- THE SECOND FORM's CARD OF 'tollgatetop.TollgateMarks'. -/
def tollgateMarksUptoCard : Claim7 := { stood := { row := tollgateMarksUptoRow, standIns := [], harness := (true, "43894ff74c0255d81b474b29eb1194d5e046bad1f5d26ca2e3f5197059851510"), looks := false }, kinds := [], alts := [], laidByText := true, laidKinds := [.data, .data, .data, .data], laidTests := true, laidLooks := .later }
def TollgateMarksUptoCardSaid : Prop := Claim7.holds Tryd.pinned (.plain (OpenSpec.upto tollgateMarksSpec)) tollgateMarksUptoCard

/-- THE SECOND FORM's CARD OF 'tollgatelaw03.MacOf'. -/
def macOfUptoCard : Claim7 := { stood := { row := macOfUptoRow, standIns := [], harness := (true, "43894ff74c0255d81b474b29eb1194d5e046bad1f5d26ca2e3f5197059851510"), looks := false }, kinds := [], alts := [], laidByText := true, laidKinds := [.data, .data], laidTests := true, laidLooks := .later }
def MacOfUptoCardSaid : Prop := Claim7.holds Tryd.pinned (.plain (OpenSpec.upto macOfSpec)) macOfUptoCard

/-- THE SECOND FORM's CARD OF 'tollgatelaw03.MacSames'. -/
def macSamesUptoCard : Claim7 := { stood := { row := macSamesUptoRow, standIns := [], harness := (true, "43894ff74c0255d81b474b29eb1194d5e046bad1f5d26ca2e3f5197059851510"), looks := false }, kinds := [], alts := [], laidByText := true, laidKinds := [.data, .data], laidTests := true, laidLooks := .later }
def MacSamesUptoCardSaid : Prop := Claim7.holds Tryd.pinned (.plain (OpenSpec.upto macSamesSpec)) macSamesUptoCard

/-- THE SECOND FORM's CARD OF 'tollgatelaw03.MacExpands'. -/
def macExpandsUptoCard : Claim7 := { stood := { row := macExpandsUptoRow, standIns := [], harness := (true, "43894ff74c0255d81b474b29eb1194d5e046bad1f5d26ca2e3f5197059851510"), looks := false }, kinds := [], alts := [], laidByText := true, laidKinds := [.data, .data], laidTests := true, laidLooks := .later }
def MacExpandsUptoCardSaid : Prop := Claim7.holds Tryd.pinned (.plain (OpenSpec.upto macExpandsSpec)) macExpandsUptoCard

/-- THE SECOND FORM's CARD OF 'tollgatelaw03.MacLabels'. -/
def macLabelsUptoCard : Claim7 := { stood := { row := macLabelsUptoRow, standIns := [], harness := (true, "43894ff74c0255d81b474b29eb1194d5e046bad1f5d26ca2e3f5197059851510"), looks := false }, kinds := [], alts := [], laidByText := true, laidKinds := [.data, .data], laidTests := true, laidLooks := .later }
def MacLabelsUptoCardSaid : Prop := Claim7.holds Tryd.pinned (.plain (OpenSpec.upto macLabelsSpec)) macLabelsUptoCard

/-- THE SECOND FORM's CARD OF 'tollgatelaw03.MacDerives'. -/
def macDerivesUptoCard : Claim7 := { stood := { row := macDerivesUptoRow, standIns := [], harness := (true, "43894ff74c0255d81b474b29eb1194d5e046bad1f5d26ca2e3f5197059851510"), looks := false }, kinds := [], alts := [], laidByText := true, laidKinds := [.data, .data], laidTests := true, laidLooks := .later }
def MacDerivesUptoCardSaid : Prop := Claim7.holds Tryd.pinned (.plain (OpenSpec.upto macDerivesSpec)) macDerivesUptoCard

/-- THE SECOND FORM's CARD OF 'tollgatelaw14.KeysSteps'. -/
def keysStepsUptoCard : Claim7 := { stood := { row := keysStepsUptoRow, standIns := [], harness := (true, "43894ff74c0255d81b474b29eb1194d5e046bad1f5d26ca2e3f5197059851510"), looks := false }, kinds := [], alts := [], laidByText := true, laidKinds := [.data, .data], laidTests := true, laidLooks := .later }
def KeysStepsUptoCardSaid : Prop := Claim7.holds Tryd.pinned (.plain (OpenSpec.upto keysStepsSpec)) keysStepsUptoCard

/-- THE SECOND FORM's CARD OF 'tollgatelaw02.OldHides'. -/
def oldHidesUptoCard : Claim7 := { stood := { row := oldHidesUptoRow, standIns := [], harness := (true, "43894ff74c0255d81b474b29eb1194d5e046bad1f5d26ca2e3f5197059851510"), looks := false }, kinds := [], alts := [], laidByText := true, laidKinds := [.data, .data], laidTests := true, laidLooks := .later }
def OldHidesUptoCardSaid : Prop := Claim7.holds Tryd.pinned (.plain (OpenSpec.upto oldHidesSpec)) oldHidesUptoCard

/-- THE SECOND FORM's CARD OF 'tollgatelaw14.KeysExports'. -/
def keysExportsUptoCard : Claim7 := { stood := { row := keysExportsUptoRow, standIns := [], harness := (true, "43894ff74c0255d81b474b29eb1194d5e046bad1f5d26ca2e3f5197059851510"), looks := false }, kinds := [], alts := [], laidByText := true, laidKinds := [.data, .data], laidTests := true, laidLooks := .later }
def KeysExportsUptoCardSaid : Prop := Claim7.holds Tryd.pinned (.plain (OpenSpec.upto keysExportsSpec)) keysExportsUptoCard

/-- THE SECOND FORM's CARD OF 'tollgatelaw02.OldMacs'. -/
def oldMacsUptoCard : Claim7 := { stood := { row := oldMacsUptoRow, standIns := [], harness := (true, "43894ff74c0255d81b474b29eb1194d5e046bad1f5d26ca2e3f5197059851510"), looks := false }, kinds := [], alts := [], laidByText := true, laidKinds := [.data, .data], laidTests := true, laidLooks := .later }
def OldMacsUptoCardSaid : Prop := Claim7.holds Tryd.pinned (.plain (OpenSpec.upto oldMacsSpec)) oldMacsUptoCard

/-- THE SECOND FORM's CARD OF 'tollgatelaw02.OldKeys'. -/
def oldKeysUptoCard : Claim7 := { stood := { row := oldKeysUptoRow, standIns := [], harness := (true, "43894ff74c0255d81b474b29eb1194d5e046bad1f5d26ca2e3f5197059851510"), looks := false }, kinds := [], alts := [], laidByText := true, laidKinds := [.data, .data], laidTests := true, laidLooks := .later }
def OldKeysUptoCardSaid : Prop := Claim7.holds Tryd.pinned (.plain (OpenSpec.upto oldKeysSpec)) oldKeysUptoCard

/-- THE SECOND FORM's CARD OF 'tollgatelaw14.KeysMarks'. -/
def keysMarksUptoCard : Claim7 := { stood := { row := keysMarksUptoRow, standIns := [], harness := (true, "43894ff74c0255d81b474b29eb1194d5e046bad1f5d26ca2e3f5197059851510"), looks := false }, kinds := [], alts := [], laidByText := true, laidKinds := [.data, .data], laidTests := true, laidLooks := .later }
def KeysMarksUptoCardSaid : Prop := Claim7.holds Tryd.pinned (.plain (OpenSpec.upto keysMarksSpec)) keysMarksUptoCard
end Rows
end Go.Proofs.YtkokcibnkcmcjaaDoor
