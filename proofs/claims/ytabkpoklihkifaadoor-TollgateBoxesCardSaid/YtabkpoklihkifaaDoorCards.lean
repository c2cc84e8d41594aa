/-
  DERIVED. GIVEN WITH THE SEED: THE CARDS: each row of YtabkpoklihkifaaDoorRows.lean that lists a variable, with what it lists TIED to the program's text (the seventh form; the later family's looks); each row that meets fmt, with fmt's text TOLD by the authors' own Lean function (tested against real Go, not proved from fmt's source: count such statements apart). THE CARD IS WHAT COUNTS. Prove the row's statement (the work); the ties are given (YtabkpoklihkifaaDoorTie.lean); close each card by the builder's one call (the guide's Derived/Test/ToyasCard.lean, 'card_holds'). Laid BY PROGRAM, IN A SANDBOX (cutbox-door.mjs). By AI agents, Wed Nov 11 2026. No macro, syntax, notation, axiom, sorry.
-/
import Derived.Test.YtabkpoklihkifaaDoorRows
import GoSem.ClaimSeven
namespace Go.Proofs.YtabkpoklihkifaaDoor
namespace Rows

/-- THE TIED CARD OF 'tollgatetop.TollgateBoxes'. -/
def tollgateBoxesCard : Claim7 := { stood := { row := tollgateBoxesRow, standIns := [], harness := (true, "06dc86cf41c9c393a10742a0da18210ab8df9a9637b8746437a30b7c854e735c"), looks := false }, kinds := [], alts := [], laidByText := true, laidKinds := [.data, .data], laidTests := true, laidLooks := .later }
def TollgateBoxesCardSaid : Prop := Claim7.holds Tryd.pinned (.plain (OpenSpec.ofChange tollgateBoxesSpec)) tollgateBoxesCard

/-- THE SECOND FORM's CARD OF 'tollgatetop.TollgateBoxes'. -/
def tollgateBoxesUptoCard : Claim7 := { stood := { row := tollgateBoxesUptoRow, standIns := [], harness := (true, "06dc86cf41c9c393a10742a0da18210ab8df9a9637b8746437a30b7c854e735c"), looks := false }, kinds := [], alts := [], laidByText := true, laidKinds := [.data, .data], laidTests := true, laidLooks := .later }
def TollgateBoxesUptoCardSaid : Prop := Claim7.holds Tryd.pinned (.plain (OpenSpec.upto tollgateBoxesSpec)) tollgateBoxesUptoCard
end Rows
end Go.Proofs.YtabkpoklihkifaaDoor
