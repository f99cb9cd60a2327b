/-
  DERIVED. GIVEN WITH THE SEED: THE CARDS: each row of YtopbojifllnckaaGreatDoorRows.lean that lists a variable, with what it lists TIED to the program's text (the seventh form; the later family's looks); each row that meets fmt, with fmt's text TOLD by the authors' own Lean function (tested against real Go, not proved from fmt's source: count such statements apart). THE CARD IS WHAT COUNTS. Prove the row's statement (the work); the ties are given (YtopbojifllnckaaGreatDoorTie.lean); close each card by the builder's one call (the guide's Derived/Test/ToyasCard.lean, 'card_holds'). Laid BY PROGRAM, IN A SANDBOX (cutbox-door.mjs). By AI agents, Wed Nov 11 2026. No macro, syntax, notation, axiom, sorry.
-/
import Derived.Test.YtopbojifllnckaaGreatDoorRows
import GoSem.ClaimSeven
namespace Go.Proofs.YtopbojifllnckaaGreatDoor
namespace Rows

/-- THE TIED CARD OF 'hurdletop.TopFences'. -/
def topFencesCard : Claim7 := { stood := { row := topFencesRow, standIns := [], harness := (true, "4b0c7875cd0449dfa5cef2f10b10c28bf76c246e6f61b5507e7eb2dce4e4e8c0"), looks := true }, kinds := [], alts := [], laidByText := true, laidKinds := [.data, .pinned], laidTests := true, laidLooks := .later }
def TopFencesCardSaid : Prop := Claim7.holds Tryz.pinned (.plain (OpenSpec.ofChange topFencesSpec)) topFencesCard

/-- THE TIED CARD OF 'hurdletop.TopStripes'. -/
def topStripesCard : Claim7 := { stood := { row := topStripesRow, standIns := [], harness := (true, "4b0c7875cd0449dfa5cef2f10b10c28bf76c246e6f61b5507e7eb2dce4e4e8c0"), looks := true }, kinds := [], alts := [], laidByText := true, laidKinds := [.data, .pinned], laidTests := true, laidLooks := .later }
def TopStripesCardSaid : Prop := Claim7.holds Tryz.pinned (.plain (OpenSpec.ofChange topStripesSpec)) topStripesCard

/-- THE SECOND FORM's CARD OF 'hurdletop.TopFences'. -/
def topFencesUptoCard : Claim7 := { stood := { row := topFencesUptoRow, standIns := [], harness := (true, "4b0c7875cd0449dfa5cef2f10b10c28bf76c246e6f61b5507e7eb2dce4e4e8c0"), looks := true }, kinds := [], alts := [], laidByText := true, laidKinds := [.data, .pinned], laidTests := true, laidLooks := .later }
def TopFencesUptoCardSaid : Prop := Claim7.holds Tryz.pinned (.plain (OpenSpec.upto topFencesSpec)) topFencesUptoCard

/-- THE SECOND FORM's CARD OF 'hurdletop.TopStripes'. -/
def topStripesUptoCard : Claim7 := { stood := { row := topStripesUptoRow, standIns := [], harness := (true, "4b0c7875cd0449dfa5cef2f10b10c28bf76c246e6f61b5507e7eb2dce4e4e8c0"), looks := true }, kinds := [], alts := [], laidByText := true, laidKinds := [.data, .pinned], laidTests := true, laidLooks := .later }
def TopStripesUptoCardSaid : Prop := Claim7.holds Tryz.pinned (.plain (OpenSpec.upto topStripesSpec)) topStripesUptoCard
end Rows
end Go.Proofs.YtopbojifllnckaaGreatDoor
