/-
  DERIVED. GIVEN WITH THE SEED: THE CARDS: each row of YtafndflddlieiaaDoorRows.lean that lists a variable, with what it lists TIED to the program's text (the seventh form; the later family's looks); each row that meets fmt, with fmt's text TOLD by the authors' own Lean function (tested against real Go, not proved from fmt's source: count such statements apart). THE CARD IS WHAT COUNTS. Prove the row's statement (the work); the ties are given (YtafndflddlieiaaDoorTie.lean); close each card by the builder's one call (the guide's Derived/Test/ToyasCard.lean, 'card_holds'). Laid BY PROGRAM, IN A SANDBOX (cutbox-door.mjs). By AI agents, Wed Nov 11 2026. No macro, syntax, notation, axiom, sorry.
-/
import Derived.Test.YtafndflddlieiaaDoorRows
import GoSem.ClaimSeven
namespace Go.Proofs.YtafndflddlieiaaDoor
namespace Rows

/-- THE TIED CARD OF 'hurdlelaw04.BitmapTakes'. -/
def bitmapTakesCard : Claim7 := { stood := { row := bitmapTakesRow, standIns := [], harness := (true, "9fe53e5b745313c973d2e539855af2d14cc1ec37b0ebad8d7eab0b6c14fbc5e6"), looks := false }, kinds := [], alts := [], laidByText := true, laidKinds := [.data], laidTests := true, laidLooks := .later }
def BitmapTakesCardSaid : Prop := Claim7.holds Tryd.pinned (.plain (OpenSpec.ofChange bitmapTakesSpec)) bitmapTakesCard

/-- THE TIED CARD OF 'hurdlelaw04.BitmapPlays'. -/
def bitmapPlaysCard : Claim7 := { stood := { row := bitmapPlaysRow, standIns := [], harness := (true, "9fe53e5b745313c973d2e539855af2d14cc1ec37b0ebad8d7eab0b6c14fbc5e6"), looks := false }, kinds := [], alts := [], laidByText := true, laidKinds := [.data], laidTests := true, laidLooks := .later }
def BitmapPlaysCardSaid : Prop := Claim7.holds Tryd.pinned (.plain (OpenSpec.ofChange bitmapPlaysSpec)) bitmapPlaysCard

/-- THE TIED CARD OF 'hurdlelaw04.BitmapReads'. -/
def bitmapReadsCard : Claim7 := { stood := { row := bitmapReadsRow, standIns := [], harness := (true, "9fe53e5b745313c973d2e539855af2d14cc1ec37b0ebad8d7eab0b6c14fbc5e6"), looks := false }, kinds := [], alts := [], laidByText := true, laidKinds := [.data], laidTests := true, laidLooks := .later }
def BitmapReadsCardSaid : Prop := Claim7.holds Tryd.pinned (.plain (OpenSpec.ofChange bitmapReadsSpec)) bitmapReadsCard

/-- THE TIED CARD OF 'hurdlelaw04.BitmapRuns'. -/
def bitmapRunsCard : Claim7 := { stood := { row := bitmapRunsRow, standIns := [], harness := (true, "9fe53e5b745313c973d2e539855af2d14cc1ec37b0ebad8d7eab0b6c14fbc5e6"), looks := false }, kinds := [], alts := [], laidByText := true, laidKinds := [.data], laidTests := true, laidLooks := .later }
def BitmapRunsCardSaid : Prop := Claim7.holds Tryd.pinned (.plain (OpenSpec.ofChange bitmapRunsSpec)) bitmapRunsCard

/-- THE TIED CARD OF 'hurdlelaw04.BitmapNone'. -/
def bitmapNoneCard : Claim7 := { stood := { row := bitmapNoneRow, standIns := [], harness := (true, "9fe53e5b745313c973d2e539855af2d14cc1ec37b0ebad8d7eab0b6c14fbc5e6"), looks := false }, kinds := [], alts := [], laidByText := true, laidKinds := [.data], laidTests := true, laidLooks := .later }
def BitmapNoneCardSaid : Prop := Claim7.holds Tryd.pinned (.plain (OpenSpec.ofChange bitmapNoneSpec)) bitmapNoneCard

/-- THE SECOND FORM's CARD OF 'hurdlelaw04.BitmapTakes'. -/
def bitmapTakesUptoCard : Claim7 := { stood := { row := bitmapTakesUptoRow, standIns := [], harness := (true, "9fe53e5b745313c973d2e539855af2d14cc1ec37b0ebad8d7eab0b6c14fbc5e6"), looks := false }, kinds := [], alts := [], laidByText := true, laidKinds := [.data], laidTests := true, laidLooks := .later }
def BitmapTakesUptoCardSaid : Prop := Claim7.holds Tryd.pinned (.plain (OpenSpec.upto bitmapTakesSpec)) bitmapTakesUptoCard

/-- THE SECOND FORM's CARD OF 'hurdlelaw04.BitmapPlays'. -/
def bitmapPlaysUptoCard : Claim7 := { stood := { row := bitmapPlaysUptoRow, standIns := [], harness := (true, "9fe53e5b745313c973d2e539855af2d14cc1ec37b0ebad8d7eab0b6c14fbc5e6"), looks := false }, kinds := [], alts := [], laidByText := true, laidKinds := [.data], laidTests := true, laidLooks := .later }
def BitmapPlaysUptoCardSaid : Prop := Claim7.holds Tryd.pinned (.plain (OpenSpec.upto bitmapPlaysSpec)) bitmapPlaysUptoCard

/-- THE SECOND FORM's CARD OF 'hurdlelaw04.BitmapReads'. -/
def bitmapReadsUptoCard : Claim7 := { stood := { row := bitmapReadsUptoRow, standIns := [], harness := (true, "9fe53e5b745313c973d2e539855af2d14cc1ec37b0ebad8d7eab0b6c14fbc5e6"), looks := false }, kinds := [], alts := [], laidByText := true, laidKinds := [.data], laidTests := true, laidLooks := .later }
def BitmapReadsUptoCardSaid : Prop := Claim7.holds Tryd.pinned (.plain (OpenSpec.upto bitmapReadsSpec)) bitmapReadsUptoCard

/-- THE SECOND FORM's CARD OF 'hurdlelaw04.BitmapRuns'. -/
def bitmapRunsUptoCard : Claim7 := { stood := { row := bitmapRunsUptoRow, standIns := [], harness := (true, "9fe53e5b745313c973d2e539855af2d14cc1ec37b0ebad8d7eab0b6c14fbc5e6"), looks := false }, kinds := [], alts := [], laidByText := true, laidKinds := [.data], laidTests := true, laidLooks := .later }
def BitmapRunsUptoCardSaid : Prop := Claim7.holds Tryd.pinned (.plain (OpenSpec.upto bitmapRunsSpec)) bitmapRunsUptoCard

/-- THE SECOND FORM's CARD OF 'hurdlelaw04.BitmapNone'. -/
def bitmapNoneUptoCard : Claim7 := { stood := { row := bitmapNoneUptoRow, standIns := [], harness := (true, "9fe53e5b745313c973d2e539855af2d14cc1ec37b0ebad8d7eab0b6c14fbc5e6"), looks := false }, kinds := [], alts := [], laidByText := true, laidKinds := [.data], laidTests := true, laidLooks := .later }
def BitmapNoneUptoCardSaid : Prop := Claim7.holds Tryd.pinned (.plain (OpenSpec.upto bitmapNoneSpec)) bitmapNoneUptoCard
end Rows
end Go.Proofs.YtafndflddlieiaaDoor
