/-
  DERIVED. GIVEN WITH THE SEED: THE CARDS: each row of YtconcmjmdhdgjaaDoorRows.lean that lists a variable, with what it lists TIED to the program's text (the seventh form; the later family's looks); each row that meets fmt, with fmt's text TOLD by the authors' own Lean function (tested against real Go, not proved from fmt's source: count such statements apart). THE CARD IS WHAT COUNTS. Prove the row's statement (the work); the ties are given (YtconcmjmdhdgjaaDoorTie.lean); close each card by the builder's one call (the guide's Derived/Test/ToyasCard.lean, 'card_holds'). Laid BY PROGRAM, IN A SANDBOX (cutbox-door.mjs). By AI agents, Wed Nov 11 2026. No macro, syntax, notation, axiom, sorry.
-/
import Derived.Test.YtconcmjmdhdgjaaDoorRows
import GoSem.ClaimSeven
namespace Go.Proofs.YtconcmjmdhdgjaaDoor
namespace Rows

/-- THE TIED CARD OF 'skaldlaw04.FrameAny'. -/
def frameAnyCard : Claim7 := { stood := { row := frameAnyRow, standIns := [], harness := (true, "fe1925d5c2e941f98fbbf6abb02b6615a8e7b81bf797a43b9ccf39e64f95fc42"), looks := false }, kinds := [], alts := [], laidByText := true, laidKinds := [.data], laidTests := true, laidLooks := .later }
def FrameAnyCardSaid : Prop := Claim7.holds Tryd.pinned (.plain (OpenSpec.ofChange frameAnySpec)) frameAnyCard

/-- THE TIED CARD OF 'skaldlaw04.FrameParts'. -/
def framePartsCard : Claim7 := { stood := { row := framePartsRow, standIns := [], harness := (true, "fe1925d5c2e941f98fbbf6abb02b6615a8e7b81bf797a43b9ccf39e64f95fc42"), looks := false }, kinds := [], alts := [], laidByText := true, laidKinds := [.data], laidTests := true, laidLooks := .later }
def FramePartsCardSaid : Prop := Claim7.holds Tryd.pinned (.plain (OpenSpec.ofChange framePartsSpec)) framePartsCard

/-- THE TIED CARD OF 'skaldlaw04.FrameJoins'. -/
def frameJoinsCard : Claim7 := { stood := { row := frameJoinsRow, standIns := [], harness := (true, "fe1925d5c2e941f98fbbf6abb02b6615a8e7b81bf797a43b9ccf39e64f95fc42"), looks := false }, kinds := [], alts := [], laidByText := true, laidKinds := [.data], laidTests := true, laidLooks := .later }
def FrameJoinsCardSaid : Prop := Claim7.holds Tryd.pinned (.plain (OpenSpec.ofChange frameJoinsSpec)) frameJoinsCard

/-- THE TIED CARD OF 'skaldlaw04.FrameMakes'. -/
def frameMakesCard : Claim7 := { stood := { row := frameMakesRow, standIns := [], harness := (true, "fe1925d5c2e941f98fbbf6abb02b6615a8e7b81bf797a43b9ccf39e64f95fc42"), looks := false }, kinds := [], alts := [], laidByText := true, laidKinds := [.data], laidTests := true, laidLooks := .later }
def FrameMakesCardSaid : Prop := Claim7.holds Tryd.pinned (.plain (OpenSpec.ofChange frameMakesSpec)) frameMakesCard

/-- THE TIED CARD OF 'skaldlaw04.FrameReads'. -/
def frameReadsCard : Claim7 := { stood := { row := frameReadsRow, standIns := [], harness := (true, "fe1925d5c2e941f98fbbf6abb02b6615a8e7b81bf797a43b9ccf39e64f95fc42"), looks := false }, kinds := [], alts := [], laidByText := true, laidKinds := [.data], laidTests := true, laidLooks := .later }
def FrameReadsCardSaid : Prop := Claim7.holds Tryd.pinned (.plain (OpenSpec.ofChange frameReadsSpec)) frameReadsCard

/-- THE TIED CARD OF 'skaldlaw04.FrameChanged'. -/
def frameChangedCard : Claim7 := { stood := { row := frameChangedRow, standIns := [], harness := (true, "fe1925d5c2e941f98fbbf6abb02b6615a8e7b81bf797a43b9ccf39e64f95fc42"), looks := false }, kinds := [], alts := [], laidByText := true, laidKinds := [.data], laidTests := true, laidLooks := .later }
def FrameChangedCardSaid : Prop := Claim7.holds Tryd.pinned (.plain (OpenSpec.ofChange frameChangedSpec)) frameChangedCard

/-- THE TIED CARD OF 'skaldlaw04.FrameTorn'. -/
def frameTornCard : Claim7 := { stood := { row := frameTornRow, standIns := [], harness := (true, "fe1925d5c2e941f98fbbf6abb02b6615a8e7b81bf797a43b9ccf39e64f95fc42"), looks := false }, kinds := [], alts := [], laidByText := true, laidKinds := [.data], laidTests := true, laidLooks := .later }
def FrameTornCardSaid : Prop := Claim7.holds Tryd.pinned (.plain (OpenSpec.ofChange frameTornSpec)) frameTornCard

/-- THE TIED CARD OF 'skaldlaw04.FrameKnown'. -/
def frameKnownCard : Claim7 := { stood := { row := frameKnownRow, standIns := [], harness := (true, "fe1925d5c2e941f98fbbf6abb02b6615a8e7b81bf797a43b9ccf39e64f95fc42"), looks := false }, kinds := [], alts := [], laidByText := true, laidKinds := [.data], laidTests := true, laidLooks := .later }
def FrameKnownCardSaid : Prop := Claim7.holds Tryd.pinned (.plain (OpenSpec.ofChange frameKnownSpec)) frameKnownCard

/-- THE TIED CARD OF 'skaldlaw16.DiskReads'. -/
def diskReadsCard : Claim7 := { stood := { row := diskReadsRow, standIns := [], harness := (true, "fe1925d5c2e941f98fbbf6abb02b6615a8e7b81bf797a43b9ccf39e64f95fc42"), looks := false }, kinds := [], alts := [], laidByText := true, laidKinds := [.data], laidTests := true, laidLooks := .later }
def DiskReadsCardSaid : Prop := Claim7.holds Tryd.pinned (.plain (OpenSpec.ofChange diskReadsSpec)) diskReadsCard

/-- THE TIED CARD OF 'skaldlaw16.DiskSaves'. -/
def diskSavesCard : Claim7 := { stood := { row := diskSavesRow, standIns := [], harness := (true, "fe1925d5c2e941f98fbbf6abb02b6615a8e7b81bf797a43b9ccf39e64f95fc42"), looks := false }, kinds := [], alts := [], laidByText := true, laidKinds := [.data], laidTests := true, laidLooks := .later }
def DiskSavesCardSaid : Prop := Claim7.holds Tryd.pinned (.plain (OpenSpec.ofChange diskSavesSpec)) diskSavesCard

/-- THE TIED CARD OF 'skaldlaw16.DiskKnown'. -/
def diskKnownCard : Claim7 := { stood := { row := diskKnownRow, standIns := [], harness := (true, "fe1925d5c2e941f98fbbf6abb02b6615a8e7b81bf797a43b9ccf39e64f95fc42"), looks := false }, kinds := [], alts := [], laidByText := true, laidKinds := [.data], laidTests := true, laidLooks := .later }
def DiskKnownCardSaid : Prop := Claim7.holds Tryd.pinned (.plain (OpenSpec.ofChange diskKnownSpec)) diskKnownCard

/-- THE TIED CARD OF 'skaldlaw16.DiskTorn'. -/
def diskTornCard : Claim7 := { stood := { row := diskTornRow, standIns := [], harness := (true, "fe1925d5c2e941f98fbbf6abb02b6615a8e7b81bf797a43b9ccf39e64f95fc42"), looks := false }, kinds := [], alts := [], laidByText := true, laidKinds := [.data], laidTests := true, laidLooks := .later }
def DiskTornCardSaid : Prop := Claim7.holds Tryd.pinned (.plain (OpenSpec.ofChange diskTornSpec)) diskTornCard

/-- THE TIED CARD OF 'skaldlaw16.DiskPlays'. -/
def diskPlaysCard : Claim7 := { stood := { row := diskPlaysRow, standIns := [], harness := (true, "fe1925d5c2e941f98fbbf6abb02b6615a8e7b81bf797a43b9ccf39e64f95fc42"), looks := false }, kinds := [], alts := [], laidByText := true, laidKinds := [.data], laidTests := true, laidLooks := .later }
def DiskPlaysCardSaid : Prop := Claim7.holds Tryd.pinned (.plain (OpenSpec.ofChange diskPlaysSpec)) diskPlaysCard

/-- THE TIED CARD OF 'skaldlaw16.DiskNil'. -/
def diskNilCard : Claim7 := { stood := { row := diskNilRow, standIns := [], harness := (true, "fe1925d5c2e941f98fbbf6abb02b6615a8e7b81bf797a43b9ccf39e64f95fc42"), looks := false }, kinds := [], alts := [], laidByText := true, laidKinds := [.data], laidTests := true, laidLooks := .later }
def DiskNilCardSaid : Prop := Claim7.holds Tryd.pinned (.plain (OpenSpec.ofChange diskNilSpec)) diskNilCard

/-- THE TIED CARD OF 'skaldlaw16.DiskAgain'. -/
def diskAgainCard : Claim7 := { stood := { row := diskAgainRow, standIns := [], harness := (true, "fe1925d5c2e941f98fbbf6abb02b6615a8e7b81bf797a43b9ccf39e64f95fc42"), looks := false }, kinds := [], alts := [], laidByText := true, laidKinds := [.data], laidTests := true, laidLooks := .later }
def DiskAgainCardSaid : Prop := Claim7.holds Tryd.pinned (.plain (OpenSpec.ofChange diskAgainSpec)) diskAgainCard

/-- THE TIED CARD OF 'skaldlaw16.DiskCopies'. -/
def diskCopiesCard : Claim7 := { stood := { row := diskCopiesRow, standIns := [], harness := (true, "fe1925d5c2e941f98fbbf6abb02b6615a8e7b81bf797a43b9ccf39e64f95fc42"), looks := false }, kinds := [], alts := [], laidByText := true, laidKinds := [.data], laidTests := true, laidLooks := .later }
def DiskCopiesCardSaid : Prop := Claim7.holds Tryd.pinned (.plain (OpenSpec.ofChange diskCopiesSpec)) diskCopiesCard

/-- THE SECOND FORM's CARD OF 'skaldlaw04.FrameAny'. -/
def frameAnyUptoCard : Claim7 := { stood := { row := frameAnyUptoRow, standIns := [], harness := (true, "fe1925d5c2e941f98fbbf6abb02b6615a8e7b81bf797a43b9ccf39e64f95fc42"), looks := false }, kinds := [], alts := [], laidByText := true, laidKinds := [.data], laidTests := true, laidLooks := .later }
def FrameAnyUptoCardSaid : Prop := Claim7.holds Tryd.pinned (.plain (OpenSpec.upto frameAnySpec)) frameAnyUptoCard

/-- THE SECOND FORM's CARD OF 'skaldlaw04.FrameParts'. -/
def framePartsUptoCard : Claim7 := { stood := { row := framePartsUptoRow, standIns := [], harness := (true, "fe1925d5c2e941f98fbbf6abb02b6615a8e7b81bf797a43b9ccf39e64f95fc42"), looks := false }, kinds := [], alts := [], laidByText := true, laidKinds := [.data], laidTests := true, laidLooks := .later }
def FramePartsUptoCardSaid : Prop := Claim7.holds Tryd.pinned (.plain (OpenSpec.upto framePartsSpec)) framePartsUptoCard

/-- THE SECOND FORM's CARD OF 'skaldlaw04.FrameJoins'. -/
def frameJoinsUptoCard : Claim7 := { stood := { row := frameJoinsUptoRow, standIns := [], harness := (true, "fe1925d5c2e941f98fbbf6abb02b6615a8e7b81bf797a43b9ccf39e64f95fc42"), looks := false }, kinds := [], alts := [], laidByText := true, laidKinds := [.data], laidTests := true, laidLooks := .later }
def FrameJoinsUptoCardSaid : Prop := Claim7.holds Tryd.pinned (.plain (OpenSpec.upto frameJoinsSpec)) frameJoinsUptoCard

/-- THE SECOND FORM's CARD OF 'skaldlaw04.FrameMakes'. -/
def frameMakesUptoCard : Claim7 := { stood := { row := frameMakesUptoRow, standIns := [], harness := (true, "fe1925d5c2e941f98fbbf6abb02b6615a8e7b81bf797a43b9ccf39e64f95fc42"), looks := false }, kinds := [], alts := [], laidByText := true, laidKinds := [.data], laidTests := true, laidLooks := .later }
def FrameMakesUptoCardSaid : Prop := Claim7.holds Tryd.pinned (.plain (OpenSpec.upto frameMakesSpec)) frameMakesUptoCard

/-- THE SECOND FORM's CARD OF 'skaldlaw04.FrameReads'. -/
def frameReadsUptoCard : Claim7 := { stood := { row := frameReadsUptoRow, standIns := [], harness := (true, "fe1925d5c2e941f98fbbf6abb02b6615a8e7b81bf797a43b9ccf39e64f95fc42"), looks := false }, kinds := [], alts := [], laidByText := true, laidKinds := [.data], laidTests := true, laidLooks := .later }
def FrameReadsUptoCardSaid : Prop := Claim7.holds Tryd.pinned (.plain (OpenSpec.upto frameReadsSpec)) frameReadsUptoCard

/-- THE SECOND FORM's CARD OF 'skaldlaw04.FrameChanged'. -/
def frameChangedUptoCard : Claim7 := { stood := { row := frameChangedUptoRow, standIns := [], harness := (true, "fe1925d5c2e941f98fbbf6abb02b6615a8e7b81bf797a43b9ccf39e64f95fc42"), looks := false }, kinds := [], alts := [], laidByText := true, laidKinds := [.data], laidTests := true, laidLooks := .later }
def FrameChangedUptoCardSaid : Prop := Claim7.holds Tryd.pinned (.plain (OpenSpec.upto frameChangedSpec)) frameChangedUptoCard

/-- THE SECOND FORM's CARD OF 'skaldlaw04.FrameTorn'. -/
def frameTornUptoCard : Claim7 := { stood := { row := frameTornUptoRow, standIns := [], harness := (true, "fe1925d5c2e941f98fbbf6abb02b6615a8e7b81bf797a43b9ccf39e64f95fc42"), looks := false }, kinds := [], alts := [], laidByText := true, laidKinds := [.data], laidTests := true, laidLooks := .later }
def FrameTornUptoCardSaid : Prop := Claim7.holds Tryd.pinned (.plain (OpenSpec.upto frameTornSpec)) frameTornUptoCard

/-- THE SECOND FORM's CARD OF 'skaldlaw04.FrameKnown'. -/
def frameKnownUptoCard : Claim7 := { stood := { row := frameKnownUptoRow, standIns := [], harness := (true, "fe1925d5c2e941f98fbbf6abb02b6615a8e7b81bf797a43b9ccf39e64f95fc42"), looks := false }, kinds := [], alts := [], laidByText := true, laidKinds := [.data], laidTests := true, laidLooks := .later }
def FrameKnownUptoCardSaid : Prop := Claim7.holds Tryd.pinned (.plain (OpenSpec.upto frameKnownSpec)) frameKnownUptoCard

/-- THE SECOND FORM's CARD OF 'skaldlaw16.DiskReads'. -/
def diskReadsUptoCard : Claim7 := { stood := { row := diskReadsUptoRow, standIns := [], harness := (true, "fe1925d5c2e941f98fbbf6abb02b6615a8e7b81bf797a43b9ccf39e64f95fc42"), looks := false }, kinds := [], alts := [], laidByText := true, laidKinds := [.data], laidTests := true, laidLooks := .later }
def DiskReadsUptoCardSaid : Prop := Claim7.holds Tryd.pinned (.plain (OpenSpec.upto diskReadsSpec)) diskReadsUptoCard

/-- THE SECOND FORM's CARD OF 'skaldlaw16.DiskSaves'. -/
def diskSavesUptoCard : Claim7 := { stood := { row := diskSavesUptoRow, standIns := [], harness := (true, "fe1925d5c2e941f98fbbf6abb02b6615a8e7b81bf797a43b9ccf39e64f95fc42"), looks := false }, kinds := [], alts := [], laidByText := true, laidKinds := [.data], laidTests := true, laidLooks := .later }
def DiskSavesUptoCardSaid : Prop := Claim7.holds Tryd.pinned (.plain (OpenSpec.upto diskSavesSpec)) diskSavesUptoCard

/-- THE SECOND FORM's CARD OF 'skaldlaw16.DiskKnown'. -/
def diskKnownUptoCard : Claim7 := { stood := { row := diskKnownUptoRow, standIns := [], harness := (true, "fe1925d5c2e941f98fbbf6abb02b6615a8e7b81bf797a43b9ccf39e64f95fc42"), looks := false }, kinds := [], alts := [], laidByText := true, laidKinds := [.data], laidTests := true, laidLooks := .later }
def DiskKnownUptoCardSaid : Prop := Claim7.holds Tryd.pinned (.plain (OpenSpec.upto diskKnownSpec)) diskKnownUptoCard

/-- THE SECOND FORM's CARD OF 'skaldlaw16.DiskTorn'. -/
def diskTornUptoCard : Claim7 := { stood := { row := diskTornUptoRow, standIns := [], harness := (true, "fe1925d5c2e941f98fbbf6abb02b6615a8e7b81bf797a43b9ccf39e64f95fc42"), looks := false }, kinds := [], alts := [], laidByText := true, laidKinds := [.data], laidTests := true, laidLooks := .later }
def DiskTornUptoCardSaid : Prop := Claim7.holds Tryd.pinned (.plain (OpenSpec.upto diskTornSpec)) diskTornUptoCard

/-- THE SECOND FORM's CARD OF 'skaldlaw16.DiskPlays'. -/
def diskPlaysUptoCard : Claim7 := { stood := { row := diskPlaysUptoRow, standIns := [], harness := (true, "fe1925d5c2e941f98fbbf6abb02b6615a8e7b81bf797a43b9ccf39e64f95fc42"), looks := false }, kinds := [], alts := [], laidByText := true, laidKinds := [.data], laidTests := true, laidLooks := .later }
def DiskPlaysUptoCardSaid : Prop := Claim7.holds Tryd.pinned (.plain (OpenSpec.upto diskPlaysSpec)) diskPlaysUptoCard

/-- THE SECOND FORM's CARD OF 'skaldlaw16.DiskNil'. -/
def diskNilUptoCard : Claim7 := { stood := { row := diskNilUptoRow, standIns := [], harness := (true, "fe1925d5c2e941f98fbbf6abb02b6615a8e7b81bf797a43b9ccf39e64f95fc42"), looks := false }, kinds := [], alts := [], laidByText := true, laidKinds := [.data], laidTests := true, laidLooks := .later }
def DiskNilUptoCardSaid : Prop := Claim7.holds Tryd.pinned (.plain (OpenSpec.upto diskNilSpec)) diskNilUptoCard

/-- THE SECOND FORM's CARD OF 'skaldlaw16.DiskAgain'. -/
def diskAgainUptoCard : Claim7 := { stood := { row := diskAgainUptoRow, standIns := [], harness := (true, "fe1925d5c2e941f98fbbf6abb02b6615a8e7b81bf797a43b9ccf39e64f95fc42"), looks := false }, kinds := [], alts := [], laidByText := true, laidKinds := [.data], laidTests := true, laidLooks := .later }
def DiskAgainUptoCardSaid : Prop := Claim7.holds Tryd.pinned (.plain (OpenSpec.upto diskAgainSpec)) diskAgainUptoCard

/-- THE SECOND FORM's CARD OF 'skaldlaw16.DiskCopies'. -/
def diskCopiesUptoCard : Claim7 := { stood := { row := diskCopiesUptoRow, standIns := [], harness := (true, "fe1925d5c2e941f98fbbf6abb02b6615a8e7b81bf797a43b9ccf39e64f95fc42"), looks := false }, kinds := [], alts := [], laidByText := true, laidKinds := [.data], laidTests := true, laidLooks := .later }
def DiskCopiesUptoCardSaid : Prop := Claim7.holds Tryd.pinned (.plain (OpenSpec.upto diskCopiesSpec)) diskCopiesUptoCard
end Rows
end Go.Proofs.YtconcmjmdhdgjaaDoor
