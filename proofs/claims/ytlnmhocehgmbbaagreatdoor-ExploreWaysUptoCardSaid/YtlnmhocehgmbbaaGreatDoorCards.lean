/-
  DERIVED. GIVEN WITH THE SEED: THE CARDS: each row of YtlnmhocehgmbbaaGreatDoorRows.lean that lists a variable, with what it lists TIED to the program's text (the seventh form; the later family's looks); each row that meets fmt, with fmt's text TOLD by the authors' own Lean function (tested against real Go, not proved from fmt's source: count such statements apart). THE CARD IS WHAT COUNTS. Prove the row's statement (the work); the ties are given (YtlnmhocehgmbbaaGreatDoorTie.lean); close each card by the builder's one call (the guide's Derived/Test/ToyasCard.lean, 'card_holds'). Laid BY PROGRAM, IN A SANDBOX (cutbox-door.mjs). By AI agents, Wed Nov 11 2026. No macro, syntax, notation, axiom, sorry.
-/
import Derived.Test.YtlnmhocehgmbbaaGreatDoorRows
import GoSem.ClaimSeven
namespace Go.Proofs.YtlnmhocehgmbbaaGreatDoor
namespace Rows

/-- THE TIED CARD OF 'escrowlaw28.ExploreAll'. -/
def exploreAllCard : Claim7 := { stood := { row := exploreAllRow, standIns := [], harness := (true, "524c285e7fbed8e47e2c3272f79fcce260e5a6713f2aaff2051607496cbbc098"), looks := false }, kinds := [], alts := [], laidByText := true, laidKinds := [.data, .data, .data], laidTests := true, laidLooks := .later }
def ExploreAllCardSaid : Prop := Claim7.holds Tryz.pinned (.plain (OpenSpec.ofChange exploreAllSpec)) exploreAllCard

/-- THE TIED CARD OF 'escrowlaw28.ExploreWays'. -/
def exploreWaysCard : Claim7 := { stood := { row := exploreWaysRow, standIns := [], harness := (true, "524c285e7fbed8e47e2c3272f79fcce260e5a6713f2aaff2051607496cbbc098"), looks := false }, kinds := [], alts := [], laidByText := true, laidKinds := [.data, .data, .data], laidTests := true, laidLooks := .later }
def ExploreWaysCardSaid : Prop := Claim7.holds Tryz.pinned (.plain (OpenSpec.ofChange exploreWaysSpec)) exploreWaysCard

/-- THE TIED CARD OF 'escrowlaw28.ExploreShort'. -/
def exploreShortCard : Claim7 := { stood := { row := exploreShortRow, standIns := [], harness := (true, "524c285e7fbed8e47e2c3272f79fcce260e5a6713f2aaff2051607496cbbc098"), looks := false }, kinds := [], alts := [], laidByText := true, laidKinds := [.data, .data, .data], laidTests := true, laidLooks := .later }
def ExploreShortCardSaid : Prop := Claim7.holds Tryz.pinned (.plain (OpenSpec.ofChange exploreShortSpec)) exploreShortCard

/-- THE TIED CARD OF 'escrowlaw28.ExploreClosed'. -/
def exploreClosedCard : Claim7 := { stood := { row := exploreClosedRow, standIns := [], harness := (true, "524c285e7fbed8e47e2c3272f79fcce260e5a6713f2aaff2051607496cbbc098"), looks := false }, kinds := [], alts := [], laidByText := true, laidKinds := [.data, .data, .data], laidTests := true, laidLooks := .later }
def ExploreClosedCardSaid : Prop := Claim7.holds Tryz.pinned (.plain (OpenSpec.ofChange exploreClosedSpec)) exploreClosedCard

/-- THE TIED CARD OF 'escrowlaw28.ExploreSafe'. -/
def exploreSafeCard : Claim7 := { stood := { row := exploreSafeRow, standIns := [], harness := (true, "524c285e7fbed8e47e2c3272f79fcce260e5a6713f2aaff2051607496cbbc098"), looks := false }, kinds := [], alts := [], laidByText := true, laidKinds := [.data, .data, .data], laidTests := true, laidLooks := .later }
def ExploreSafeCardSaid : Prop := Claim7.holds Tryz.pinned (.plain (OpenSpec.ofChange exploreSafeSpec)) exploreSafeCard

/-- THE SECOND FORM's CARD OF 'escrowlaw28.ExploreAll'. -/
def exploreAllUptoCard : Claim7 := { stood := { row := exploreAllUptoRow, standIns := [], harness := (true, "524c285e7fbed8e47e2c3272f79fcce260e5a6713f2aaff2051607496cbbc098"), looks := false }, kinds := [], alts := [], laidByText := true, laidKinds := [.data, .data, .data], laidTests := true, laidLooks := .later }
def ExploreAllUptoCardSaid : Prop := Claim7.holds Tryz.pinned (.plain (OpenSpec.upto exploreAllSpec)) exploreAllUptoCard

/-- THE SECOND FORM's CARD OF 'escrowlaw28.ExploreWays'. -/
def exploreWaysUptoCard : Claim7 := { stood := { row := exploreWaysUptoRow, standIns := [], harness := (true, "524c285e7fbed8e47e2c3272f79fcce260e5a6713f2aaff2051607496cbbc098"), looks := false }, kinds := [], alts := [], laidByText := true, laidKinds := [.data, .data, .data], laidTests := true, laidLooks := .later }
def ExploreWaysUptoCardSaid : Prop := Claim7.holds Tryz.pinned (.plain (OpenSpec.upto exploreWaysSpec)) exploreWaysUptoCard

/-- THE SECOND FORM's CARD OF 'escrowlaw28.ExploreShort'. -/
def exploreShortUptoCard : Claim7 := { stood := { row := exploreShortUptoRow, standIns := [], harness := (true, "524c285e7fbed8e47e2c3272f79fcce260e5a6713f2aaff2051607496cbbc098"), looks := false }, kinds := [], alts := [], laidByText := true, laidKinds := [.data, .data, .data], laidTests := true, laidLooks := .later }
def ExploreShortUptoCardSaid : Prop := Claim7.holds Tryz.pinned (.plain (OpenSpec.upto exploreShortSpec)) exploreShortUptoCard

/-- THE SECOND FORM's CARD OF 'escrowlaw28.ExploreClosed'. -/
def exploreClosedUptoCard : Claim7 := { stood := { row := exploreClosedUptoRow, standIns := [], harness := (true, "524c285e7fbed8e47e2c3272f79fcce260e5a6713f2aaff2051607496cbbc098"), looks := false }, kinds := [], alts := [], laidByText := true, laidKinds := [.data, .data, .data], laidTests := true, laidLooks := .later }
def ExploreClosedUptoCardSaid : Prop := Claim7.holds Tryz.pinned (.plain (OpenSpec.upto exploreClosedSpec)) exploreClosedUptoCard

/-- THE SECOND FORM's CARD OF 'escrowlaw28.ExploreSafe'. -/
def exploreSafeUptoCard : Claim7 := { stood := { row := exploreSafeUptoRow, standIns := [], harness := (true, "524c285e7fbed8e47e2c3272f79fcce260e5a6713f2aaff2051607496cbbc098"), looks := false }, kinds := [], alts := [], laidByText := true, laidKinds := [.data, .data, .data], laidTests := true, laidLooks := .later }
def ExploreSafeUptoCardSaid : Prop := Claim7.holds Tryz.pinned (.plain (OpenSpec.upto exploreSafeSpec)) exploreSafeUptoCard
end Rows
end Go.Proofs.YtlnmhocehgmbbaaGreatDoor
