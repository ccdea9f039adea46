/-
  DERIVED. GIVEN WITH THE SEED: THE CARDS: each row of YtedapkgjicmhjaaGreatDoorRows.lean that lists a variable, with what it lists TIED to the program's text (the seventh form; the later family's looks); each row that meets fmt, with fmt's text TOLD by the authors' own Lean function (tested against real Go, not proved from fmt's source: count such statements apart). THE CARD IS WHAT COUNTS. Prove the row's statement (the work); the ties are given (YtedapkgjicmhjaaGreatDoorTie.lean); close each card by the builder's one call (the guide's Derived/Test/ToyasCard.lean, 'card_holds'). Laid BY PROGRAM, IN A SANDBOX (cutbox-door.mjs). By AI agents, Wed Nov 11 2026. No macro, syntax, notation, axiom, sorry.
-/
import Derived.Test.YtedapkgjicmhjaaGreatDoorRows
import GoSem.ClaimSeven
namespace Go.Proofs.YtedapkgjicmhjaaGreatDoor
namespace Rows

/-- THE TIED CARD OF 'codesearchlaw44.AccessRights'. -/
def accessRightsCard : Claim7 := { stood := { row := accessRightsRow, standIns := [], harness := (true, "31447f2df85a0ecc39501d5101b9f91fe26be6e4a82fec31bc5c7647262a04c7"), looks := false }, kinds := [], alts := [], laidByText := true, laidKinds := [.data, .pinned], laidTests := true, laidLooks := .later }
def AccessRightsCardSaid : Prop := Claim7.holds Tryz.pinned (.plain (OpenSpec.ofChange accessRightsSpec)) accessRightsCard

/-- THE TIED CARD OF 'codesearchlaw44.AccessLists'. -/
def accessListsCard : Claim7 := { stood := { row := accessListsRow, standIns := [], harness := (true, "31447f2df85a0ecc39501d5101b9f91fe26be6e4a82fec31bc5c7647262a04c7"), looks := false }, kinds := [], alts := [], laidByText := true, laidKinds := [.data, .pinned], laidTests := true, laidLooks := .later }
def AccessListsCardSaid : Prop := Claim7.holds Tryz.pinned (.plain (OpenSpec.ofChange accessListsSpec)) accessListsCard

/-- THE SECOND FORM's CARD OF 'codesearchlaw44.AccessRights'. -/
def accessRightsUptoCard : Claim7 := { stood := { row := accessRightsUptoRow, standIns := [], harness := (true, "31447f2df85a0ecc39501d5101b9f91fe26be6e4a82fec31bc5c7647262a04c7"), looks := false }, kinds := [], alts := [], laidByText := true, laidKinds := [.data, .pinned], laidTests := true, laidLooks := .later }
def AccessRightsUptoCardSaid : Prop := Claim7.holds Tryz.pinned (.plain (OpenSpec.upto accessRightsSpec)) accessRightsUptoCard

/-- THE SECOND FORM's CARD OF 'codesearchlaw44.AccessLists'. -/
def accessListsUptoCard : Claim7 := { stood := { row := accessListsUptoRow, standIns := [], harness := (true, "31447f2df85a0ecc39501d5101b9f91fe26be6e4a82fec31bc5c7647262a04c7"), looks := false }, kinds := [], alts := [], laidByText := true, laidKinds := [.data, .pinned], laidTests := true, laidLooks := .later }
def AccessListsUptoCardSaid : Prop := Claim7.holds Tryz.pinned (.plain (OpenSpec.upto accessListsSpec)) accessListsUptoCard
end Rows
end Go.Proofs.YtedapkgjicmhjaaGreatDoor
