/-
  DERIVED. GIVEN WITH THE SEED: THE CARDS: each row of YtfbkhendpbhfcaaDoorRows.lean that lists a variable, with what it lists TIED to the program's text (the seventh form; the later family's looks); each row that meets fmt, with fmt's text TOLD by the authors' own Lean function (tested against real Go, not proved from fmt's source: count such statements apart). THE CARD IS WHAT COUNTS. Prove the row's statement (the work); the ties are given (YtfbkhendpbhfcaaDoorTie.lean); close each card by the builder's one call (the guide's Derived/Test/ToyasCard.lean, 'card_holds'). Laid BY PROGRAM, IN A SANDBOX (cutbox-door.mjs). By AI agents, Wed Nov 11 2026. No macro, syntax, notation, axiom, sorry.
-/
import Derived.Test.YtfbkhendpbhfcaaDoorRows
import GoSem.ClaimSeven
namespace Go.Proofs.YtfbkhendpbhfcaaDoor
namespace Rows

/-- THE TIED CARD OF 'garlandlaw03.ArcTells'. -/
def arcTellsCard : Claim7 := { stood := { row := arcTellsRow, standIns := [], harness := (true, "30659ef096faa751dd83432fb11e0505c790724fe51268d72edf2a712a457089"), looks := false }, kinds := [], alts := [], laidByText := true, laidKinds := [.data], laidTests := true, laidLooks := .later }
def ArcTellsCardSaid : Prop := Claim7.holds Tryd.pinned (.plain (OpenSpec.ofChange arcTellsSpec)) arcTellsCard

/-- THE TIED CARD OF 'garlandlaw03.ArcRound'. -/
def arcRoundCard : Claim7 := { stood := { row := arcRoundRow, standIns := [], harness := (true, "30659ef096faa751dd83432fb11e0505c790724fe51268d72edf2a712a457089"), looks := false }, kinds := [], alts := [], laidByText := true, laidKinds := [.data], laidTests := true, laidLooks := .later }
def ArcRoundCardSaid : Prop := Claim7.holds Tryd.pinned (.plain (OpenSpec.ofChange arcRoundSpec)) arcRoundCard

/-- THE TIED CARD OF 'garlandlaw03.ArcOwner'. -/
def arcOwnerCard : Claim7 := { stood := { row := arcOwnerRow, standIns := [], harness := (true, "30659ef096faa751dd83432fb11e0505c790724fe51268d72edf2a712a457089"), looks := false }, kinds := [], alts := [], laidByText := true, laidKinds := [.data], laidTests := true, laidLooks := .later }
def ArcOwnerCardSaid : Prop := Claim7.holds Tryd.pinned (.plain (OpenSpec.ofChange arcOwnerSpec)) arcOwnerCard

/-- THE TIED CARD OF 'garlandlaw03.ArcStarts'. -/
def arcStartsCard : Claim7 := { stood := { row := arcStartsRow, standIns := [], harness := (true, "30659ef096faa751dd83432fb11e0505c790724fe51268d72edf2a712a457089"), looks := false }, kinds := [], alts := [], laidByText := true, laidKinds := [.data], laidTests := true, laidLooks := .later }
def ArcStartsCardSaid : Prop := Claim7.holds Tryd.pinned (.plain (OpenSpec.ofChange arcStartsSpec)) arcStartsCard

/-- THE TIED CARD OF 'garlandlaw03.ArcRises'. -/
def arcRisesCard : Claim7 := { stood := { row := arcRisesRow, standIns := [], harness := (true, "30659ef096faa751dd83432fb11e0505c790724fe51268d72edf2a712a457089"), looks := false }, kinds := [], alts := [], laidByText := true, laidKinds := [.data], laidTests := true, laidLooks := .later }
def ArcRisesCardSaid : Prop := Claim7.holds Tryd.pinned (.plain (OpenSpec.ofChange arcRisesSpec)) arcRisesCard

/-- THE TIED CARD OF 'garlandlaw03.ArcShares'. -/
def arcSharesCard : Claim7 := { stood := { row := arcSharesRow, standIns := [], harness := (true, "30659ef096faa751dd83432fb11e0505c790724fe51268d72edf2a712a457089"), looks := false }, kinds := [], alts := [], laidByText := true, laidKinds := [.data], laidTests := true, laidLooks := .later }
def ArcSharesCardSaid : Prop := Claim7.holds Tryd.pinned (.plain (OpenSpec.ofChange arcSharesSpec)) arcSharesCard

/-- THE SECOND FORM's CARD OF 'garlandlaw03.ArcTells'. -/
def arcTellsUptoCard : Claim7 := { stood := { row := arcTellsUptoRow, standIns := [], harness := (true, "30659ef096faa751dd83432fb11e0505c790724fe51268d72edf2a712a457089"), looks := false }, kinds := [], alts := [], laidByText := true, laidKinds := [.data], laidTests := true, laidLooks := .later }
def ArcTellsUptoCardSaid : Prop := Claim7.holds Tryd.pinned (.plain (OpenSpec.upto arcTellsSpec)) arcTellsUptoCard

/-- THE SECOND FORM's CARD OF 'garlandlaw03.ArcRound'. -/
def arcRoundUptoCard : Claim7 := { stood := { row := arcRoundUptoRow, standIns := [], harness := (true, "30659ef096faa751dd83432fb11e0505c790724fe51268d72edf2a712a457089"), looks := false }, kinds := [], alts := [], laidByText := true, laidKinds := [.data], laidTests := true, laidLooks := .later }
def ArcRoundUptoCardSaid : Prop := Claim7.holds Tryd.pinned (.plain (OpenSpec.upto arcRoundSpec)) arcRoundUptoCard

/-- THE SECOND FORM's CARD OF 'garlandlaw03.ArcOwner'. -/
def arcOwnerUptoCard : Claim7 := { stood := { row := arcOwnerUptoRow, standIns := [], harness := (true, "30659ef096faa751dd83432fb11e0505c790724fe51268d72edf2a712a457089"), looks := false }, kinds := [], alts := [], laidByText := true, laidKinds := [.data], laidTests := true, laidLooks := .later }
def ArcOwnerUptoCardSaid : Prop := Claim7.holds Tryd.pinned (.plain (OpenSpec.upto arcOwnerSpec)) arcOwnerUptoCard

/-- THE SECOND FORM's CARD OF 'garlandlaw03.ArcStarts'. -/
def arcStartsUptoCard : Claim7 := { stood := { row := arcStartsUptoRow, standIns := [], harness := (true, "30659ef096faa751dd83432fb11e0505c790724fe51268d72edf2a712a457089"), looks := false }, kinds := [], alts := [], laidByText := true, laidKinds := [.data], laidTests := true, laidLooks := .later }
def ArcStartsUptoCardSaid : Prop := Claim7.holds Tryd.pinned (.plain (OpenSpec.upto arcStartsSpec)) arcStartsUptoCard

/-- THE SECOND FORM's CARD OF 'garlandlaw03.ArcRises'. -/
def arcRisesUptoCard : Claim7 := { stood := { row := arcRisesUptoRow, standIns := [], harness := (true, "30659ef096faa751dd83432fb11e0505c790724fe51268d72edf2a712a457089"), looks := false }, kinds := [], alts := [], laidByText := true, laidKinds := [.data], laidTests := true, laidLooks := .later }
def ArcRisesUptoCardSaid : Prop := Claim7.holds Tryd.pinned (.plain (OpenSpec.upto arcRisesSpec)) arcRisesUptoCard

/-- THE SECOND FORM's CARD OF 'garlandlaw03.ArcShares'. -/
def arcSharesUptoCard : Claim7 := { stood := { row := arcSharesUptoRow, standIns := [], harness := (true, "30659ef096faa751dd83432fb11e0505c790724fe51268d72edf2a712a457089"), looks := false }, kinds := [], alts := [], laidByText := true, laidKinds := [.data], laidTests := true, laidLooks := .later }
def ArcSharesUptoCardSaid : Prop := Claim7.holds Tryd.pinned (.plain (OpenSpec.upto arcSharesSpec)) arcSharesUptoCard
end Rows
end Go.Proofs.YtfbkhendpbhfcaaDoor
