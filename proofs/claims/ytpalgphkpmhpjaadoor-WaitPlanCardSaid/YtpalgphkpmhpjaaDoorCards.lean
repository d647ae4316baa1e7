/-
  DERIVED. GIVEN WITH THE SEED: THE CARDS: each row of YtpalgphkpmhpjaaDoorRows.lean that lists a variable, with what it lists TIED to the program's text (the seventh form; the later family's looks); each row that meets fmt, with fmt's text TOLD by the authors' own Lean function (tested against real Go, not proved from fmt's source: count such statements apart). THE CARD IS WHAT COUNTS. Prove the row's statement (the work); the ties are given (YtpalgphkpmhpjaaDoorTie.lean); close each card by the builder's one call (the guide's Derived/Test/ToyasCard.lean, 'card_holds'). Laid BY PROGRAM, IN A SANDBOX (cutbox-door.mjs). By AI agents, Wed Nov 11 2026. No macro, syntax, notation, axiom, sorry.
-/
import Derived.Test.YtpalgphkpmhpjaaDoorRows
import GoSem.ClaimSeven
namespace Go.Proofs.YtpalgphkpmhpjaaDoor
namespace Rows

/-- THE TIED CARD OF 'garlandlaw09.WaitTells'. -/
def waitTellsCard : Claim7 := { stood := { row := waitTellsRow, standIns := [], harness := (true, "268e9b0fe2638a1e73d2c7ff1b880100c5fe74eecd428a95b1c900aeaabd76c9"), looks := false }, kinds := [], alts := [], laidByText := true, laidKinds := [.data], laidTests := true, laidLooks := .later }
def WaitTellsCardSaid : Prop := Claim7.holds Tryd.pinned (.plain (OpenSpec.ofChange waitTellsSpec)) waitTellsCard

/-- THE TIED CARD OF 'garlandlaw09.WaitPlan'. -/
def waitPlanCard : Claim7 := { stood := { row := waitPlanRow, standIns := [], harness := (true, "268e9b0fe2638a1e73d2c7ff1b880100c5fe74eecd428a95b1c900aeaabd76c9"), looks := false }, kinds := [], alts := [], laidByText := true, laidKinds := [.data], laidTests := true, laidLooks := .later }
def WaitPlanCardSaid : Prop := Claim7.holds Tryd.pinned (.plain (OpenSpec.ofChange waitPlanSpec)) waitPlanCard

/-- THE TIED CARD OF 'garlandlaw09.WaitLeft'. -/
def waitLeftCard : Claim7 := { stood := { row := waitLeftRow, standIns := [], harness := (true, "268e9b0fe2638a1e73d2c7ff1b880100c5fe74eecd428a95b1c900aeaabd76c9"), looks := false }, kinds := [], alts := [], laidByText := true, laidKinds := [.data], laidTests := true, laidLooks := .later }
def WaitLeftCardSaid : Prop := Claim7.holds Tryd.pinned (.plain (OpenSpec.ofChange waitLeftSpec)) waitLeftCard

/-- THE TIED CARD OF 'garlandlaw09.WaitMoved'. -/
def waitMovedCard : Claim7 := { stood := { row := waitMovedRow, standIns := [], harness := (true, "268e9b0fe2638a1e73d2c7ff1b880100c5fe74eecd428a95b1c900aeaabd76c9"), looks := false }, kinds := [], alts := [], laidByText := true, laidKinds := [.data], laidTests := true, laidLooks := .later }
def WaitMovedCardSaid : Prop := Claim7.holds Tryd.pinned (.plain (OpenSpec.ofChange waitMovedSpec)) waitMovedCard

/-- THE TIED CARD OF 'garlandlaw09.WaitTries'. -/
def waitTriesCard : Claim7 := { stood := { row := waitTriesRow, standIns := [], harness := (true, "268e9b0fe2638a1e73d2c7ff1b880100c5fe74eecd428a95b1c900aeaabd76c9"), looks := false }, kinds := [], alts := [], laidByText := true, laidKinds := [.data], laidTests := true, laidLooks := .later }
def WaitTriesCardSaid : Prop := Claim7.holds Tryd.pinned (.plain (OpenSpec.ofChange waitTriesSpec)) waitTriesCard

/-- THE SECOND FORM's CARD OF 'garlandlaw09.WaitTells'. -/
def waitTellsUptoCard : Claim7 := { stood := { row := waitTellsUptoRow, standIns := [], harness := (true, "268e9b0fe2638a1e73d2c7ff1b880100c5fe74eecd428a95b1c900aeaabd76c9"), looks := false }, kinds := [], alts := [], laidByText := true, laidKinds := [.data], laidTests := true, laidLooks := .later }
def WaitTellsUptoCardSaid : Prop := Claim7.holds Tryd.pinned (.plain (OpenSpec.upto waitTellsSpec)) waitTellsUptoCard

/-- THE SECOND FORM's CARD OF 'garlandlaw09.WaitPlan'. -/
def waitPlanUptoCard : Claim7 := { stood := { row := waitPlanUptoRow, standIns := [], harness := (true, "268e9b0fe2638a1e73d2c7ff1b880100c5fe74eecd428a95b1c900aeaabd76c9"), looks := false }, kinds := [], alts := [], laidByText := true, laidKinds := [.data], laidTests := true, laidLooks := .later }
def WaitPlanUptoCardSaid : Prop := Claim7.holds Tryd.pinned (.plain (OpenSpec.upto waitPlanSpec)) waitPlanUptoCard

/-- THE SECOND FORM's CARD OF 'garlandlaw09.WaitLeft'. -/
def waitLeftUptoCard : Claim7 := { stood := { row := waitLeftUptoRow, standIns := [], harness := (true, "268e9b0fe2638a1e73d2c7ff1b880100c5fe74eecd428a95b1c900aeaabd76c9"), looks := false }, kinds := [], alts := [], laidByText := true, laidKinds := [.data], laidTests := true, laidLooks := .later }
def WaitLeftUptoCardSaid : Prop := Claim7.holds Tryd.pinned (.plain (OpenSpec.upto waitLeftSpec)) waitLeftUptoCard

/-- THE SECOND FORM's CARD OF 'garlandlaw09.WaitMoved'. -/
def waitMovedUptoCard : Claim7 := { stood := { row := waitMovedUptoRow, standIns := [], harness := (true, "268e9b0fe2638a1e73d2c7ff1b880100c5fe74eecd428a95b1c900aeaabd76c9"), looks := false }, kinds := [], alts := [], laidByText := true, laidKinds := [.data], laidTests := true, laidLooks := .later }
def WaitMovedUptoCardSaid : Prop := Claim7.holds Tryd.pinned (.plain (OpenSpec.upto waitMovedSpec)) waitMovedUptoCard

/-- THE SECOND FORM's CARD OF 'garlandlaw09.WaitTries'. -/
def waitTriesUptoCard : Claim7 := { stood := { row := waitTriesUptoRow, standIns := [], harness := (true, "268e9b0fe2638a1e73d2c7ff1b880100c5fe74eecd428a95b1c900aeaabd76c9"), looks := false }, kinds := [], alts := [], laidByText := true, laidKinds := [.data], laidTests := true, laidLooks := .later }
def WaitTriesUptoCardSaid : Prop := Claim7.holds Tryd.pinned (.plain (OpenSpec.upto waitTriesSpec)) waitTriesUptoCard
end Rows
end Go.Proofs.YtpalgphkpmhpjaaDoor
