/-
  DERIVED. GIVEN WITH THE SEED: THE CARDS: each row of YtiihokgjplpceaaDoorRows.lean that lists a variable, with what it lists TIED to the program's text (the seventh form; the later family's looks); each row that meets fmt, with fmt's text TOLD by the authors' own Lean function (tested against real Go, not proved from fmt's source: count such statements apart). THE CARD IS WHAT COUNTS. Prove the row's statement (the work); the ties are given (YtiihokgjplpceaaDoorTie.lean); close each card by the builder's one call (the guide's Derived/Test/ToyasCard.lean, 'card_holds'). Laid BY PROGRAM, IN A SANDBOX (cutbox-door.mjs). By AI agents, Wed Nov 11 2026. No macro, syntax, notation, axiom, sorry.
-/
import Derived.Test.YtiihokgjplpceaaDoorRows
import GoSem.ClaimSeven
namespace Go.Proofs.YtiihokgjplpceaaDoor
namespace Rows

/-- THE TIED CARD OF 'trivetlaw04.OrientSigns'. -/
def orientSignsCard : Claim7 := { stood := { row := orientSignsRow, standIns := [], harness := (true, "fc9b159eda52f43a8226e4e029047328ab7497f09c8022080de31561990b79e0"), looks := false }, kinds := [], alts := [], laidByText := true, laidKinds := [.data], laidTests := true, laidLooks := .later }
def OrientSignsCardSaid : Prop := Claim7.holds Tryd.pinned (.plain (OpenSpec.ofChange orientSignsSpec)) orientSignsCard

/-- THE TIED CARD OF 'trivetlaw04.OrientKnows'. -/
def orientKnowsCard : Claim7 := { stood := { row := orientKnowsRow, standIns := [], harness := (true, "fc9b159eda52f43a8226e4e029047328ab7497f09c8022080de31561990b79e0"), looks := false }, kinds := [], alts := [], laidByText := true, laidKinds := [.data], laidTests := true, laidLooks := .later }
def OrientKnowsCardSaid : Prop := Claim7.holds Tryd.pinned (.plain (OpenSpec.ofChange orientKnowsSpec)) orientKnowsCard

/-- THE TIED CARD OF 'trivetlaw04.OrientMeets'. -/
def orientMeetsCard : Claim7 := { stood := { row := orientMeetsRow, standIns := [], harness := (true, "fc9b159eda52f43a8226e4e029047328ab7497f09c8022080de31561990b79e0"), looks := false }, kinds := [], alts := [], laidByText := true, laidKinds := [.data], laidTests := true, laidLooks := .later }
def OrientMeetsCardSaid : Prop := Claim7.holds Tryd.pinned (.plain (OpenSpec.ofChange orientMeetsSpec)) orientMeetsCard

/-- THE TIED CARD OF 'trivetlaw04.OrientTurns'. -/
def orientTurnsCard : Claim7 := { stood := { row := orientTurnsRow, standIns := [], harness := (true, "fc9b159eda52f43a8226e4e029047328ab7497f09c8022080de31561990b79e0"), looks := false }, kinds := [], alts := [], laidByText := true, laidKinds := [.data], laidTests := true, laidLooks := .later }
def OrientTurnsCardSaid : Prop := Claim7.holds Tryd.pinned (.plain (OpenSpec.ofChange orientTurnsSpec)) orientTurnsCard

/-- THE TIED CARD OF 'trivetlaw04.OrientAround'. -/
def orientAroundCard : Claim7 := { stood := { row := orientAroundRow, standIns := [], harness := (true, "fc9b159eda52f43a8226e4e029047328ab7497f09c8022080de31561990b79e0"), looks := false }, kinds := [], alts := [], laidByText := true, laidKinds := [.data], laidTests := true, laidLooks := .later }
def OrientAroundCardSaid : Prop := Claim7.holds Tryd.pinned (.plain (OpenSpec.ofChange orientAroundSpec)) orientAroundCard

/-- THE TIED CARD OF 'trivetlaw04.OrientMoved'. -/
def orientMovedCard : Claim7 := { stood := { row := orientMovedRow, standIns := [], harness := (true, "fc9b159eda52f43a8226e4e029047328ab7497f09c8022080de31561990b79e0"), looks := false }, kinds := [], alts := [], laidByText := true, laidKinds := [.data], laidTests := true, laidLooks := .later }
def OrientMovedCardSaid : Prop := Claim7.holds Tryd.pinned (.plain (OpenSpec.ofChange orientMovedSpec)) orientMovedCard

/-- THE SECOND FORM's CARD OF 'trivetlaw04.OrientSigns'. -/
def orientSignsUptoCard : Claim7 := { stood := { row := orientSignsUptoRow, standIns := [], harness := (true, "fc9b159eda52f43a8226e4e029047328ab7497f09c8022080de31561990b79e0"), looks := false }, kinds := [], alts := [], laidByText := true, laidKinds := [.data], laidTests := true, laidLooks := .later }
def OrientSignsUptoCardSaid : Prop := Claim7.holds Tryd.pinned (.plain (OpenSpec.upto orientSignsSpec)) orientSignsUptoCard

/-- THE SECOND FORM's CARD OF 'trivetlaw04.OrientKnows'. -/
def orientKnowsUptoCard : Claim7 := { stood := { row := orientKnowsUptoRow, standIns := [], harness := (true, "fc9b159eda52f43a8226e4e029047328ab7497f09c8022080de31561990b79e0"), looks := false }, kinds := [], alts := [], laidByText := true, laidKinds := [.data], laidTests := true, laidLooks := .later }
def OrientKnowsUptoCardSaid : Prop := Claim7.holds Tryd.pinned (.plain (OpenSpec.upto orientKnowsSpec)) orientKnowsUptoCard

/-- THE SECOND FORM's CARD OF 'trivetlaw04.OrientMeets'. -/
def orientMeetsUptoCard : Claim7 := { stood := { row := orientMeetsUptoRow, standIns := [], harness := (true, "fc9b159eda52f43a8226e4e029047328ab7497f09c8022080de31561990b79e0"), looks := false }, kinds := [], alts := [], laidByText := true, laidKinds := [.data], laidTests := true, laidLooks := .later }
def OrientMeetsUptoCardSaid : Prop := Claim7.holds Tryd.pinned (.plain (OpenSpec.upto orientMeetsSpec)) orientMeetsUptoCard

/-- THE SECOND FORM's CARD OF 'trivetlaw04.OrientTurns'. -/
def orientTurnsUptoCard : Claim7 := { stood := { row := orientTurnsUptoRow, standIns := [], harness := (true, "fc9b159eda52f43a8226e4e029047328ab7497f09c8022080de31561990b79e0"), looks := false }, kinds := [], alts := [], laidByText := true, laidKinds := [.data], laidTests := true, laidLooks := .later }
def OrientTurnsUptoCardSaid : Prop := Claim7.holds Tryd.pinned (.plain (OpenSpec.upto orientTurnsSpec)) orientTurnsUptoCard

/-- THE SECOND FORM's CARD OF 'trivetlaw04.OrientAround'. -/
def orientAroundUptoCard : Claim7 := { stood := { row := orientAroundUptoRow, standIns := [], harness := (true, "fc9b159eda52f43a8226e4e029047328ab7497f09c8022080de31561990b79e0"), looks := false }, kinds := [], alts := [], laidByText := true, laidKinds := [.data], laidTests := true, laidLooks := .later }
def OrientAroundUptoCardSaid : Prop := Claim7.holds Tryd.pinned (.plain (OpenSpec.upto orientAroundSpec)) orientAroundUptoCard

/-- THE SECOND FORM's CARD OF 'trivetlaw04.OrientMoved'. -/
def orientMovedUptoCard : Claim7 := { stood := { row := orientMovedUptoRow, standIns := [], harness := (true, "fc9b159eda52f43a8226e4e029047328ab7497f09c8022080de31561990b79e0"), looks := false }, kinds := [], alts := [], laidByText := true, laidKinds := [.data], laidTests := true, laidLooks := .later }
def OrientMovedUptoCardSaid : Prop := Claim7.holds Tryd.pinned (.plain (OpenSpec.upto orientMovedSpec)) orientMovedUptoCard
end Rows
end Go.Proofs.YtiihokgjplpceaaDoor
