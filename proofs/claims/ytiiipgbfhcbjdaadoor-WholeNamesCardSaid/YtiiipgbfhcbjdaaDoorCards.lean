/-
  DERIVED. GIVEN WITH THE SEED: THE CARDS: each row of YtiiipgbfhcbjdaaDoorRows.lean that lists a variable, with what it lists TIED to the program's text (the seventh form; the later family's looks); each row that meets fmt, with fmt's text TOLD by the authors' own Lean function (tested against real Go, not proved from fmt's source: count such statements apart). THE CARD IS WHAT COUNTS. Prove the row's statement (the work); the ties are given (YtiiipgbfhcbjdaaDoorTie.lean); close each card by the builder's one call (the guide's Derived/Test/ToyasCard.lean, 'card_holds'). Laid BY PROGRAM, IN A SANDBOX (cutbox-door.mjs). By AI agents, Wed Nov 11 2026. No macro, syntax, notation, axiom, sorry.
-/
import Derived.Test.YtiiipgbfhcbjdaaDoorRows
import GoSem.ClaimSeven
namespace Go.Proofs.YtiiipgbfhcbjdaaDoor
namespace Rows

/-- THE TIED CARD OF 'trivetlaw01.WholeRing'. -/
def wholeRingCard : Claim7 := { stood := { row := wholeRingRow, standIns := [], harness := (true, "87212052c698ef0ad344822130eea82660057c4a998ffc60019905b01b8e0abc"), looks := false }, kinds := [], alts := [], laidByText := true, laidKinds := [.data], laidTests := true, laidLooks := .later }
def WholeRingCardSaid : Prop := Claim7.holds Tryd.pinned (.plain (OpenSpec.ofChange wholeRingSpec)) wholeRingCard

/-- THE TIED CARD OF 'trivetlaw01.WholeOrder'. -/
def wholeOrderCard : Claim7 := { stood := { row := wholeOrderRow, standIns := [], harness := (true, "87212052c698ef0ad344822130eea82660057c4a998ffc60019905b01b8e0abc"), looks := false }, kinds := [], alts := [], laidByText := true, laidKinds := [.data], laidTests := true, laidLooks := .later }
def WholeOrderCardSaid : Prop := Claim7.holds Tryd.pinned (.plain (OpenSpec.ofChange wholeOrderSpec)) wholeOrderCard

/-- THE TIED CARD OF 'trivetlaw01.WholeNames'. -/
def wholeNamesCard : Claim7 := { stood := { row := wholeNamesRow, standIns := [], harness := (true, "87212052c698ef0ad344822130eea82660057c4a998ffc60019905b01b8e0abc"), looks := false }, kinds := [], alts := [], laidByText := true, laidKinds := [.data], laidTests := true, laidLooks := .later }
def WholeNamesCardSaid : Prop := Claim7.holds Tryd.pinned (.plain (OpenSpec.ofChange wholeNamesSpec)) wholeNamesCard

/-- THE TIED CARD OF 'trivetlaw01.WholeFloats'. -/
def wholeFloatsCard : Claim7 := { stood := { row := wholeFloatsRow, standIns := [], harness := (true, "87212052c698ef0ad344822130eea82660057c4a998ffc60019905b01b8e0abc"), looks := false }, kinds := [], alts := [], laidByText := true, laidKinds := [.data], laidTests := true, laidLooks := .later }
def WholeFloatsCardSaid : Prop := Claim7.holds Tryd.pinned (.plain (OpenSpec.ofChange wholeFloatsSpec)) wholeFloatsCard

/-- THE TIED CARD OF 'trivetlaw01.WholeReckons'. -/
def wholeReckonsCard : Claim7 := { stood := { row := wholeReckonsRow, standIns := [], harness := (true, "87212052c698ef0ad344822130eea82660057c4a998ffc60019905b01b8e0abc"), looks := false }, kinds := [], alts := [], laidByText := true, laidKinds := [.data], laidTests := true, laidLooks := .later }
def WholeReckonsCardSaid : Prop := Claim7.holds Tryd.pinned (.plain (OpenSpec.ofChange wholeReckonsSpec)) wholeReckonsCard

/-- THE SECOND FORM's CARD OF 'trivetlaw01.WholeRing'. -/
def wholeRingUptoCard : Claim7 := { stood := { row := wholeRingUptoRow, standIns := [], harness := (true, "87212052c698ef0ad344822130eea82660057c4a998ffc60019905b01b8e0abc"), looks := false }, kinds := [], alts := [], laidByText := true, laidKinds := [.data], laidTests := true, laidLooks := .later }
def WholeRingUptoCardSaid : Prop := Claim7.holds Tryd.pinned (.plain (OpenSpec.upto wholeRingSpec)) wholeRingUptoCard

/-- THE SECOND FORM's CARD OF 'trivetlaw01.WholeOrder'. -/
def wholeOrderUptoCard : Claim7 := { stood := { row := wholeOrderUptoRow, standIns := [], harness := (true, "87212052c698ef0ad344822130eea82660057c4a998ffc60019905b01b8e0abc"), looks := false }, kinds := [], alts := [], laidByText := true, laidKinds := [.data], laidTests := true, laidLooks := .later }
def WholeOrderUptoCardSaid : Prop := Claim7.holds Tryd.pinned (.plain (OpenSpec.upto wholeOrderSpec)) wholeOrderUptoCard

/-- THE SECOND FORM's CARD OF 'trivetlaw01.WholeNames'. -/
def wholeNamesUptoCard : Claim7 := { stood := { row := wholeNamesUptoRow, standIns := [], harness := (true, "87212052c698ef0ad344822130eea82660057c4a998ffc60019905b01b8e0abc"), looks := false }, kinds := [], alts := [], laidByText := true, laidKinds := [.data], laidTests := true, laidLooks := .later }
def WholeNamesUptoCardSaid : Prop := Claim7.holds Tryd.pinned (.plain (OpenSpec.upto wholeNamesSpec)) wholeNamesUptoCard

/-- THE SECOND FORM's CARD OF 'trivetlaw01.WholeFloats'. -/
def wholeFloatsUptoCard : Claim7 := { stood := { row := wholeFloatsUptoRow, standIns := [], harness := (true, "87212052c698ef0ad344822130eea82660057c4a998ffc60019905b01b8e0abc"), looks := false }, kinds := [], alts := [], laidByText := true, laidKinds := [.data], laidTests := true, laidLooks := .later }
def WholeFloatsUptoCardSaid : Prop := Claim7.holds Tryd.pinned (.plain (OpenSpec.upto wholeFloatsSpec)) wholeFloatsUptoCard

/-- THE SECOND FORM's CARD OF 'trivetlaw01.WholeReckons'. -/
def wholeReckonsUptoCard : Claim7 := { stood := { row := wholeReckonsUptoRow, standIns := [], harness := (true, "87212052c698ef0ad344822130eea82660057c4a998ffc60019905b01b8e0abc"), looks := false }, kinds := [], alts := [], laidByText := true, laidKinds := [.data], laidTests := true, laidLooks := .later }
def WholeReckonsUptoCardSaid : Prop := Claim7.holds Tryd.pinned (.plain (OpenSpec.upto wholeReckonsSpec)) wholeReckonsUptoCard
end Rows
end Go.Proofs.YtiiipgbfhcbjdaaDoor
