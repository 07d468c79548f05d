/-
  DERIVED. GIVEN WITH THE SEED: THE CARDS: each row of YtjogclokjonkeaaDoorRows.lean that lists a variable, with what it lists TIED to the program's text (the seventh form; the later family's looks); each row that meets fmt, with fmt's text TOLD by the authors' own Lean function (tested against real Go, not proved from fmt's source: count such statements apart). THE CARD IS WHAT COUNTS. Prove the row's statement (the work); the ties are given (YtjogclokjonkeaaDoorTie.lean); close each card by the builder's one call (the guide's Derived/Test/ToyasCard.lean, 'card_holds'). Laid BY PROGRAM, IN A SANDBOX (cutbox-door.mjs). By AI agents, Wed Nov 11 2026. No macro, syntax, notation, axiom, sorry.
-/
import Derived.Test.YtjogclokjonkeaaDoorRows
import GoSem.ClaimSeven
namespace Go.Proofs.YtjogclokjonkeaaDoor
namespace Rows

/-- THE TIED CARD OF 'trivetlaw03.ExpandAdds'. -/
def expandAddsCard : Claim7 := { stood := { row := expandAddsRow, standIns := [], harness := (true, "a646791316625a684b6fdfe823503fa4739dae70f4298d9211322f2f3ea1b545"), looks := false }, kinds := [], alts := [], laidByText := true, laidKinds := [.data], laidTests := true, laidLooks := .later }
def ExpandAddsCardSaid : Prop := Claim7.holds Tryd.pinned (.plain (OpenSpec.ofChange expandAddsSpec)) expandAddsCard

/-- THE TIED CARD OF 'trivetlaw03.ExpandSigns'. -/
def expandSignsCard : Claim7 := { stood := { row := expandSignsRow, standIns := [], harness := (true, "a646791316625a684b6fdfe823503fa4739dae70f4298d9211322f2f3ea1b545"), looks := false }, kinds := [], alts := [], laidByText := true, laidKinds := [.data], laidTests := true, laidLooks := .later }
def ExpandSignsCardSaid : Prop := Claim7.holds Tryd.pinned (.plain (OpenSpec.ofChange expandSignsSpec)) expandSignsCard

/-- THE TIED CARD OF 'trivetlaw03.ExpandMuls'. -/
def expandMulsCard : Claim7 := { stood := { row := expandMulsRow, standIns := [], harness := (true, "a646791316625a684b6fdfe823503fa4739dae70f4298d9211322f2f3ea1b545"), looks := false }, kinds := [], alts := [], laidByText := true, laidKinds := [.data], laidTests := true, laidLooks := .later }
def ExpandMulsCardSaid : Prop := Claim7.holds Tryd.pinned (.plain (OpenSpec.ofChange expandMulsSpec)) expandMulsCard

/-- THE TIED CARD OF 'trivetlaw03.ExpandWhole'. -/
def expandWholeCard : Claim7 := { stood := { row := expandWholeRow, standIns := [], harness := (true, "a646791316625a684b6fdfe823503fa4739dae70f4298d9211322f2f3ea1b545"), looks := false }, kinds := [], alts := [], laidByText := true, laidKinds := [.data], laidTests := true, laidLooks := .later }
def ExpandWholeCardSaid : Prop := Claim7.holds Tryd.pinned (.plain (OpenSpec.ofChange expandWholeSpec)) expandWholeCard

/-- THE TIED CARD OF 'trivetlaw03.ExpandLeads'. -/
def expandLeadsCard : Claim7 := { stood := { row := expandLeadsRow, standIns := [], harness := (true, "a646791316625a684b6fdfe823503fa4739dae70f4298d9211322f2f3ea1b545"), looks := false }, kinds := [], alts := [], laidByText := true, laidKinds := [.data], laidTests := true, laidLooks := .later }
def ExpandLeadsCardSaid : Prop := Claim7.holds Tryd.pinned (.plain (OpenSpec.ofChange expandLeadsSpec)) expandLeadsCard

/-- THE SECOND FORM's CARD OF 'trivetlaw03.ExpandAdds'. -/
def expandAddsUptoCard : Claim7 := { stood := { row := expandAddsUptoRow, standIns := [], harness := (true, "a646791316625a684b6fdfe823503fa4739dae70f4298d9211322f2f3ea1b545"), looks := false }, kinds := [], alts := [], laidByText := true, laidKinds := [.data], laidTests := true, laidLooks := .later }
def ExpandAddsUptoCardSaid : Prop := Claim7.holds Tryd.pinned (.plain (OpenSpec.upto expandAddsSpec)) expandAddsUptoCard

/-- THE SECOND FORM's CARD OF 'trivetlaw03.ExpandSigns'. -/
def expandSignsUptoCard : Claim7 := { stood := { row := expandSignsUptoRow, standIns := [], harness := (true, "a646791316625a684b6fdfe823503fa4739dae70f4298d9211322f2f3ea1b545"), looks := false }, kinds := [], alts := [], laidByText := true, laidKinds := [.data], laidTests := true, laidLooks := .later }
def ExpandSignsUptoCardSaid : Prop := Claim7.holds Tryd.pinned (.plain (OpenSpec.upto expandSignsSpec)) expandSignsUptoCard

/-- THE SECOND FORM's CARD OF 'trivetlaw03.ExpandMuls'. -/
def expandMulsUptoCard : Claim7 := { stood := { row := expandMulsUptoRow, standIns := [], harness := (true, "a646791316625a684b6fdfe823503fa4739dae70f4298d9211322f2f3ea1b545"), looks := false }, kinds := [], alts := [], laidByText := true, laidKinds := [.data], laidTests := true, laidLooks := .later }
def ExpandMulsUptoCardSaid : Prop := Claim7.holds Tryd.pinned (.plain (OpenSpec.upto expandMulsSpec)) expandMulsUptoCard

/-- THE SECOND FORM's CARD OF 'trivetlaw03.ExpandWhole'. -/
def expandWholeUptoCard : Claim7 := { stood := { row := expandWholeUptoRow, standIns := [], harness := (true, "a646791316625a684b6fdfe823503fa4739dae70f4298d9211322f2f3ea1b545"), looks := false }, kinds := [], alts := [], laidByText := true, laidKinds := [.data], laidTests := true, laidLooks := .later }
def ExpandWholeUptoCardSaid : Prop := Claim7.holds Tryd.pinned (.plain (OpenSpec.upto expandWholeSpec)) expandWholeUptoCard

/-- THE SECOND FORM's CARD OF 'trivetlaw03.ExpandLeads'. -/
def expandLeadsUptoCard : Claim7 := { stood := { row := expandLeadsUptoRow, standIns := [], harness := (true, "a646791316625a684b6fdfe823503fa4739dae70f4298d9211322f2f3ea1b545"), looks := false }, kinds := [], alts := [], laidByText := true, laidKinds := [.data], laidTests := true, laidLooks := .later }
def ExpandLeadsUptoCardSaid : Prop := Claim7.holds Tryd.pinned (.plain (OpenSpec.upto expandLeadsSpec)) expandLeadsUptoCard
end Rows
end Go.Proofs.YtjogclokjonkeaaDoor
