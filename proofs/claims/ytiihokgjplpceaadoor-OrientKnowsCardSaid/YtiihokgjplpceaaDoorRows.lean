/-
  NARROWER THAN 'FOR EVERY INPUT', by the rows' own cells (each row's printed sentence says how): OrientSigns: laid · OrientKnows: laid · OrientMeets: laid · OrientTurns: laid · OrientAround: laid · OrientMoved: laid.
  DERIVED. THE GIVEN ROWS OF THIS SEAT. 6 by the template 'for every input the law returns true; each argument reads behind the call as it read before'; 0 by the template 'total and deterministic' (their statements: YtiihokgjplpceaaDoorTotals.lean).
  GIVEN WITH THE SEED: the statements are not yours to turn. If you find one false, say at which input.
  Laid BY PROGRAM, IN A SANDBOX (cutbox-rows.mjs): the forced cells as the released guide's own fill.sh prints them over the translation 82e4a11d5c8ae870… (all of the seat's roots in one cut). By AI agents, Wed Nov 11 2026. No macro, syntax, notation, axiom, sorry.
-/
import Derived.Test.YtiihokgjplpceaaDoorChecked
import GoSem.Claim
import GoSem.ClaimJoined
import GoSem.ClaimMapViews
import Derived.JoinedTies
import Derived.KernelRfl
namespace Go.Proofs.YtiihokgjplpceaaDoor
/- THE CELL 'sum', in the pinned program and in every row, IS THE sha256 OF THE DUMP (.gsa) THAT YtiihokgjplpceaaDoorProg.lean LOADS. Nothing in Lean hashes anything: it is a label: what it is worth is what the hold of that sum in a sandbox is worth. -/
noncomputable def Tryd.pinned : Pinned := { name := "ytiihokgjplpceaadoor", sum := "82e4a11d5c8ae8705f853a8c12651566c6a2f01ae8a0abbd72887e26e2d4f3f3", checked := Tryd.checked }
namespace Rows
def none {H : Type} : Left H := { results := [], args := [] }

/- WHAT THE LISTED PACKAGE-LEVEL VARIABLES READ AS WHEN THE CALL BEGINS. Each datum BY PROGRAM (the guide's laid-datum.mjs) off the statement by which the dump's own 'gosem.cut.vars' lays the variable. In a bare row this is a premise. The card (YtiihokgjplpceaaDoorCards.lean) ties it to the program's text. -/
def laid_math_bits_deBruijn32tab {H : Type} : DataW H := .agg [.lit (.int .u8 0), .lit (.int .u8 1), .lit (.int .u8 28), .lit (.int .u8 2), .lit (.int .u8 29), .lit (.int .u8 14), .lit (.int .u8 24), .lit (.int .u8 3), .lit (.int .u8 30), .lit (.int .u8 22), .lit (.int .u8 20), .lit (.int .u8 15), .lit (.int .u8 25), .lit (.int .u8 17), .lit (.int .u8 4), .lit (.int .u8 8), .lit (.int .u8 31), .lit (.int .u8 27), .lit (.int .u8 13), .lit (.int .u8 23), .lit (.int .u8 21), .lit (.int .u8 19), .lit (.int .u8 16), .lit (.int .u8 7), .lit (.int .u8 26), .lit (.int .u8 12), .lit (.int .u8 18), .lit (.int .u8 6), .lit (.int .u8 11), .lit (.int .u8 5), .lit (.int .u8 10), .lit (.int .u8 9)]

/-- 'trivetlaw04.OrientSigns': WHATEVER THE INPUT: true; the input reads as it did. -/
def orientSignsSpec : ChangeSpec := { name := "orientSigns", fn := fun _ => fun
  | [d1, d2, d3] => { results := [.lit (.bool true)], args := [d1, d2, d3] }
  | _ => none }
def orientSignsRow : OpenClaim := { program := "ytiihokgjplpceaadoor", sum := "82e4a11d5c8ae8705f853a8c12651566c6a2f01ae8a0abbd72887e26e2d4f3f3", func := "trivet/trivetlaw04.OrientSigns", spec := "orientSigns", inPlace := ["math.Float64bits", "math.Float64frombits", "math.archTrunc"], unfollowed := true, recurses := true, named := ["math/bits.deBruijn32tab"], apart := false, laid := [("math/bits.deBruijn32tab", laid_math_bits_deBruijn32tab)] }
def OrientSignsSaid : Prop := orientSignsRow.holds Tryd.pinned (OpenSpec.ofChange orientSignsSpec)

/-- ITS FALSE NEIGHBOUR: 'it returns false'. Refute it at one input. -/
def orientSignsWrong : ChangeSpec := { name := "orientSigns", fn := fun _ => fun
  | [d1, d2, d3] => { results := [.lit (.bool false)], args := [d1, d2, d3] }
  | _ => none }
def OrientSignsWrongFalsely : Prop := orientSignsRow.holds Tryd.pinned (OpenSpec.ofChange orientSignsWrong)

/-- 'trivetlaw04.OrientKnows': WHATEVER THE INPUT: true; the input reads as it did. -/
def orientKnowsSpec : ChangeSpec := { name := "orientKnows", fn := fun _ => fun
  | [d] => { results := [.lit (.bool true)], args := [d] }
  | _ => none }
def orientKnowsRow : OpenClaim := { program := "ytiihokgjplpceaadoor", sum := "82e4a11d5c8ae8705f853a8c12651566c6a2f01ae8a0abbd72887e26e2d4f3f3", func := "trivet/trivetlaw04.OrientKnows", spec := "orientKnows", inPlace := ["math.Float64bits", "math.Float64frombits", "math.archTrunc"], unfollowed := true, recurses := true, named := ["math/bits.deBruijn32tab"], apart := false, laid := [("math/bits.deBruijn32tab", laid_math_bits_deBruijn32tab)] }
def OrientKnowsSaid : Prop := orientKnowsRow.holds Tryd.pinned (OpenSpec.ofChange orientKnowsSpec)

/-- ITS FALSE NEIGHBOUR: 'it returns false'. Refute it at one input. -/
def orientKnowsWrong : ChangeSpec := { name := "orientKnows", fn := fun _ => fun
  | [d] => { results := [.lit (.bool false)], args := [d] }
  | _ => none }
def OrientKnowsWrongFalsely : Prop := orientKnowsRow.holds Tryd.pinned (OpenSpec.ofChange orientKnowsWrong)

/-- 'trivetlaw04.OrientMeets': WHATEVER THE INPUT: true; the input reads as it did. -/
def orientMeetsSpec : ChangeSpec := { name := "orientMeets", fn := fun _ => fun
  | [d1, d2, d3, d4] => { results := [.lit (.bool true)], args := [d1, d2, d3, d4] }
  | _ => none }
def orientMeetsRow : OpenClaim := { program := "ytiihokgjplpceaadoor", sum := "82e4a11d5c8ae8705f853a8c12651566c6a2f01ae8a0abbd72887e26e2d4f3f3", func := "trivet/trivetlaw04.OrientMeets", spec := "orientMeets", inPlace := ["math.Float64bits", "math.Float64frombits", "math.archTrunc"], unfollowed := true, recurses := true, named := ["math/bits.deBruijn32tab"], apart := false, laid := [("math/bits.deBruijn32tab", laid_math_bits_deBruijn32tab)] }
def OrientMeetsSaid : Prop := orientMeetsRow.holds Tryd.pinned (OpenSpec.ofChange orientMeetsSpec)

/-- ITS FALSE NEIGHBOUR: 'it returns false'. Refute it at one input. -/
def orientMeetsWrong : ChangeSpec := { name := "orientMeets", fn := fun _ => fun
  | [d1, d2, d3, d4] => { results := [.lit (.bool false)], args := [d1, d2, d3, d4] }
  | _ => none }
def OrientMeetsWrongFalsely : Prop := orientMeetsRow.holds Tryd.pinned (OpenSpec.ofChange orientMeetsWrong)

/-- 'trivetlaw04.OrientTurns': WHATEVER THE INPUT: true; the input reads as it did. -/
def orientTurnsSpec : ChangeSpec := { name := "orientTurns", fn := fun _ => fun
  | [d1, d2, d3] => { results := [.lit (.bool true)], args := [d1, d2, d3] }
  | _ => none }
def orientTurnsRow : OpenClaim := { program := "ytiihokgjplpceaadoor", sum := "82e4a11d5c8ae8705f853a8c12651566c6a2f01ae8a0abbd72887e26e2d4f3f3", func := "trivet/trivetlaw04.OrientTurns", spec := "orientTurns", inPlace := ["math.Float64bits", "math.Float64frombits", "math.archTrunc"], unfollowed := true, recurses := true, named := ["math/bits.deBruijn32tab"], apart := false, laid := [("math/bits.deBruijn32tab", laid_math_bits_deBruijn32tab)] }
def OrientTurnsSaid : Prop := orientTurnsRow.holds Tryd.pinned (OpenSpec.ofChange orientTurnsSpec)

/-- ITS FALSE NEIGHBOUR: 'it returns false'. Refute it at one input. -/
def orientTurnsWrong : ChangeSpec := { name := "orientTurns", fn := fun _ => fun
  | [d1, d2, d3] => { results := [.lit (.bool false)], args := [d1, d2, d3] }
  | _ => none }
def OrientTurnsWrongFalsely : Prop := orientTurnsRow.holds Tryd.pinned (OpenSpec.ofChange orientTurnsWrong)

/-- 'trivetlaw04.OrientAround': WHATEVER THE INPUT: true; the input reads as it did. -/
def orientAroundSpec : ChangeSpec := { name := "orientAround", fn := fun _ => fun
  | [d1, d2, d3, d4, d5] => { results := [.lit (.bool true)], args := [d1, d2, d3, d4, d5] }
  | _ => none }
def orientAroundRow : OpenClaim := { program := "ytiihokgjplpceaadoor", sum := "82e4a11d5c8ae8705f853a8c12651566c6a2f01ae8a0abbd72887e26e2d4f3f3", func := "trivet/trivetlaw04.OrientAround", spec := "orientAround", inPlace := ["math.Float64bits", "math.Float64frombits", "math.archTrunc"], unfollowed := true, recurses := true, named := ["math/bits.deBruijn32tab"], apart := false, laid := [("math/bits.deBruijn32tab", laid_math_bits_deBruijn32tab)] }
def OrientAroundSaid : Prop := orientAroundRow.holds Tryd.pinned (OpenSpec.ofChange orientAroundSpec)

/-- ITS FALSE NEIGHBOUR: 'it returns false'. Refute it at one input. -/
def orientAroundWrong : ChangeSpec := { name := "orientAround", fn := fun _ => fun
  | [d1, d2, d3, d4, d5] => { results := [.lit (.bool false)], args := [d1, d2, d3, d4, d5] }
  | _ => none }
def OrientAroundWrongFalsely : Prop := orientAroundRow.holds Tryd.pinned (OpenSpec.ofChange orientAroundWrong)

/-- 'trivetlaw04.OrientMoved': WHATEVER THE INPUT: true; the input reads as it did. -/
def orientMovedSpec : ChangeSpec := { name := "orientMoved", fn := fun _ => fun
  | [d1, d2, d3, d4] => { results := [.lit (.bool true)], args := [d1, d2, d3, d4] }
  | _ => none }
def orientMovedRow : OpenClaim := { program := "ytiihokgjplpceaadoor", sum := "82e4a11d5c8ae8705f853a8c12651566c6a2f01ae8a0abbd72887e26e2d4f3f3", func := "trivet/trivetlaw04.OrientMoved", spec := "orientMoved", inPlace := ["math.Float64bits", "math.Float64frombits", "math.archTrunc"], unfollowed := true, recurses := true, named := ["math/bits.deBruijn32tab"], apart := false, laid := [("math/bits.deBruijn32tab", laid_math_bits_deBruijn32tab)] }
def OrientMovedSaid : Prop := orientMovedRow.holds Tryd.pinned (OpenSpec.ofChange orientMovedSpec)

/-- ITS FALSE NEIGHBOUR: 'it returns false'. Refute it at one input. -/
def orientMovedWrong : ChangeSpec := { name := "orientMoved", fn := fun _ => fun
  | [d1, d2, d3, d4] => { results := [.lit (.bool false)], args := [d1, d2, d3, d4] }
  | _ => none }
def OrientMovedWrongFalsely : Prop := orientMovedRow.holds Tryd.pinned (OpenSpec.ofChange orientMovedWrong)

/- THE SECOND FORM. 'bulk': how many values and letters a reading holds, each counted each time it is reached (what is shared counts as often as it is met; a slice's spare places count too). A statement '..UptoSaid' is the law's where the arguments, and the package variables that the reading takes, are together of bulk at most 1048576: NARROWER than '..Said'. Prove '..Said' where nothing that the law and all that it calls make is longer than what came in: it says more and counts as full. Else prove '..UptoSaid'. A law counts once. -/
mutual
def uptoBulk {H : Type} : DataW H → Nat
  | .lit (.string bytes) => bytes.length + 1
  | .lit _ => 1
  | .nil => 1
  | .ptr d => uptoBulk d + 1
  | .slice elems spare => uptoBulkAll elems + uptoBulkAll spare + 1
  | .agg parts => uptoBulkAll parts + 1
  | .iface _ d => uptoBulk d + 1
  | .map entries => uptoBulkEntries entries + 1
  | .held _ => 1
def uptoBulkAll {H : Type} : List (DataW H) → Nat
  | [] => 0
  | d :: r => uptoBulk d + uptoBulkAll r
def uptoBulkEntries {H : Type} : List (Lit × DataW H) → Nat
  | [] => 0
  | x :: r => uptoBulkEntry x + uptoBulkEntries r
def uptoBulkEntry {H : Type} : Lit × DataW H → Nat
  | (.string bytes, d) => bytes.length + uptoBulk d + 1
  | (_, d) => uptoBulk d + 1
 end
def uptoSmall : (H : Type) → List (DataW H) → Bool := fun _ ds => decide (uptoBulkAll ds ≤ 1048576)
def OpenSpec.upto (s : _root_.Go.ChangeSpec) : _root_.Go.OpenSpec := { _root_.Go.OpenSpec.ofChange s with cond := some uptoSmall }

/-- 'trivetlaw04.OrientSigns', WHERE WHAT IT READS IS OF BULK AT MOST 1048576: true; the input reads as it did. -/
def orientSignsUptoRow : OpenClaim := { program := "ytiihokgjplpceaadoor", sum := "82e4a11d5c8ae8705f853a8c12651566c6a2f01ae8a0abbd72887e26e2d4f3f3", func := "trivet/trivetlaw04.OrientSigns", spec := "orientSigns", inPlace := ["math.Float64bits", "math.Float64frombits", "math.archTrunc"], unfollowed := true, recurses := true, named := ["math/bits.deBruijn32tab"], apart := false, laid := [("math/bits.deBruijn32tab", laid_math_bits_deBruijn32tab)], narrowed := true }
def OrientSignsUptoSaid : Prop := orientSignsUptoRow.holds Tryd.pinned (OpenSpec.upto orientSignsSpec)

/-- 'trivetlaw04.OrientKnows', WHERE WHAT IT READS IS OF BULK AT MOST 1048576: true; the input reads as it did. -/
def orientKnowsUptoRow : OpenClaim := { program := "ytiihokgjplpceaadoor", sum := "82e4a11d5c8ae8705f853a8c12651566c6a2f01ae8a0abbd72887e26e2d4f3f3", func := "trivet/trivetlaw04.OrientKnows", spec := "orientKnows", inPlace := ["math.Float64bits", "math.Float64frombits", "math.archTrunc"], unfollowed := true, recurses := true, named := ["math/bits.deBruijn32tab"], apart := false, laid := [("math/bits.deBruijn32tab", laid_math_bits_deBruijn32tab)], narrowed := true }
def OrientKnowsUptoSaid : Prop := orientKnowsUptoRow.holds Tryd.pinned (OpenSpec.upto orientKnowsSpec)

/-- 'trivetlaw04.OrientMeets', WHERE WHAT IT READS IS OF BULK AT MOST 1048576: true; the input reads as it did. -/
def orientMeetsUptoRow : OpenClaim := { program := "ytiihokgjplpceaadoor", sum := "82e4a11d5c8ae8705f853a8c12651566c6a2f01ae8a0abbd72887e26e2d4f3f3", func := "trivet/trivetlaw04.OrientMeets", spec := "orientMeets", inPlace := ["math.Float64bits", "math.Float64frombits", "math.archTrunc"], unfollowed := true, recurses := true, named := ["math/bits.deBruijn32tab"], apart := false, laid := [("math/bits.deBruijn32tab", laid_math_bits_deBruijn32tab)], narrowed := true }
def OrientMeetsUptoSaid : Prop := orientMeetsUptoRow.holds Tryd.pinned (OpenSpec.upto orientMeetsSpec)

/-- 'trivetlaw04.OrientTurns', WHERE WHAT IT READS IS OF BULK AT MOST 1048576: true; the input reads as it did. -/
def orientTurnsUptoRow : OpenClaim := { program := "ytiihokgjplpceaadoor", sum := "82e4a11d5c8ae8705f853a8c12651566c6a2f01ae8a0abbd72887e26e2d4f3f3", func := "trivet/trivetlaw04.OrientTurns", spec := "orientTurns", inPlace := ["math.Float64bits", "math.Float64frombits", "math.archTrunc"], unfollowed := true, recurses := true, named := ["math/bits.deBruijn32tab"], apart := false, laid := [("math/bits.deBruijn32tab", laid_math_bits_deBruijn32tab)], narrowed := true }
def OrientTurnsUptoSaid : Prop := orientTurnsUptoRow.holds Tryd.pinned (OpenSpec.upto orientTurnsSpec)

/-- 'trivetlaw04.OrientAround', WHERE WHAT IT READS IS OF BULK AT MOST 1048576: true; the input reads as it did. -/
def orientAroundUptoRow : OpenClaim := { program := "ytiihokgjplpceaadoor", sum := "82e4a11d5c8ae8705f853a8c12651566c6a2f01ae8a0abbd72887e26e2d4f3f3", func := "trivet/trivetlaw04.OrientAround", spec := "orientAround", inPlace := ["math.Float64bits", "math.Float64frombits", "math.archTrunc"], unfollowed := true, recurses := true, named := ["math/bits.deBruijn32tab"], apart := false, laid := [("math/bits.deBruijn32tab", laid_math_bits_deBruijn32tab)], narrowed := true }
def OrientAroundUptoSaid : Prop := orientAroundUptoRow.holds Tryd.pinned (OpenSpec.upto orientAroundSpec)

/-- 'trivetlaw04.OrientMoved', WHERE WHAT IT READS IS OF BULK AT MOST 1048576: true; the input reads as it did. -/
def orientMovedUptoRow : OpenClaim := { program := "ytiihokgjplpceaadoor", sum := "82e4a11d5c8ae8705f853a8c12651566c6a2f01ae8a0abbd72887e26e2d4f3f3", func := "trivet/trivetlaw04.OrientMoved", spec := "orientMoved", inPlace := ["math.Float64bits", "math.Float64frombits", "math.archTrunc"], unfollowed := true, recurses := true, named := ["math/bits.deBruijn32tab"], apart := false, laid := [("math/bits.deBruijn32tab", laid_math_bits_deBruijn32tab)], narrowed := true }
def OrientMovedUptoSaid : Prop := orientMovedUptoRow.holds Tryd.pinned (OpenSpec.upto orientMovedSpec)

end Rows
end Go.Proofs.YtiihokgjplpceaaDoor
