/-
  NARROWER THAN 'FOR EVERY INPUT', by the rows' own cells (each row's printed sentence says how): ExpandAdds: laid · ExpandSigns: laid · ExpandMuls: laid · ExpandWhole: laid · ExpandLeads: laid.
  DERIVED. THE GIVEN ROWS OF THIS SEAT. 5 by the template 'for every input the law returns true; each argument reads behind the call as it read before'; 0 by the template 'total and deterministic' (their statements: YtjogclokjonkeaaDoorTotals.lean).
  GIVEN WITH THE SEED: the statements are not yours to turn. If you find one false, say at which input.
  Laid BY PROGRAM, IN A SANDBOX (cutbox-rows.mjs): the forced cells as the released guide's own fill.sh prints them over the translation 0b0dcf33e2d9e088… (all of the seat's roots in one cut). By AI agents, Wed Nov 11 2026. No macro, syntax, notation, axiom, sorry.
-/
import Derived.Test.YtjogclokjonkeaaDoorChecked
import GoSem.Claim
import GoSem.ClaimJoined
import GoSem.ClaimMapViews
import Derived.JoinedTies
import Derived.KernelRfl
namespace Go.Proofs.YtjogclokjonkeaaDoor
/- THE CELL 'sum', in the pinned program and in every row, IS THE sha256 OF THE DUMP (.gsa) THAT YtjogclokjonkeaaDoorProg.lean LOADS. Nothing in Lean hashes anything: it is a label: what it is worth is what the hold of that sum in a sandbox is worth. -/
noncomputable def Tryd.pinned : Pinned := { name := "ytjogclokjonkeaadoor", sum := "0b0dcf33e2d9e0885649c6e24f4b7e10773dd829cb6c55d8cd78e7b6646e9a84", checked := Tryd.checked }
namespace Rows
def none {H : Type} : Left H := { results := [], args := [] }

/- WHAT THE LISTED PACKAGE-LEVEL VARIABLES READ AS WHEN THE CALL BEGINS. Each datum BY PROGRAM (the guide's laid-datum.mjs) off the statement by which the dump's own 'gosem.cut.vars' lays the variable. In a bare row this is a premise. The card (YtjogclokjonkeaaDoorCards.lean) ties it to the program's text. -/
def laid_math_bits_deBruijn32tab {H : Type} : DataW H := .agg [.lit (.int .u8 0), .lit (.int .u8 1), .lit (.int .u8 28), .lit (.int .u8 2), .lit (.int .u8 29), .lit (.int .u8 14), .lit (.int .u8 24), .lit (.int .u8 3), .lit (.int .u8 30), .lit (.int .u8 22), .lit (.int .u8 20), .lit (.int .u8 15), .lit (.int .u8 25), .lit (.int .u8 17), .lit (.int .u8 4), .lit (.int .u8 8), .lit (.int .u8 31), .lit (.int .u8 27), .lit (.int .u8 13), .lit (.int .u8 23), .lit (.int .u8 21), .lit (.int .u8 19), .lit (.int .u8 16), .lit (.int .u8 7), .lit (.int .u8 26), .lit (.int .u8 12), .lit (.int .u8 18), .lit (.int .u8 6), .lit (.int .u8 11), .lit (.int .u8 5), .lit (.int .u8 10), .lit (.int .u8 9)]

/-- 'trivetlaw03.ExpandAdds': WHATEVER THE INPUT: true; the input reads as it did. -/
def expandAddsSpec : ChangeSpec := { name := "expandAdds", fn := fun _ => fun
  | [d1, d2] => { results := [.lit (.bool true)], args := [d1, d2] }
  | _ => none }
def expandAddsRow : OpenClaim := { program := "ytjogclokjonkeaadoor", sum := "0b0dcf33e2d9e0885649c6e24f4b7e10773dd829cb6c55d8cd78e7b6646e9a84", func := "trivet/trivetlaw03.ExpandAdds", spec := "expandAdds", inPlace := ["math.Float64bits", "math.Float64frombits"], unfollowed := true, recurses := true, named := ["math/bits.deBruijn32tab"], apart := false, laid := [("math/bits.deBruijn32tab", laid_math_bits_deBruijn32tab)] }
def ExpandAddsSaid : Prop := expandAddsRow.holds Tryd.pinned (OpenSpec.ofChange expandAddsSpec)

/-- ITS FALSE NEIGHBOUR: 'it returns false'. Refute it at one input. -/
def expandAddsWrong : ChangeSpec := { name := "expandAdds", fn := fun _ => fun
  | [d1, d2] => { results := [.lit (.bool false)], args := [d1, d2] }
  | _ => none }
def ExpandAddsWrongFalsely : Prop := expandAddsRow.holds Tryd.pinned (OpenSpec.ofChange expandAddsWrong)

/-- 'trivetlaw03.ExpandSigns': WHATEVER THE INPUT: true; the input reads as it did. -/
def expandSignsSpec : ChangeSpec := { name := "expandSigns", fn := fun _ => fun
  | [d1, d2, d3] => { results := [.lit (.bool true)], args := [d1, d2, d3] }
  | _ => none }
def expandSignsRow : OpenClaim := { program := "ytjogclokjonkeaadoor", sum := "0b0dcf33e2d9e0885649c6e24f4b7e10773dd829cb6c55d8cd78e7b6646e9a84", func := "trivet/trivetlaw03.ExpandSigns", spec := "expandSigns", inPlace := ["math.Float64bits", "math.Float64frombits"], unfollowed := true, recurses := true, named := ["math/bits.deBruijn32tab"], apart := false, laid := [("math/bits.deBruijn32tab", laid_math_bits_deBruijn32tab)] }
def ExpandSignsSaid : Prop := expandSignsRow.holds Tryd.pinned (OpenSpec.ofChange expandSignsSpec)

/-- ITS FALSE NEIGHBOUR: 'it returns false'. Refute it at one input. -/
def expandSignsWrong : ChangeSpec := { name := "expandSigns", fn := fun _ => fun
  | [d1, d2, d3] => { results := [.lit (.bool false)], args := [d1, d2, d3] }
  | _ => none }
def ExpandSignsWrongFalsely : Prop := expandSignsRow.holds Tryd.pinned (OpenSpec.ofChange expandSignsWrong)

/-- 'trivetlaw03.ExpandMuls': WHATEVER THE INPUT: true; the input reads as it did. -/
def expandMulsSpec : ChangeSpec := { name := "expandMuls", fn := fun _ => fun
  | [d1, d2, d3] => { results := [.lit (.bool true)], args := [d1, d2, d3] }
  | _ => none }
def expandMulsRow : OpenClaim := { program := "ytjogclokjonkeaadoor", sum := "0b0dcf33e2d9e0885649c6e24f4b7e10773dd829cb6c55d8cd78e7b6646e9a84", func := "trivet/trivetlaw03.ExpandMuls", spec := "expandMuls", inPlace := ["math.Float64bits", "math.Float64frombits"], unfollowed := true, recurses := true, named := ["math/bits.deBruijn32tab"], apart := false, laid := [("math/bits.deBruijn32tab", laid_math_bits_deBruijn32tab)] }
def ExpandMulsSaid : Prop := expandMulsRow.holds Tryd.pinned (OpenSpec.ofChange expandMulsSpec)

/-- ITS FALSE NEIGHBOUR: 'it returns false'. Refute it at one input. -/
def expandMulsWrong : ChangeSpec := { name := "expandMuls", fn := fun _ => fun
  | [d1, d2, d3] => { results := [.lit (.bool false)], args := [d1, d2, d3] }
  | _ => none }
def ExpandMulsWrongFalsely : Prop := expandMulsRow.holds Tryd.pinned (OpenSpec.ofChange expandMulsWrong)

/-- 'trivetlaw03.ExpandWhole': WHATEVER THE INPUT: true; the input reads as it did. -/
def expandWholeSpec : ChangeSpec := { name := "expandWhole", fn := fun _ => fun
  | [d] => { results := [.lit (.bool true)], args := [d] }
  | _ => none }
def expandWholeRow : OpenClaim := { program := "ytjogclokjonkeaadoor", sum := "0b0dcf33e2d9e0885649c6e24f4b7e10773dd829cb6c55d8cd78e7b6646e9a84", func := "trivet/trivetlaw03.ExpandWhole", spec := "expandWhole", inPlace := ["math.Float64bits", "math.Float64frombits"], unfollowed := true, recurses := true, named := ["math/bits.deBruijn32tab"], apart := false, laid := [("math/bits.deBruijn32tab", laid_math_bits_deBruijn32tab)] }
def ExpandWholeSaid : Prop := expandWholeRow.holds Tryd.pinned (OpenSpec.ofChange expandWholeSpec)

/-- ITS FALSE NEIGHBOUR: 'it returns false'. Refute it at one input. -/
def expandWholeWrong : ChangeSpec := { name := "expandWhole", fn := fun _ => fun
  | [d] => { results := [.lit (.bool false)], args := [d] }
  | _ => none }
def ExpandWholeWrongFalsely : Prop := expandWholeRow.holds Tryd.pinned (OpenSpec.ofChange expandWholeWrong)

/-- 'trivetlaw03.ExpandLeads': WHATEVER THE INPUT: true; the input reads as it did. -/
def expandLeadsSpec : ChangeSpec := { name := "expandLeads", fn := fun _ => fun
  | [d] => { results := [.lit (.bool true)], args := [d] }
  | _ => none }
def expandLeadsRow : OpenClaim := { program := "ytjogclokjonkeaadoor", sum := "0b0dcf33e2d9e0885649c6e24f4b7e10773dd829cb6c55d8cd78e7b6646e9a84", func := "trivet/trivetlaw03.ExpandLeads", spec := "expandLeads", inPlace := ["math.Float64bits", "math.Float64frombits"], unfollowed := true, recurses := true, named := ["math/bits.deBruijn32tab"], apart := false, laid := [("math/bits.deBruijn32tab", laid_math_bits_deBruijn32tab)] }
def ExpandLeadsSaid : Prop := expandLeadsRow.holds Tryd.pinned (OpenSpec.ofChange expandLeadsSpec)

/-- ITS FALSE NEIGHBOUR: 'it returns false'. Refute it at one input. -/
def expandLeadsWrong : ChangeSpec := { name := "expandLeads", fn := fun _ => fun
  | [d] => { results := [.lit (.bool false)], args := [d] }
  | _ => none }
def ExpandLeadsWrongFalsely : Prop := expandLeadsRow.holds Tryd.pinned (OpenSpec.ofChange expandLeadsWrong)

/- THE SECOND FORM. 'bulk': how many values and letters a reading holds, each counted each time it is reached (what is shared counts as often as it is met; a slice's spare places count too). A statement '..UptoSaid' is the law's where the arguments, and the package variables that the reading takes, are together of bulk at most 1048576: NARROWER than '..Said'. Prove '..Said' where nothing that the law and all that it calls make is longer than what came in: it says more and counts as full. Else prove '..UptoSaid'. A law counts once. -/
mutual
def uptoBulk {H : Type} : DataW H → Nat
  | .lit (.string bytes) => bytes.length + 1
  | .lit _ => 1
  | .nil => 1
  | .ptr d => uptoBulk d + 1
  | .slice elems spare => uptoBulkAll elems + uptoBulkAll spare + 1
  | .agg parts => uptoBulkAll parts + 1
  | .iface _ d => uptoBulk d + 1
  | .map entries => uptoBulkEntries entries + 1
  | .held _ => 1
def uptoBulkAll {H : Type} : List (DataW H) → Nat
  | [] => 0
  | d :: r => uptoBulk d + uptoBulkAll r
def uptoBulkEntries {H : Type} : List (Lit × DataW H) → Nat
  | [] => 0
  | x :: r => uptoBulkEntry x + uptoBulkEntries r
def uptoBulkEntry {H : Type} : Lit × DataW H → Nat
  | (.string bytes, d) => bytes.length + uptoBulk d + 1
  | (_, d) => uptoBulk d + 1
 end
def uptoSmall : (H : Type) → List (DataW H) → Bool := fun _ ds => decide (uptoBulkAll ds ≤ 1048576)
def OpenSpec.upto (s : _root_.Go.ChangeSpec) : _root_.Go.OpenSpec := { _root_.Go.OpenSpec.ofChange s with cond := some uptoSmall }

/-- 'trivetlaw03.ExpandAdds', WHERE WHAT IT READS IS OF BULK AT MOST 1048576: true; the input reads as it did. -/
def expandAddsUptoRow : OpenClaim := { program := "ytjogclokjonkeaadoor", sum := "0b0dcf33e2d9e0885649c6e24f4b7e10773dd829cb6c55d8cd78e7b6646e9a84", func := "trivet/trivetlaw03.ExpandAdds", spec := "expandAdds", inPlace := ["math.Float64bits", "math.Float64frombits"], unfollowed := true, recurses := true, named := ["math/bits.deBruijn32tab"], apart := false, laid := [("math/bits.deBruijn32tab", laid_math_bits_deBruijn32tab)], narrowed := true }
def ExpandAddsUptoSaid : Prop := expandAddsUptoRow.holds Tryd.pinned (OpenSpec.upto expandAddsSpec)

/-- 'trivetlaw03.ExpandSigns', WHERE WHAT IT READS IS OF BULK AT MOST 1048576: true; the input reads as it did. -/
def expandSignsUptoRow : OpenClaim := { program := "ytjogclokjonkeaadoor", sum := "0b0dcf33e2d9e0885649c6e24f4b7e10773dd829cb6c55d8cd78e7b6646e9a84", func := "trivet/trivetlaw03.ExpandSigns", spec := "expandSigns", inPlace := ["math.Float64bits", "math.Float64frombits"], unfollowed := true, recurses := true, named := ["math/bits.deBruijn32tab"], apart := false, laid := [("math/bits.deBruijn32tab", laid_math_bits_deBruijn32tab)], narrowed := true }
def ExpandSignsUptoSaid : Prop := expandSignsUptoRow.holds Tryd.pinned (OpenSpec.upto expandSignsSpec)

/-- 'trivetlaw03.ExpandMuls', WHERE WHAT IT READS IS OF BULK AT MOST 1048576: true; the input reads as it did. -/
def expandMulsUptoRow : OpenClaim := { program := "ytjogclokjonkeaadoor", sum := "0b0dcf33e2d9e0885649c6e24f4b7e10773dd829cb6c55d8cd78e7b6646e9a84", func := "trivet/trivetlaw03.ExpandMuls", spec := "expandMuls", inPlace := ["math.Float64bits", "math.Float64frombits"], unfollowed := true, recurses := true, named := ["math/bits.deBruijn32tab"], apart := false, laid := [("math/bits.deBruijn32tab", laid_math_bits_deBruijn32tab)], narrowed := true }
def ExpandMulsUptoSaid : Prop := expandMulsUptoRow.holds Tryd.pinned (OpenSpec.upto expandMulsSpec)

/-- 'trivetlaw03.ExpandWhole', WHERE WHAT IT READS IS OF BULK AT MOST 1048576: true; the input reads as it did. -/
def expandWholeUptoRow : OpenClaim := { program := "ytjogclokjonkeaadoor", sum := "0b0dcf33e2d9e0885649c6e24f4b7e10773dd829cb6c55d8cd78e7b6646e9a84", func := "trivet/trivetlaw03.ExpandWhole", spec := "expandWhole", inPlace := ["math.Float64bits", "math.Float64frombits"], unfollowed := true, recurses := true, named := ["math/bits.deBruijn32tab"], apart := false, laid := [("math/bits.deBruijn32tab", laid_math_bits_deBruijn32tab)], narrowed := true }
def ExpandWholeUptoSaid : Prop := expandWholeUptoRow.holds Tryd.pinned (OpenSpec.upto expandWholeSpec)

/-- 'trivetlaw03.ExpandLeads', WHERE WHAT IT READS IS OF BULK AT MOST 1048576: true; the input reads as it did. -/
def expandLeadsUptoRow : OpenClaim := { program := "ytjogclokjonkeaadoor", sum := "0b0dcf33e2d9e0885649c6e24f4b7e10773dd829cb6c55d8cd78e7b6646e9a84", func := "trivet/trivetlaw03.ExpandLeads", spec := "expandLeads", inPlace := ["math.Float64bits", "math.Float64frombits"], unfollowed := true, recurses := true, named := ["math/bits.deBruijn32tab"], apart := false, laid := [("math/bits.deBruijn32tab", laid_math_bits_deBruijn32tab)], narrowed := true }
def ExpandLeadsUptoSaid : Prop := expandLeadsUptoRow.holds Tryd.pinned (OpenSpec.upto expandLeadsSpec)

end Rows
end Go.Proofs.YtjogclokjonkeaaDoor
