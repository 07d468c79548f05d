/-
  NARROWER THAN 'FOR EVERY INPUT', by the rows' own cells (each row's printed sentence says how): WholeRing: laid · WholeOrder: laid · WholeNames: laid · WholeFloats: laid · WholeReckons: laid.
  DERIVED. THE GIVEN ROWS OF THIS SEAT. 5 by the template 'for every input the law returns true; each argument reads behind the call as it read before'; 0 by the template 'total and deterministic' (their statements: YtiiipgbfhcbjdaaDoorTotals.lean).
  GIVEN WITH THE SEED: the statements are not yours to turn. If you find one false, say at which input.
  Laid BY PROGRAM, IN A SANDBOX (cutbox-rows.mjs): the forced cells as the released guide's own fill.sh prints them over the translation d16660bda2434a89… (all of the seat's roots in one cut). By AI agents, Wed Nov 11 2026. No macro, syntax, notation, axiom, sorry.
-/
import Derived.Test.YtiiipgbfhcbjdaaDoorChecked
import GoSem.Claim
import GoSem.ClaimJoined
import GoSem.ClaimMapViews
import Derived.JoinedTies
import Derived.KernelRfl
namespace Go.Proofs.YtiiipgbfhcbjdaaDoor
/- THE CELL 'sum', in the pinned program and in every row, IS THE sha256 OF THE DUMP (.gsa) THAT YtiiipgbfhcbjdaaDoorProg.lean LOADS. Nothing in Lean hashes anything: it is a label: what it is worth is what the hold of that sum in a sandbox is worth. -/
noncomputable def Tryd.pinned : Pinned := { name := "ytiiipgbfhcbjdaadoor", sum := "d16660bda2434a89f99af200c8d889fdb2a1b97be410d572587d7fe5efb1bdd3", checked := Tryd.checked }
namespace Rows
def none {H : Type} : Left H := { results := [], args := [] }

/- WHAT THE LISTED PACKAGE-LEVEL VARIABLES READ AS WHEN THE CALL BEGINS. Each datum BY PROGRAM (the guide's laid-datum.mjs) off the statement by which the dump's own 'gosem.cut.vars' lays the variable. In a bare row this is a premise. The card (YtiiipgbfhcbjdaaDoorCards.lean) ties it to the program's text. -/
def laid_math_bits_deBruijn32tab {H : Type} : DataW H := .agg [.lit (.int .u8 0), .lit (.int .u8 1), .lit (.int .u8 28), .lit (.int .u8 2), .lit (.int .u8 29), .lit (.int .u8 14), .lit (.int .u8 24), .lit (.int .u8 3), .lit (.int .u8 30), .lit (.int .u8 22), .lit (.int .u8 20), .lit (.int .u8 15), .lit (.int .u8 25), .lit (.int .u8 17), .lit (.int .u8 4), .lit (.int .u8 8), .lit (.int .u8 31), .lit (.int .u8 27), .lit (.int .u8 13), .lit (.int .u8 23), .lit (.int .u8 21), .lit (.int .u8 19), .lit (.int .u8 16), .lit (.int .u8 7), .lit (.int .u8 26), .lit (.int .u8 12), .lit (.int .u8 18), .lit (.int .u8 6), .lit (.int .u8 11), .lit (.int .u8 5), .lit (.int .u8 10), .lit (.int .u8 9)]

/-- 'trivetlaw01.WholeRing': WHATEVER THE INPUT: true; the input reads as it did. -/
def wholeRingSpec : ChangeSpec := { name := "wholeRing", fn := fun _ => fun
  | [d1, d2] => { results := [.lit (.bool true)], args := [d1, d2] }
  | _ => none }
def wholeRingRow : OpenClaim := { program := "ytiiipgbfhcbjdaadoor", sum := "d16660bda2434a89f99af200c8d889fdb2a1b97be410d572587d7fe5efb1bdd3", func := "trivet/trivetlaw01.WholeRing", spec := "wholeRing", inPlace := ["math.Float64bits", "math.Float64frombits"], named := ["math/bits.deBruijn32tab"], apart := false, laid := [("math/bits.deBruijn32tab", laid_math_bits_deBruijn32tab)] }
def WholeRingSaid : Prop := wholeRingRow.holds Tryd.pinned (OpenSpec.ofChange wholeRingSpec)

/-- ITS FALSE NEIGHBOUR: 'it returns false'. Refute it at one input. -/
def wholeRingWrong : ChangeSpec := { name := "wholeRing", fn := fun _ => fun
  | [d1, d2] => { results := [.lit (.bool false)], args := [d1, d2] }
  | _ => none }
def WholeRingWrongFalsely : Prop := wholeRingRow.holds Tryd.pinned (OpenSpec.ofChange wholeRingWrong)

/-- 'trivetlaw01.WholeOrder': WHATEVER THE INPUT: true; the input reads as it did. -/
def wholeOrderSpec : ChangeSpec := { name := "wholeOrder", fn := fun _ => fun
  | [d] => { results := [.lit (.bool true)], args := [d] }
  | _ => none }
def wholeOrderRow : OpenClaim := { program := "ytiiipgbfhcbjdaadoor", sum := "d16660bda2434a89f99af200c8d889fdb2a1b97be410d572587d7fe5efb1bdd3", func := "trivet/trivetlaw01.WholeOrder", spec := "wholeOrder", inPlace := ["math.Float64bits", "math.Float64frombits"], named := ["math/bits.deBruijn32tab"], apart := false, laid := [("math/bits.deBruijn32tab", laid_math_bits_deBruijn32tab)] }
def WholeOrderSaid : Prop := wholeOrderRow.holds Tryd.pinned (OpenSpec.ofChange wholeOrderSpec)

/-- ITS FALSE NEIGHBOUR: 'it returns false'. Refute it at one input. -/
def wholeOrderWrong : ChangeSpec := { name := "wholeOrder", fn := fun _ => fun
  | [d] => { results := [.lit (.bool false)], args := [d] }
  | _ => none }
def WholeOrderWrongFalsely : Prop := wholeOrderRow.holds Tryd.pinned (OpenSpec.ofChange wholeOrderWrong)

/-- 'trivetlaw01.WholeNames': WHATEVER THE INPUT: true; the input reads as it did. -/
def wholeNamesSpec : ChangeSpec := { name := "wholeNames", fn := fun _ => fun
  | [] => { results := [.lit (.bool true)], args := [] }
  | _ => none }
def wholeNamesRow : OpenClaim := { program := "ytiiipgbfhcbjdaadoor", sum := "d16660bda2434a89f99af200c8d889fdb2a1b97be410d572587d7fe5efb1bdd3", func := "trivet/trivetlaw01.WholeNames", spec := "wholeNames", inPlace := ["math.Float64bits", "math.Float64frombits"], named := ["math/bits.deBruijn32tab"], apart := false, laid := [("math/bits.deBruijn32tab", laid_math_bits_deBruijn32tab)] }
def WholeNamesSaid : Prop := wholeNamesRow.holds Tryd.pinned (OpenSpec.ofChange wholeNamesSpec)

/-- ITS FALSE NEIGHBOUR: 'it returns false'. Refute it at one input. -/
def wholeNamesWrong : ChangeSpec := { name := "wholeNames", fn := fun _ => fun
  | [] => { results := [.lit (.bool false)], args := [] }
  | _ => none }
def WholeNamesWrongFalsely : Prop := wholeNamesRow.holds Tryd.pinned (OpenSpec.ofChange wholeNamesWrong)

/-- 'trivetlaw01.WholeFloats': WHATEVER THE INPUT: true; the input reads as it did. -/
def wholeFloatsSpec : ChangeSpec := { name := "wholeFloats", fn := fun _ => fun
  | [d1, d2] => { results := [.lit (.bool true)], args := [d1, d2] }
  | _ => none }
def wholeFloatsRow : OpenClaim := { program := "ytiiipgbfhcbjdaadoor", sum := "d16660bda2434a89f99af200c8d889fdb2a1b97be410d572587d7fe5efb1bdd3", func := "trivet/trivetlaw01.WholeFloats", spec := "wholeFloats", inPlace := ["math.Float64bits", "math.Float64frombits"], recurses := true, named := ["math/bits.deBruijn32tab"], apart := false, laid := [("math/bits.deBruijn32tab", laid_math_bits_deBruijn32tab)] }
def WholeFloatsSaid : Prop := wholeFloatsRow.holds Tryd.pinned (OpenSpec.ofChange wholeFloatsSpec)

/-- ITS FALSE NEIGHBOUR: 'it returns false'. Refute it at one input. -/
def wholeFloatsWrong : ChangeSpec := { name := "wholeFloats", fn := fun _ => fun
  | [d1, d2] => { results := [.lit (.bool false)], args := [d1, d2] }
  | _ => none }
def WholeFloatsWrongFalsely : Prop := wholeFloatsRow.holds Tryd.pinned (OpenSpec.ofChange wholeFloatsWrong)

/-- 'trivetlaw01.WholeReckons': WHATEVER THE INPUT: true; the input reads as it did. -/
def wholeReckonsSpec : ChangeSpec := { name := "wholeReckons", fn := fun _ => fun
  | [d] => { results := [.lit (.bool true)], args := [d] }
  | _ => none }
def wholeReckonsRow : OpenClaim := { program := "ytiiipgbfhcbjdaadoor", sum := "d16660bda2434a89f99af200c8d889fdb2a1b97be410d572587d7fe5efb1bdd3", func := "trivet/trivetlaw01.WholeReckons", spec := "wholeReckons", inPlace := ["math.Float64bits", "math.Float64frombits"], recurses := true, named := ["math/bits.deBruijn32tab"], apart := false, laid := [("math/bits.deBruijn32tab", laid_math_bits_deBruijn32tab)] }
def WholeReckonsSaid : Prop := wholeReckonsRow.holds Tryd.pinned (OpenSpec.ofChange wholeReckonsSpec)

/-- ITS FALSE NEIGHBOUR: 'it returns false'. Refute it at one input. -/
def wholeReckonsWrong : ChangeSpec := { name := "wholeReckons", fn := fun _ => fun
  | [d] => { results := [.lit (.bool false)], args := [d] }
  | _ => none }
def WholeReckonsWrongFalsely : Prop := wholeReckonsRow.holds Tryd.pinned (OpenSpec.ofChange wholeReckonsWrong)

/- THE SECOND FORM. 'bulk': how many values and letters a reading holds, each counted each time it is reached (what is shared counts as often as it is met; a slice's spare places count too). A statement '..UptoSaid' is the law's where the arguments, and the package variables that the reading takes, are together of bulk at most 1048576: NARROWER than '..Said'. Prove '..Said' where nothing that the law and all that it calls make is longer than what came in: it says more and counts as full. Else prove '..UptoSaid'. A law counts once. -/
mutual
def uptoBulk {H : Type} : DataW H → Nat
  | .lit (.string bytes) => bytes.length + 1
  | .lit _ => 1
  | .nil => 1
  | .ptr d => uptoBulk d + 1
  | .slice elems spare => uptoBulkAll elems + uptoBulkAll spare + 1
  | .agg parts => uptoBulkAll parts + 1
  | .iface _ d => uptoBulk d + 1
  | .map entries => uptoBulkEntries entries + 1
  | .held _ => 1
def uptoBulkAll {H : Type} : List (DataW H) → Nat
  | [] => 0
  | d :: r => uptoBulk d + uptoBulkAll r
def uptoBulkEntries {H : Type} : List (Lit × DataW H) → Nat
  | [] => 0
  | x :: r => uptoBulkEntry x + uptoBulkEntries r
def uptoBulkEntry {H : Type} : Lit × DataW H → Nat
  | (.string bytes, d) => bytes.length + uptoBulk d + 1
  | (_, d) => uptoBulk d + 1
 end
def uptoSmall : (H : Type) → List (DataW H) → Bool := fun _ ds => decide (uptoBulkAll ds ≤ 1048576)
def OpenSpec.upto (s : _root_.Go.ChangeSpec) : _root_.Go.OpenSpec := { _root_.Go.OpenSpec.ofChange s with cond := some uptoSmall }

/-- 'trivetlaw01.WholeRing', WHERE WHAT IT READS IS OF BULK AT MOST 1048576: true; the input reads as it did. -/
def wholeRingUptoRow : OpenClaim := { program := "ytiiipgbfhcbjdaadoor", sum := "d16660bda2434a89f99af200c8d889fdb2a1b97be410d572587d7fe5efb1bdd3", func := "trivet/trivetlaw01.WholeRing", spec := "wholeRing", inPlace := ["math.Float64bits", "math.Float64frombits"], named := ["math/bits.deBruijn32tab"], apart := false, laid := [("math/bits.deBruijn32tab", laid_math_bits_deBruijn32tab)], narrowed := true }
def WholeRingUptoSaid : Prop := wholeRingUptoRow.holds Tryd.pinned (OpenSpec.upto wholeRingSpec)

/-- 'trivetlaw01.WholeOrder', WHERE WHAT IT READS IS OF BULK AT MOST 1048576: true; the input reads as it did. -/
def wholeOrderUptoRow : OpenClaim := { program := "ytiiipgbfhcbjdaadoor", sum := "d16660bda2434a89f99af200c8d889fdb2a1b97be410d572587d7fe5efb1bdd3", func := "trivet/trivetlaw01.WholeOrder", spec := "wholeOrder", inPlace := ["math.Float64bits", "math.Float64frombits"], named := ["math/bits.deBruijn32tab"], apart := false, laid := [("math/bits.deBruijn32tab", laid_math_bits_deBruijn32tab)], narrowed := true }
def WholeOrderUptoSaid : Prop := wholeOrderUptoRow.holds Tryd.pinned (OpenSpec.upto wholeOrderSpec)

/-- 'trivetlaw01.WholeNames', WHERE WHAT IT READS IS OF BULK AT MOST 1048576: true; the input reads as it did. -/
def wholeNamesUptoRow : OpenClaim := { program := "ytiiipgbfhcbjdaadoor", sum := "d16660bda2434a89f99af200c8d889fdb2a1b97be410d572587d7fe5efb1bdd3", func := "trivet/trivetlaw01.WholeNames", spec := "wholeNames", inPlace := ["math.Float64bits", "math.Float64frombits"], named := ["math/bits.deBruijn32tab"], apart := false, laid := [("math/bits.deBruijn32tab", laid_math_bits_deBruijn32tab)], narrowed := true }
def WholeNamesUptoSaid : Prop := wholeNamesUptoRow.holds Tryd.pinned (OpenSpec.upto wholeNamesSpec)

/-- 'trivetlaw01.WholeFloats', WHERE WHAT IT READS IS OF BULK AT MOST 1048576: true; the input reads as it did. -/
def wholeFloatsUptoRow : OpenClaim := { program := "ytiiipgbfhcbjdaadoor", sum := "d16660bda2434a89f99af200c8d889fdb2a1b97be410d572587d7fe5efb1bdd3", func := "trivet/trivetlaw01.WholeFloats", spec := "wholeFloats", inPlace := ["math.Float64bits", "math.Float64frombits"], recurses := true, named := ["math/bits.deBruijn32tab"], apart := false, laid := [("math/bits.deBruijn32tab", laid_math_bits_deBruijn32tab)], narrowed := true }
def WholeFloatsUptoSaid : Prop := wholeFloatsUptoRow.holds Tryd.pinned (OpenSpec.upto wholeFloatsSpec)

/-- 'trivetlaw01.WholeReckons', WHERE WHAT IT READS IS OF BULK AT MOST 1048576: true; the input reads as it did. -/
def wholeReckonsUptoRow : OpenClaim := { program := "ytiiipgbfhcbjdaadoor", sum := "d16660bda2434a89f99af200c8d889fdb2a1b97be410d572587d7fe5efb1bdd3", func := "trivet/trivetlaw01.WholeReckons", spec := "wholeReckons", inPlace := ["math.Float64bits", "math.Float64frombits"], recurses := true, named := ["math/bits.deBruijn32tab"], apart := false, laid := [("math/bits.deBruijn32tab", laid_math_bits_deBruijn32tab)], narrowed := true }
def WholeReckonsUptoSaid : Prop := wholeReckonsUptoRow.holds Tryd.pinned (OpenSpec.upto wholeReckonsSpec)

end Rows
end Go.Proofs.YtiiipgbfhcbjdaaDoor
