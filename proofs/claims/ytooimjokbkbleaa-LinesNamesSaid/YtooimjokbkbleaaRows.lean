/-
  No cell of these rows narrows 'for every input' (looked for: loops, veiled, ifaces, maps, wideKeys, modest, calm, conditions, laid).
  DERIVED. THE GIVEN ROWS OF THIS SEAT. 5 by the template 'for every input the law returns true; each argument reads behind the call as it read before'; 0 by the template 'total and deterministic' (their statements: YtooimjokbkbleaaTotals.lean).
  GIVEN WITH THE SEED: the statements are not yours to turn. If you find one false, say at which input.
  Laid BY PROGRAM, IN A SANDBOX (cutbox-rows.mjs): the forced cells as the released guide's own fill.sh prints them over the translation bbcbe5ace336c3eb… (all of the seat's roots in one cut). By AI agents, Wed Nov 11 2026. No macro, syntax, notation, axiom, sorry.
-/
import Derived.Test.YtooimjokbkbleaaChecked
import GoSem.Claim
import GoSem.ClaimJoined
import GoSem.ClaimMapViews
import Derived.JoinedTies
import Derived.KernelRfl
namespace Go.Proofs.Ytooimjokbkbleaa
/- THE CELL 'sum', in the pinned program and in every row, IS THE sha256 OF THE DUMP (.gsa) THAT YtooimjokbkbleaaProg.lean LOADS. Nothing in Lean hashes anything: it is a label: what it is worth is what the hold of that sum in a sandbox is worth. -/
noncomputable def Try.pinned : Pinned := { name := "ytooimjokbkbleaa", sum := "bbcbe5ace336c3eb66f751e8ed0ee7d0222b278454ba4f6ca961347e8127f2ab", checked := Try.checked }
namespace Rows
def none {H : Type} : Left H := { results := [], args := [] }

/-- 'trivetlaw09.LinesWrite': WHATEVER THE INPUT: true; the input reads as it did. -/
def linesWriteSpec : ChangeSpec := { name := "linesWrite", fn := fun _ => fun
  | [d] => { results := [.lit (.bool true)], args := [d] }
  | _ => none }
def linesWriteRow : OpenClaim := { program := "ytooimjokbkbleaa", sum := "bbcbe5ace336c3eb66f751e8ed0ee7d0222b278454ba4f6ca961347e8127f2ab", func := "trivet/trivetlaw09.LinesWrite", spec := "linesWrite", inPlace := ["internal/abi.NoEscape"], apart := false }
def LinesWriteSaid : Prop := linesWriteRow.holds Try.pinned (OpenSpec.ofChange linesWriteSpec)

/-- ITS FALSE NEIGHBOUR: 'it returns false'. Refute it at one input. -/
def linesWriteWrong : ChangeSpec := { name := "linesWrite", fn := fun _ => fun
  | [d] => { results := [.lit (.bool false)], args := [d] }
  | _ => none }
def LinesWriteWrongFalsely : Prop := linesWriteRow.holds Try.pinned (OpenSpec.ofChange linesWriteWrong)

/-- 'trivetlaw09.LinesRead': WHATEVER THE INPUT: true; the input reads as it did. -/
def linesReadSpec : ChangeSpec := { name := "linesRead", fn := fun _ => fun
  | [d] => { results := [.lit (.bool true)], args := [d] }
  | _ => none }
def linesReadRow : OpenClaim := { program := "ytooimjokbkbleaa", sum := "bbcbe5ace336c3eb66f751e8ed0ee7d0222b278454ba4f6ca961347e8127f2ab", func := "trivet/trivetlaw09.LinesRead", spec := "linesRead", inPlace := ["internal/bytealg.IndexByteString", "internal/bytealg.IndexString"], unfollowed := true, recurses := true, named := ["internal/bytealg.MaxLen"], apart := false }
def LinesReadSaid : Prop := linesReadRow.holds Try.pinned (OpenSpec.ofChange linesReadSpec)

/-- ITS FALSE NEIGHBOUR: 'it returns false'. Refute it at one input. -/
def linesReadWrong : ChangeSpec := { name := "linesRead", fn := fun _ => fun
  | [d] => { results := [.lit (.bool false)], args := [d] }
  | _ => none }
def LinesReadWrongFalsely : Prop := linesReadRow.holds Try.pinned (OpenSpec.ofChange linesReadWrong)

/-- 'trivetlaw09.LinesNames': WHATEVER THE INPUT: true; the input reads as it did. -/
def linesNamesSpec : ChangeSpec := { name := "linesNames", fn := fun _ => fun
  | [] => { results := [.lit (.bool true)], args := [] }
  | _ => none }
def linesNamesRow : OpenClaim := { program := "ytooimjokbkbleaa", sum := "bbcbe5ace336c3eb66f751e8ed0ee7d0222b278454ba4f6ca961347e8127f2ab", func := "trivet/trivetlaw09.LinesNames", spec := "linesNames", inPlace := ["internal/bytealg.IndexByteString", "internal/bytealg.IndexString", "internal/abi.NoEscape"], unfollowed := true, recurses := true, named := ["internal/bytealg.MaxLen"], apart := false }
def LinesNamesSaid : Prop := linesNamesRow.holds Try.pinned (OpenSpec.ofChange linesNamesSpec)

/-- ITS FALSE NEIGHBOUR: 'it returns false'. Refute it at one input. -/
def linesNamesWrong : ChangeSpec := { name := "linesNames", fn := fun _ => fun
  | [] => { results := [.lit (.bool false)], args := [] }
  | _ => none }
def LinesNamesWrongFalsely : Prop := linesNamesRow.holds Try.pinned (OpenSpec.ofChange linesNamesWrong)

/-- 'trivetlaw09.LinesBack': WHATEVER THE INPUT: true; the input reads as it did. -/
def linesBackSpec : ChangeSpec := { name := "linesBack", fn := fun _ => fun
  | [d1, d2] => { results := [.lit (.bool true)], args := [d1, d2] }
  | _ => none }
def linesBackRow : OpenClaim := { program := "ytooimjokbkbleaa", sum := "bbcbe5ace336c3eb66f751e8ed0ee7d0222b278454ba4f6ca961347e8127f2ab", func := "trivet/trivetlaw09.LinesBack", spec := "linesBack", inPlace := ["internal/bytealg.IndexByteString", "internal/bytealg.IndexString", "internal/abi.NoEscape"], unfollowed := true, recurses := true, named := ["internal/bytealg.MaxLen"], apart := false }
def LinesBackSaid : Prop := linesBackRow.holds Try.pinned (OpenSpec.ofChange linesBackSpec)

/-- ITS FALSE NEIGHBOUR: 'it returns false'. Refute it at one input. -/
def linesBackWrong : ChangeSpec := { name := "linesBack", fn := fun _ => fun
  | [d1, d2] => { results := [.lit (.bool false)], args := [d1, d2] }
  | _ => none }
def LinesBackWrongFalsely : Prop := linesBackRow.holds Try.pinned (OpenSpec.ofChange linesBackWrong)

/-- 'trivetlaw09.LinesBlanks': WHATEVER THE INPUT: true; the input reads as it did. -/
def linesBlanksSpec : ChangeSpec := { name := "linesBlanks", fn := fun _ => fun
  | [d1, d2, d3] => { results := [.lit (.bool true)], args := [d1, d2, d3] }
  | _ => none }
def linesBlanksRow : OpenClaim := { program := "ytooimjokbkbleaa", sum := "bbcbe5ace336c3eb66f751e8ed0ee7d0222b278454ba4f6ca961347e8127f2ab", func := "trivet/trivetlaw09.LinesBlanks", spec := "linesBlanks", inPlace := ["internal/bytealg.IndexByteString", "internal/bytealg.IndexString", "internal/abi.NoEscape"], unfollowed := true, recurses := true, named := ["internal/bytealg.MaxLen"], apart := false }
def LinesBlanksSaid : Prop := linesBlanksRow.holds Try.pinned (OpenSpec.ofChange linesBlanksSpec)

/-- ITS FALSE NEIGHBOUR: 'it returns false'. Refute it at one input. -/
def linesBlanksWrong : ChangeSpec := { name := "linesBlanks", fn := fun _ => fun
  | [d1, d2, d3] => { results := [.lit (.bool false)], args := [d1, d2, d3] }
  | _ => none }
def LinesBlanksWrongFalsely : Prop := linesBlanksRow.holds Try.pinned (OpenSpec.ofChange linesBlanksWrong)

/- THE SECOND FORM. 'bulk': how many values and letters a reading holds, each counted each time it is reached (what is shared counts as often as it is met; a slice's spare places count too). A statement '..UptoSaid' is the law's where the arguments, and the package variables that the reading takes, are together of bulk at most 1048576: NARROWER than '..Said'. Prove '..Said' where nothing that the law and all that it calls make is longer than what came in: it says more and counts as full. Else prove '..UptoSaid'. A law counts once. -/
mutual
def uptoBulk {H : Type} : DataW H → Nat
  | .lit (.string bytes) => bytes.length + 1
  | .lit _ => 1
  | .nil => 1
  | .ptr d => uptoBulk d + 1
  | .slice elems spare => uptoBulkAll elems + uptoBulkAll spare + 1
  | .agg parts => uptoBulkAll parts + 1
  | .iface _ d => uptoBulk d + 1
  | .map entries => uptoBulkEntries entries + 1
  | .held _ => 1
def uptoBulkAll {H : Type} : List (DataW H) → Nat
  | [] => 0
  | d :: r => uptoBulk d + uptoBulkAll r
def uptoBulkEntries {H : Type} : List (Lit × DataW H) → Nat
  | [] => 0
  | x :: r => uptoBulkEntry x + uptoBulkEntries r
def uptoBulkEntry {H : Type} : Lit × DataW H → Nat
  | (.string bytes, d) => bytes.length + uptoBulk d + 1
  | (_, d) => uptoBulk d + 1
 end
def uptoSmall : (H : Type) → List (DataW H) → Bool := fun _ ds => decide (uptoBulkAll ds ≤ 1048576)
def OpenSpec.upto (s : _root_.Go.ChangeSpec) : _root_.Go.OpenSpec := { _root_.Go.OpenSpec.ofChange s with cond := some uptoSmall }

/-- 'trivetlaw09.LinesWrite', WHERE WHAT IT READS IS OF BULK AT MOST 1048576: true; the input reads as it did. -/
def linesWriteUptoRow : OpenClaim := { program := "ytooimjokbkbleaa", sum := "bbcbe5ace336c3eb66f751e8ed0ee7d0222b278454ba4f6ca961347e8127f2ab", func := "trivet/trivetlaw09.LinesWrite", spec := "linesWrite", inPlace := ["internal/abi.NoEscape"], apart := false, narrowed := true }
def LinesWriteUptoSaid : Prop := linesWriteUptoRow.holds Try.pinned (OpenSpec.upto linesWriteSpec)

/-- 'trivetlaw09.LinesRead', WHERE WHAT IT READS IS OF BULK AT MOST 1048576: true; the input reads as it did. -/
def linesReadUptoRow : OpenClaim := { program := "ytooimjokbkbleaa", sum := "bbcbe5ace336c3eb66f751e8ed0ee7d0222b278454ba4f6ca961347e8127f2ab", func := "trivet/trivetlaw09.LinesRead", spec := "linesRead", inPlace := ["internal/bytealg.IndexByteString", "internal/bytealg.IndexString"], unfollowed := true, recurses := true, named := ["internal/bytealg.MaxLen"], apart := false, narrowed := true }
def LinesReadUptoSaid : Prop := linesReadUptoRow.holds Try.pinned (OpenSpec.upto linesReadSpec)

/-- 'trivetlaw09.LinesNames', WHERE WHAT IT READS IS OF BULK AT MOST 1048576: true; the input reads as it did. -/
def linesNamesUptoRow : OpenClaim := { program := "ytooimjokbkbleaa", sum := "bbcbe5ace336c3eb66f751e8ed0ee7d0222b278454ba4f6ca961347e8127f2ab", func := "trivet/trivetlaw09.LinesNames", spec := "linesNames", inPlace := ["internal/bytealg.IndexByteString", "internal/bytealg.IndexString", "internal/abi.NoEscape"], unfollowed := true, recurses := true, named := ["internal/bytealg.MaxLen"], apart := false, narrowed := true }
def LinesNamesUptoSaid : Prop := linesNamesUptoRow.holds Try.pinned (OpenSpec.upto linesNamesSpec)

/-- 'trivetlaw09.LinesBack', WHERE WHAT IT READS IS OF BULK AT MOST 1048576: true; the input reads as it did. -/
def linesBackUptoRow : OpenClaim := { program := "ytooimjokbkbleaa", sum := "bbcbe5ace336c3eb66f751e8ed0ee7d0222b278454ba4f6ca961347e8127f2ab", func := "trivet/trivetlaw09.LinesBack", spec := "linesBack", inPlace := ["internal/bytealg.IndexByteString", "internal/bytealg.IndexString", "internal/abi.NoEscape"], unfollowed := true, recurses := true, named := ["internal/bytealg.MaxLen"], apart := false, narrowed := true }
def LinesBackUptoSaid : Prop := linesBackUptoRow.holds Try.pinned (OpenSpec.upto linesBackSpec)

/-- 'trivetlaw09.LinesBlanks', WHERE WHAT IT READS IS OF BULK AT MOST 1048576: true; the input reads as it did. -/
def linesBlanksUptoRow : OpenClaim := { program := "ytooimjokbkbleaa", sum := "bbcbe5ace336c3eb66f751e8ed0ee7d0222b278454ba4f6ca961347e8127f2ab", func := "trivet/trivetlaw09.LinesBlanks", spec := "linesBlanks", inPlace := ["internal/bytealg.IndexByteString", "internal/bytealg.IndexString", "internal/abi.NoEscape"], unfollowed := true, recurses := true, named := ["internal/bytealg.MaxLen"], apart := false, narrowed := true }
def LinesBlanksUptoSaid : Prop := linesBlanksUptoRow.holds Try.pinned (OpenSpec.upto linesBlanksSpec)

end Rows
end Go.Proofs.Ytooimjokbkbleaa
