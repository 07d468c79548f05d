/-
  No cell of these rows narrows 'for every input' (looked for: loops, veiled, ifaces, maps, wideKeys, modest, calm, conditions, laid).
  DERIVED. THE GIVEN ROWS OF THIS SEAT. 6 by the template 'for every input the law returns true; each argument reads behind the call as it read before'; 0 by the template 'total and deterministic' (their statements: YtojbheanfcdjoaaTotals.lean).
  GIVEN WITH THE SEED: the statements are not yours to turn. If you find one false, say at which input.
  Laid BY PROGRAM, IN A SANDBOX (cutbox-rows.mjs): the forced cells as the released guide's own fill.sh prints them over the translation b19fcbb1a7df8ee0… (all of the seat's roots in one cut). By AI agents, Wed Nov 11 2026. No macro, syntax, notation, axiom, sorry.
-/
import Derived.Test.YtojbheanfcdjoaaChecked
import GoSem.Claim
import GoSem.ClaimJoined
import GoSem.ClaimMapViews
import Derived.JoinedTies
import Derived.KernelRfl
namespace Go.Proofs.Ytojbheanfcdjoaa
/- THE CELL 'sum', in the pinned program and in every row, IS THE sha256 OF THE DUMP (.gsa) THAT YtojbheanfcdjoaaProg.lean LOADS. Nothing in Lean hashes anything: it is a label: what it is worth is what the hold of that sum in a sandbox is worth. -/
noncomputable def Try.pinned : Pinned := { name := "ytojbheanfcdjoaa", sum := "b19fcbb1a7df8ee053a30edb278994295c4310437f8d69c83530b345f6ee5f39", checked := Try.checked }
namespace Rows
def none {H : Type} : Left H := { results := [], args := [] }

/-- 'trivetlaw02.EftKinds': WHATEVER THE INPUT: true; the input reads as it did. -/
def eftKindsSpec : ChangeSpec := { name := "eftKinds", fn := fun _ => fun
  | [d] => { results := [.lit (.bool true)], args := [d] }
  | _ => none }
def eftKindsRow : OpenClaim := { program := "ytojbheanfcdjoaa", sum := "b19fcbb1a7df8ee053a30edb278994295c4310437f8d69c83530b345f6ee5f39", func := "trivet/trivetlaw02.EftKinds", spec := "eftKinds", inPlace := ["math.Float64bits", "math.Float64frombits"], unfollowed := true, recurses := true, apart := false }
def EftKindsSaid : Prop := eftKindsRow.holds Try.pinned (OpenSpec.ofChange eftKindsSpec)

/-- ITS FALSE NEIGHBOUR: 'it returns false'. Refute it at one input. -/
def eftKindsWrong : ChangeSpec := { name := "eftKinds", fn := fun _ => fun
  | [d] => { results := [.lit (.bool false)], args := [d] }
  | _ => none }
def EftKindsWrongFalsely : Prop := eftKindsRow.holds Try.pinned (OpenSpec.ofChange eftKindsWrong)

/-- 'trivetlaw02.EftRest': WHATEVER THE INPUT: true; the input reads as it did. -/
def eftRestSpec : ChangeSpec := { name := "eftRest", fn := fun _ => fun
  | [d1, d2] => { results := [.lit (.bool true)], args := [d1, d2] }
  | _ => none }
def eftRestRow : OpenClaim := { program := "ytojbheanfcdjoaa", sum := "b19fcbb1a7df8ee053a30edb278994295c4310437f8d69c83530b345f6ee5f39", func := "trivet/trivetlaw02.EftRest", spec := "eftRest", inPlace := ["math.Float64bits", "math.Float64frombits"], unfollowed := true, recurses := true, apart := false }
def EftRestSaid : Prop := eftRestRow.holds Try.pinned (OpenSpec.ofChange eftRestSpec)

/-- ITS FALSE NEIGHBOUR: 'it returns false'. Refute it at one input. -/
def eftRestWrong : ChangeSpec := { name := "eftRest", fn := fun _ => fun
  | [d1, d2] => { results := [.lit (.bool false)], args := [d1, d2] }
  | _ => none }
def EftRestWrongFalsely : Prop := eftRestRow.holds Try.pinned (OpenSpec.ofChange eftRestWrong)

/-- 'trivetlaw02.EftTurned': WHATEVER THE INPUT: true; the input reads as it did. -/
def eftTurnedSpec : ChangeSpec := { name := "eftTurned", fn := fun _ => fun
  | [d1, d2] => { results := [.lit (.bool true)], args := [d1, d2] }
  | _ => none }
def eftTurnedRow : OpenClaim := { program := "ytojbheanfcdjoaa", sum := "b19fcbb1a7df8ee053a30edb278994295c4310437f8d69c83530b345f6ee5f39", func := "trivet/trivetlaw02.EftTurned", spec := "eftTurned", inPlace := ["math.Float64bits", "math.Float64frombits"], unfollowed := true, recurses := true, apart := false }
def EftTurnedSaid : Prop := eftTurnedRow.holds Try.pinned (OpenSpec.ofChange eftTurnedSpec)

/-- ITS FALSE NEIGHBOUR: 'it returns false'. Refute it at one input. -/
def eftTurnedWrong : ChangeSpec := { name := "eftTurned", fn := fun _ => fun
  | [d1, d2] => { results := [.lit (.bool false)], args := [d1, d2] }
  | _ => none }
def EftTurnedWrongFalsely : Prop := eftTurnedRow.holds Try.pinned (OpenSpec.ofChange eftTurnedWrong)

/-- 'trivetlaw02.EftHalves': WHATEVER THE INPUT: true; the input reads as it did. -/
def eftHalvesSpec : ChangeSpec := { name := "eftHalves", fn := fun _ => fun
  | [d1, d2] => { results := [.lit (.bool true)], args := [d1, d2] }
  | _ => none }
def eftHalvesRow : OpenClaim := { program := "ytojbheanfcdjoaa", sum := "b19fcbb1a7df8ee053a30edb278994295c4310437f8d69c83530b345f6ee5f39", func := "trivet/trivetlaw02.EftHalves", spec := "eftHalves", inPlace := ["math.Float64bits", "math.Float64frombits"], unfollowed := true, recurses := true, apart := false }
def EftHalvesSaid : Prop := eftHalvesRow.holds Try.pinned (OpenSpec.ofChange eftHalvesSpec)

/-- ITS FALSE NEIGHBOUR: 'it returns false'. Refute it at one input. -/
def eftHalvesWrong : ChangeSpec := { name := "eftHalves", fn := fun _ => fun
  | [d1, d2] => { results := [.lit (.bool false)], args := [d1, d2] }
  | _ => none }
def EftHalvesWrongFalsely : Prop := eftHalvesRow.holds Try.pinned (OpenSpec.ofChange eftHalvesWrong)

/-- 'trivetlaw02.EftSums': WHATEVER THE INPUT: true; the input reads as it did. -/
def eftSumsSpec : ChangeSpec := { name := "eftSums", fn := fun _ => fun
  | [d1, d2] => { results := [.lit (.bool true)], args := [d1, d2] }
  | _ => none }
def eftSumsRow : OpenClaim := { program := "ytojbheanfcdjoaa", sum := "b19fcbb1a7df8ee053a30edb278994295c4310437f8d69c83530b345f6ee5f39", func := "trivet/trivetlaw02.EftSums", spec := "eftSums", inPlace := ["math.Float64bits", "math.Float64frombits"], unfollowed := true, recurses := true, apart := false }
def EftSumsSaid : Prop := eftSumsRow.holds Try.pinned (OpenSpec.ofChange eftSumsSpec)

/-- ITS FALSE NEIGHBOUR: 'it returns false'. Refute it at one input. -/
def eftSumsWrong : ChangeSpec := { name := "eftSums", fn := fun _ => fun
  | [d1, d2] => { results := [.lit (.bool false)], args := [d1, d2] }
  | _ => none }
def EftSumsWrongFalsely : Prop := eftSumsRow.holds Try.pinned (OpenSpec.ofChange eftSumsWrong)

/-- 'trivetlaw02.EftProducts': WHATEVER THE INPUT: true; the input reads as it did. -/
def eftProductsSpec : ChangeSpec := { name := "eftProducts", fn := fun _ => fun
  | [d1, d2] => { results := [.lit (.bool true)], args := [d1, d2] }
  | _ => none }
def eftProductsRow : OpenClaim := { program := "ytojbheanfcdjoaa", sum := "b19fcbb1a7df8ee053a30edb278994295c4310437f8d69c83530b345f6ee5f39", func := "trivet/trivetlaw02.EftProducts", spec := "eftProducts", inPlace := ["math.Float64bits", "math.Float64frombits"], unfollowed := true, recurses := true, apart := false }
def EftProductsSaid : Prop := eftProductsRow.holds Try.pinned (OpenSpec.ofChange eftProductsSpec)

/-- ITS FALSE NEIGHBOUR: 'it returns false'. Refute it at one input. -/
def eftProductsWrong : ChangeSpec := { name := "eftProducts", fn := fun _ => fun
  | [d1, d2] => { results := [.lit (.bool false)], args := [d1, d2] }
  | _ => none }
def EftProductsWrongFalsely : Prop := eftProductsRow.holds Try.pinned (OpenSpec.ofChange eftProductsWrong)

/- THE SECOND FORM. 'bulk': how many values and letters a reading holds, each counted each time it is reached (what is shared counts as often as it is met; a slice's spare places count too). A statement '..UptoSaid' is the law's where the arguments, and the package variables that the reading takes, are together of bulk at most 1048576: NARROWER than '..Said'. Prove '..Said' where nothing that the law and all that it calls make is longer than what came in: it says more and counts as full. Else prove '..UptoSaid'. A law counts once. -/
mutual
def uptoBulk {H : Type} : DataW H → Nat
  | .lit (.string bytes) => bytes.length + 1
  | .lit _ => 1
  | .nil => 1
  | .ptr d => uptoBulk d + 1
  | .slice elems spare => uptoBulkAll elems + uptoBulkAll spare + 1
  | .agg parts => uptoBulkAll parts + 1
  | .iface _ d => uptoBulk d + 1
  | .map entries => uptoBulkEntries entries + 1
  | .held _ => 1
def uptoBulkAll {H : Type} : List (DataW H) → Nat
  | [] => 0
  | d :: r => uptoBulk d + uptoBulkAll r
def uptoBulkEntries {H : Type} : List (Lit × DataW H) → Nat
  | [] => 0
  | x :: r => uptoBulkEntry x + uptoBulkEntries r
def uptoBulkEntry {H : Type} : Lit × DataW H → Nat
  | (.string bytes, d) => bytes.length + uptoBulk d + 1
  | (_, d) => uptoBulk d + 1
 end
def uptoSmall : (H : Type) → List (DataW H) → Bool := fun _ ds => decide (uptoBulkAll ds ≤ 1048576)
def OpenSpec.upto (s : _root_.Go.ChangeSpec) : _root_.Go.OpenSpec := { _root_.Go.OpenSpec.ofChange s with cond := some uptoSmall }

/-- 'trivetlaw02.EftKinds', WHERE WHAT IT READS IS OF BULK AT MOST 1048576: true; the input reads as it did. -/
def eftKindsUptoRow : OpenClaim := { program := "ytojbheanfcdjoaa", sum := "b19fcbb1a7df8ee053a30edb278994295c4310437f8d69c83530b345f6ee5f39", func := "trivet/trivetlaw02.EftKinds", spec := "eftKinds", inPlace := ["math.Float64bits", "math.Float64frombits"], unfollowed := true, recurses := true, apart := false, narrowed := true }
def EftKindsUptoSaid : Prop := eftKindsUptoRow.holds Try.pinned (OpenSpec.upto eftKindsSpec)

/-- 'trivetlaw02.EftRest', WHERE WHAT IT READS IS OF BULK AT MOST 1048576: true; the input reads as it did. -/
def eftRestUptoRow : OpenClaim := { program := "ytojbheanfcdjoaa", sum := "b19fcbb1a7df8ee053a30edb278994295c4310437f8d69c83530b345f6ee5f39", func := "trivet/trivetlaw02.EftRest", spec := "eftRest", inPlace := ["math.Float64bits", "math.Float64frombits"], unfollowed := true, recurses := true, apart := false, narrowed := true }
def EftRestUptoSaid : Prop := eftRestUptoRow.holds Try.pinned (OpenSpec.upto eftRestSpec)

/-- 'trivetlaw02.EftTurned', WHERE WHAT IT READS IS OF BULK AT MOST 1048576: true; the input reads as it did. -/
def eftTurnedUptoRow : OpenClaim := { program := "ytojbheanfcdjoaa", sum := "b19fcbb1a7df8ee053a30edb278994295c4310437f8d69c83530b345f6ee5f39", func := "trivet/trivetlaw02.EftTurned", spec := "eftTurned", inPlace := ["math.Float64bits", "math.Float64frombits"], unfollowed := true, recurses := true, apart := false, narrowed := true }
def EftTurnedUptoSaid : Prop := eftTurnedUptoRow.holds Try.pinned (OpenSpec.upto eftTurnedSpec)

/-- 'trivetlaw02.EftHalves', WHERE WHAT IT READS IS OF BULK AT MOST 1048576: true; the input reads as it did. -/
def eftHalvesUptoRow : OpenClaim := { program := "ytojbheanfcdjoaa", sum := "b19fcbb1a7df8ee053a30edb278994295c4310437f8d69c83530b345f6ee5f39", func := "trivet/trivetlaw02.EftHalves", spec := "eftHalves", inPlace := ["math.Float64bits", "math.Float64frombits"], unfollowed := true, recurses := true, apart := false, narrowed := true }
def EftHalvesUptoSaid : Prop := eftHalvesUptoRow.holds Try.pinned (OpenSpec.upto eftHalvesSpec)

/-- 'trivetlaw02.EftSums', WHERE WHAT IT READS IS OF BULK AT MOST 1048576: true; the input reads as it did. -/
def eftSumsUptoRow : OpenClaim := { program := "ytojbheanfcdjoaa", sum := "b19fcbb1a7df8ee053a30edb278994295c4310437f8d69c83530b345f6ee5f39", func := "trivet/trivetlaw02.EftSums", spec := "eftSums", inPlace := ["math.Float64bits", "math.Float64frombits"], unfollowed := true, recurses := true, apart := false, narrowed := true }
def EftSumsUptoSaid : Prop := eftSumsUptoRow.holds Try.pinned (OpenSpec.upto eftSumsSpec)

/-- 'trivetlaw02.EftProducts', WHERE WHAT IT READS IS OF BULK AT MOST 1048576: true; the input reads as it did. -/
def eftProductsUptoRow : OpenClaim := { program := "ytojbheanfcdjoaa", sum := "b19fcbb1a7df8ee053a30edb278994295c4310437f8d69c83530b345f6ee5f39", func := "trivet/trivetlaw02.EftProducts", spec := "eftProducts", inPlace := ["math.Float64bits", "math.Float64frombits"], unfollowed := true, recurses := true, apart := false, narrowed := true }
def EftProductsUptoSaid : Prop := eftProductsUptoRow.holds Try.pinned (OpenSpec.upto eftProductsSpec)

end Rows
end Go.Proofs.Ytojbheanfcdjoaa
