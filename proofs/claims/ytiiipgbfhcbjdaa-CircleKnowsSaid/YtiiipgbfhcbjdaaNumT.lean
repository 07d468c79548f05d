/- Reference numbers, wherever their digits lie. -/
import Derived.Test.YtiiipgbfhcbjdaaWkV
namespace Go.Proofs.Ytiiipgbfhcbjdaa
open Go.RowKit TV
set_option linter.unusedVariables false

/-- The same, wherever the digits lie. -/
def NumT (w : World) (v : Value) (k : Nat) (q : Rat) : Prop := NumV (fun _ => True) w v k q
def RetT (k : Nat) (q : Rat) (w : World) (x : Ending) (w' : World) : Prop := ∃ v, x = .returned v ∧ NumT w' v k q ∧ Below w.heap.size w w'
theorem RetN.t {P : Nat → Prop} {k : Nat} {q : Rat} {w : World} {x : Ending} {w' : World} (h : RetN P k q w x w') : RetT k q w x w' := by
  obtain ⟨v, h1, h2, h3⟩ := h; exact ⟨v, h1, h2.mono fun _ _ => trivial, h3⟩
theorem NumT.keep {w w1 : World} {v : Value} {k : Nat} {q : Rat} (h : NumT w v k q) (hb : Below w.heap.size w w1) : NumT w1 v k q := NumV.keep h hb
theorem NumT.more {w : World} {v : Value} {k k' : Nat} {q : Rat} (h : NumT w v k q) (hk : k ≤ k') : NumT w v k' q := NumV.more h hk

theorem ofT (x : Nat) (hx : x < 18446744073709551616) (w : World) : Calls Try.prog 20 #[.float .f64 x] w (RetT 2000 (ov x) w) := (ofN x hx w).mono fun _ _ h => h.t
theorem addT {w : World} {x y : Value} {k : Nat} {p q : Rat} (hx : NumT w x k p) (hy : NumT w y k q) (hk : k ≤ 900000000) : Calls Try.prog 13 #[x, y] w (RetT (k + 1) (p + q) w) := (addN hx hy hk).mono fun _ _ h => h.t
theorem mulT {w : World} {x y : Value} {k j : Nat} {p q : Rat} (hx : NumT w x k p) (hy : NumT w y j q) (hk : k ≤ 900000000) (hj : j ≤ 900000000) : Calls Try.prog 14 #[x, y] w (RetT (k + j) (p * q) w) := (mulN hx hy hk hj).mono fun _ _ h => h.t
theorem cmpT {w : World} {x y : Value} {k : Nat} {p q : Rat} (hx : NumT w x k p) (hy : NumT w y k q) (hk : k ≤ 900000000) :
    Calls Try.prog 21 #[x, y] w fun r w' => r = .returned (.int .i64 (rs (p - q))) ∧ Below w.heap.size w w' := cmpN hx hy hk

end Go.Proofs.Ytiiipgbfhcbjdaa
