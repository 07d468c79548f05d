/- Package expand, walked: Check, Safe, Neg, Of. -/
import Derived.Test.YtjogclokjonkeaaDoorEwE
namespace Go.Proofs.YtjogclokjonkeaaDoor
open Go.RowKit TV
set_option linter.unusedVariables false

theorem check_calls {w : World} {v : Value} {l : List Nat} (hs : Sl w v (fvs l)) (hl : ∀ x ∈ l, x < 18446744073709551616) (hn : l.length ≤ 1000000000) :
    Calls Tryd.prog 18 #[v] w fun x w' => x = .returned (.bool (allB 1 9065746049896808448 l)) ∧ Below w.heap.size w w' := by
  have HA := Lib.hid (all_calls hs hl 1 9065746049896808448 (by decide) (by decide) (by decide) (fun x _ h => by have := inf_eq; omega) hn)
  obtain ⟨p, cap, rfl⟩ := hs.form
  go_enter Tryd.func18, Tryd.ntmps18
  go_wp2_with (go_at_call 42; refine HA.out.mono ?_; rintro x w1 ⟨rfl, hb⟩)
  go_ret
  exact ⟨rfl, hb⟩
theorem safe_calls2 {w : World} {v : Value} {l : List Nat} (hs : Sl w v (fvs l)) (hl : ∀ x ∈ l, x < 18446744073709551616) (hn : l.length ≤ 1000000000) :
    Calls Tryd.prog 19 #[v] w fun x w' => x = .returned (.bool (allB 2580562586483294208 6633802251116740608 l)) ∧ Below w.heap.size w w' := by
  have HA := Lib.hid (all_calls hs hl 2580562586483294208 6633802251116740608 (by decide) (by decide) (by decide) (fun x _ h => by have := inf_eq; omega) hn)
  obtain ⟨p, cap, rfl⟩ := hs.form
  go_enter Tryd.func19, Tryd.ntmps19
  go_wp2_with (go_at_call 42; refine HA.out.mono ?_; rintro x w1 ⟨rfl, hb⟩)
  go_ret
  exact ⟨rfl, hb⟩
end Go.Proofs.YtjogclokjonkeaaDoor
