/- math.Trunc and circle.may, walked. -/
import Derived.Test.YtiiipgbfhcbjdaaTrC
import Derived.Test.YtiiipgbfhcbjdaaAbsC
namespace Go.Proofs.Ytiiipgbfhcbjdaa
open Go.RowKit TV
set_option linter.unusedVariables false

theorem toInt_num (x : Nat) (s : Bool) (m : Nat) (i : Int) (h1 : Ieee.double.read x = .number s m i) : Extern.MathFloor.toIntegral "math.archTrunc" .zero #[.float .f64 x] = pure (.float .f64 (Ieee.double.write ((Ieee.Datum.number s m i).integral .zero))) := by
  change (match Ieee.double.read x with | .nan s t => (_ : Sem Value) | d => (pure (Value.float .f64 (Ieee.double.write (d.integral .zero))) : Sem Value)) = _
  rw [h1]
theorem callTrunc (x : Nat) (hx : rung x < inf) (w : World) : (callFunc 31 #[.float .f64 x]).run Try.prog w = .ok (.value (.float .f64 (trF x))) w := by
  obtain ⟨m, k, h1, -⟩ := read_fin hx
  have h2 : (callFunc 31 #[.float .f64 x]).run Try.prog w = (Extern.MathFloor.toIntegral "math.archTrunc" .zero #[.float .f64 x] >>= fun v => pure (Next.value v)).run Try.prog w := by kernel_rfl
  rw [h2, toInt_num x _ _ _ h1]
  unfold trF
  rw [h1]
  rfl

theorem trunc_calls (x : Nat) (hx : rung x < inf) (w : World) :
    Calls Try.prog 29 #[.float .f64 x] w fun e w' => e = .returned (.float .f64 (trF x)) ∧ w = w' := by
  have h1 := fun (w : World) => callTrunc x hx w
  clear hx
  go_enter Try.func29, Try.ntmps29
  go_wp2
  go_ret
  exact ⟨rfl, rfl⟩

theorem le_nots {x C : Nat} {t : Bool} (h : (Ieee.double.order x C == some .lt || Ieee.double.order x C == some .eq) = t) :
    (FloatKind.f64.format.order x C == some .lt || FloatKind.f64.format.order x C == some .eq) = t ∧ (!(FloatKind.f64.format.order x C == some .lt) && !(FloatKind.f64.format.order x C == some .eq)) = !t := by
  change (FloatKind.f64.format.order x C == some .lt || FloatKind.f64.format.order x C == some .eq) = t at h
  refine ⟨h, ?_⟩
  rw [← h, Bool.not_or]

theorem may_calls (x : Nat) (hx : x < 18446744073709551616) (w : World) :
    Calls Try.prog 17 #[.float .f64 x] w fun e w' => e = .returned (.bool (mayB x)) ∧ w = w' := by
  have hle := le_pos (C := C100) (rung_lt x) (by decide)
  by_cases h : rung x ≤ C100
  · obtain ⟨h1, h2, h3, h4⟩ := may_step h
    rw [decide_eq_true h] at hle
    obtain ⟨hle1, hle2⟩ := le_nots hle
    simp only [Bool.not_true] at hle2
    have h5 : mayB x = feq (fmul x C100) (trF (fmul x C100)) := by rw [h4]; unfold mayB; rw [decide_eq_true h, Bool.true_and]
    rw [h5]
    have h6 := some_of h1
    unfold C100 at *
    clear h1 h4 h5 h
    go_enter Try.func17, Try.ntmps17
    go_wp2_with (first | (go_at_call 10; refine (abs_calls _ hx _).mono ?_; rintro e w' ⟨rfl, rfl⟩) | (go_at_call 29; refine (trunc_calls _ h3 _).mono ?_; rintro e w' ⟨rfl, rfl⟩))
    go_ret
    exact ⟨rfl, rfl⟩
  · rw [decide_eq_false h] at hle
    obtain ⟨hle1, hle2⟩ := le_nots hle
    obtain ⟨q1, q2⟩ := Bool.or_eq_false_iff.1 hle1
    have h5 : mayB x = false := by unfold mayB; rw [decide_eq_false h, Bool.false_and]
    rw [h5]
    unfold C100 at *
    have q3 : (!(FloatKind.f64.format.order (rung x) 5057542381537067008 == some Ordering.lt)) = true := by rw [q1]; rfl
    have q4 : (!(FloatKind.f64.format.order (rung x) 5057542381537067008 == some Ordering.eq)) = true := by rw [q2]; rfl
    clear h5 h hle hle1 hle2
    go_enter Try.func17, Try.ntmps17
    go_wp2_with (go_at_call 10; refine (abs_calls _ hx _).mono ?_; rintro e w' ⟨rfl, rfl⟩)
    go_ret
    exact ⟨rfl, rfl⟩

end Go.Proofs.Ytiiipgbfhcbjdaa
