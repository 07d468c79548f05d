/- Arguments that are slices of floats, opened; the functions of package expand at a list of no floats that came in. -/
import Derived.Test.YtjogclokjonkeaaDoorArg
import Derived.Test.YtjogclokjonkeaaDoorWiH
import Derived.Test.YtjogclokjonkeaaDoorEwQ
namespace Go.Proofs.YtjogclokjonkeaaDoor
open Go.RowKit Go.Deep Go.WideShapes Go.ChangeShapes TV
set_option linter.unusedVariables false

section
variable {H : Type} {enc : TypeId × Value → H} {P : Program} {W : World} {held : Bool}
theorem open_sa_floats {t e : TypeId} (ht : P.underlying t = some (.slice e)) (hs : P.underlying e = some (.float .f64)) (hc : P.cellsOf e = 1) {v : Value} {d : DataW H} {ps : List MemPlace}
    (h : ∃ n, DataW.trod enc P W 0 (fun _ => true) held n t [v] = some (d, ps)) (hw : ∀ n ∈ d.weights P t, n ≤ reachBytes) :
    ∃ l : List Nat, Sa W v (fvs l) ∧ l.length * P.bytesOf e ≤ reachBytes ∧ ∀ x ∈ l, x < 18446744073709551616 := by
  refine open_sa (g := Value.float .f64) (Q := fun x => x < 18446744073709551616) ht hc h hw fun V D Pl n hV hwV => ?_
  obtain ⟨x, h1, h2, h3⟩ := trod_floatX hs hV
  simp only [List.cons.injEq, and_true] at h1
  exact ⟨x, h1, float_wf h3⟩
end
theorem Sa.toSl {w : World} {v : Value} {l : List Nat} (h : Sa w v (fvs l)) (h0 : l ≠ []) : Sl w v (fvs l) := by
  obtain ⟨p, cap, rfl, hc, h3⟩ := h
  have hl : 0 < (fvs l).length := by rw [show (fvs l).length = l.length by simp [fvs]]; exact List.length_pos_iff.2 h0
  obtain ⟨b, o, rfl, hb, -⟩ := h3 0 hl
  exact Or.inr ⟨b, o, cap, rfl, hc, hb, fun i hi => by
    obtain ⟨b', o', e, -, h⟩ := h3 i hi
    simp only [Option.some.injEq, Addr.mk.injEq, and_true] at e
    obtain ⟨rfl, rfl⟩ := e
    exact h⟩
theorem Sa.formL {w : World} {v : Value} {l : List Nat} (h : Sa w v (fvs l)) : ∃ p cap, v = .slice p l.length cap := by
  obtain ⟨p, cap, h⟩ := h.form; rw [show (fvs l).length = l.length by simp [fvs]] at h; exact ⟨p, cap, h⟩

/-! ### A list of no floats -/
theorem all_nil (p : Option Addr) (cap a b : Nat) (w : World) : Calls Tryd.prog 42 #[.slice p 0 cap, .float .f64 a, .float .f64 b] w fun x w' => x = .returned (.bool true) ∧ w = w' := by
  go_enter Tryd.func42, Tryd.ntmps42
  go_wp2_with fail
  go_loopw [7, 8, 14] (fun _ _ iv wr => iv = .int .i64 0 ∧ wr = w) (fun _ _ _ _ => 0)
  case atStart => exact ⟨rfl, rfl⟩
  case round =>
    obtain ⟨rfl, rfl⟩ := hrel
    go_wp2_with fail
    go_ret
    exact ⟨rfl, rfl⟩
theorem check_nil (p : Option Addr) (cap : Nat) (w : World) : Calls Tryd.prog 18 #[.slice p 0 cap] w fun x w' => x = .returned (.bool true) ∧ w = w' := by
  go_enter Tryd.func18, Tryd.ntmps18
  go_wp2_with (go_at_call 42; refine (all_nil _ _ _ _ _).mono ?_; rintro x w1 ⟨rfl, rfl⟩)
  go_ret
  exact ⟨rfl, rfl⟩
theorem sign_nil (p : Option Addr) (cap : Nat) (w : World) : Calls Tryd.prog 21 #[.slice p 0 cap] w fun x w' => x = .returned (.int .i64 0) ∧ w = w' := by
  go_enter Tryd.func21, Tryd.ntmps21
  go_wp2_with (go_at_call 18; refine (check_nil _ _ _).mono ?_; rintro x w1 ⟨rfl, rfl⟩)
  go_ret
  exact ⟨rfl, rfl⟩
set_option maxRecDepth 100000 in
theorem number2_nil (p : Option Addr) (cap : Nat) (w : World) : Calls Tryd.prog 36 #[.slice p 0 cap] w (RetB 0 0 0 w) := by
  obtain ⟨W1, h1, B1, S1, J0, J1⟩ := box_num w (.cells #[.slice none 0 0, .int .i64 0, .bool false, .bool false] 53) (.cells #[.slice none 0 0, .int .i64 0, .bool false, .bool false] 53)
  go_enter Tryd.func36, Tryd.ntmps36
  go_wp2_with fail
  rw [← h1]
  clear h1
  go_loopw [4] (fun iv wr => iv = .int .i64 0 ∧ wr = W1) (fun _ _ => 0)
  case atStart => exact ⟨rfl, rfl⟩
  case round =>
    obtain ⟨rfl, rfl⟩ := hrel
    obtain ⟨q0, q1, q2, q3, -, -, -, -⟩ := res4_facts J1
    obtain ⟨r0, r1, r2, r3, f0, f1, f2, f3⟩ := res4_facts J0
    go_wp2_with fail
    obtain ⟨s0, s1, s2, s3⟩ := put4_facts J0 (.slice none 0 0) (.int .i64 0) (.bool false) (.bool false)
    refine bodyPost_ret (v := .agg #[.slice none 0 0, .int .i64 0, .bool false, .bool false]) (by simp [results, Tryd.results36, go_sem, s0, s1, s2, s3]) rfl ?_
    exact ⟨_, rfl, NumB.zero 0 _, bl_put4 B1 (Nat.le_refl _) _ _ _ _⟩
end Go.Proofs.YtjogclokjonkeaaDoor
