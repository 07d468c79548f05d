/- circle.good, walked. (Printed by gen_MyF.py.) -/
import Derived.Test.YtiiipgbfhcbjdaaMyA
import Derived.Test.YtiiipgbfhcbjdaaMemA
namespace Go.Proofs.Ytiiipgbfhcbjdaa
open Go.RowKit TV
set_option linter.unusedVariables false

theorem good_calls (ax ay bx bY cx cy dx dy : Nat) (hax : ax < 18446744073709551616) (hay : ay < 18446744073709551616) (hbx : bx < 18446744073709551616) (hby : bY < 18446744073709551616)
    (hcx : cx < 18446744073709551616) (hcy : cy < 18446744073709551616) (hdx : dx < 18446744073709551616) (hdy : dy < 18446744073709551616) (w : World) (b c : Nat)
    (hb : w.heap[b]? = some (.cells #[.float .f64 ax, .float .f64 ay, .float .f64 bx, .float .f64 bY, .float .f64 cx, .float .f64 cy, .float .f64 dx, .float .f64 dy] 25 (0, 0))) :
    Calls Try.prog 9 #[.slice (some ⟨b, 0, none⟩) 4 c] w fun e w' => e = .returned (.bool ((mayB ax && mayB ay) && (mayB bx && mayB bY) && (mayB cx && mayB cy) && (mayB dx && mayB dy))) ∧ Below w.heap.size w w' := by
  have x0 : w.cell? ⟨b, 0, none⟩ = some (.float .f64 ax) := cell_of_block hb 0
  have x1 : w.cell? ⟨b, 1, none⟩ = some (.float .f64 ay) := cell_of_block hb 1
  have x2 : w.cell? ⟨b, 2, none⟩ = some (.float .f64 bx) := cell_of_block hb 2
  have x3 : w.cell? ⟨b, 3, none⟩ = some (.float .f64 bY) := cell_of_block hb 3
  have x4 : w.cell? ⟨b, 4, none⟩ = some (.float .f64 cx) := cell_of_block hb 4
  have x5 : w.cell? ⟨b, 5, none⟩ = some (.float .f64 cy) := cell_of_block hb 5
  have x6 : w.cell? ⟨b, 6, none⟩ = some (.float .f64 dx) := cell_of_block hb 6
  have x7 : w.cell? ⟨b, 7, none⟩ = some (.float .f64 dy) := cell_of_block hb 7
  have hlt := block_lt hb
  go_enter Try.func9, Try.ntmps9
  go_wp2_with fail
  go_loopw [7] (fun i wr => Below w.heap.size w wr ∧ (i = .int .i64 0 ∨ (i = .int .i64 1 ∧ (mayB ax = true ∧ mayB ay = true)) ∨ (i = .int .i64 2 ∧ (mayB ax = true ∧ mayB ay = true) ∧ (mayB bx = true ∧ mayB bY = true)) ∨ (i = .int .i64 3 ∧ (mayB ax = true ∧ mayB ay = true) ∧ (mayB bx = true ∧ mayB bY = true) ∧ (mayB cx = true ∧ mayB cy = true)) ∨ (i = .int .i64 4 ∧ (mayB ax = true ∧ mayB ay = true) ∧ (mayB bx = true ∧ mayB bY = true) ∧ (mayB cx = true ∧ mayB cy = true) ∧ (mayB dx = true ∧ mayB dy = true))))
    (fun i _ => 4 - (intOf i).toNat)
  case atStart => exact ⟨Below.refl _ _, Or.inl rfl⟩
  case round =>
    obtain ⟨hbl, hc⟩ := hrel
    rcases hc with rfl | ⟨rfl, hA⟩ | ⟨rfl, hA, hB⟩ | ⟨rfl, hA, hB, hC⟩ | ⟨rfl, hA, hB, hC, hD⟩
    · have y0 := keep_cell hbl x0
      have y1 := keep_cell hbl x1
      have HB := Lib.hid hbl
      clear x0 x1 x2 x3 x4 x5 x6 x7 hb hbl
      cases hp : mayB ax with
      | false =>
        go_wp2_with (go_at_call 17; refine (may_calls _ (by assumption) _).mono ?_; rintro e w' ⟨rfl, rfl⟩)
        go_ret
        exact ⟨ret_bool (by simp [hp]), HB.out.alloc HB.out.size _⟩
      | true =>
        cases hq : mayB ay with
        | false =>
          go_wp2_with (go_at_call 17; refine (may_calls _ (by assumption) _).mono ?_; rintro e w' ⟨rfl, rfl⟩)
          go_ret
          exact ⟨ret_bool (by simp [hq]), HB.out.alloc HB.out.size _⟩
        | true =>
          go_wp2_with (go_at_call 17; refine (may_calls _ (by assumption) _).mono ?_; rintro e w' ⟨rfl, rfl⟩)
          go_roundw
          case rel => exact ⟨HB.out.alloc HB.out.size _, Or.inr (Or.inl ⟨rfl, ⟨trivial, trivial⟩⟩)⟩
          case measure => simp [intOf]
    · have y0 := keep_cell hbl x2
      have y1 := keep_cell hbl x3
      have HB := Lib.hid hbl
      have HAA := Lib.hid hA
      clear hA
      clear x0 x1 x2 x3 x4 x5 x6 x7 hb hbl
      cases hp : mayB bx with
      | false =>
        go_wp2_with (go_at_call 17; refine (may_calls _ (by assumption) _).mono ?_; rintro e w' ⟨rfl, rfl⟩)
        go_ret
        exact ⟨ret_bool (by simp [hp]), HB.out.alloc HB.out.size _⟩
      | true =>
        cases hq : mayB bY with
        | false =>
          go_wp2_with (go_at_call 17; refine (may_calls _ (by assumption) _).mono ?_; rintro e w' ⟨rfl, rfl⟩)
          go_ret
          exact ⟨ret_bool (by simp [hq]), HB.out.alloc HB.out.size _⟩
        | true =>
          go_wp2_with (go_at_call 17; refine (may_calls _ (by assumption) _).mono ?_; rintro e w' ⟨rfl, rfl⟩)
          go_roundw
          case rel => exact ⟨HB.out.alloc HB.out.size _, Or.inr (Or.inr (Or.inl ⟨rfl, HAA.out, ⟨trivial, trivial⟩⟩))⟩
          case measure => simp [intOf]
    · have y0 := keep_cell hbl x4
      have y1 := keep_cell hbl x5
      have HB := Lib.hid hbl
      have HAA := Lib.hid hA
      clear hA
      have HBB := Lib.hid hB
      clear hB
      clear x0 x1 x2 x3 x4 x5 x6 x7 hb hbl
      cases hp : mayB cx with
      | false =>
        go_wp2_with (go_at_call 17; refine (may_calls _ (by assumption) _).mono ?_; rintro e w' ⟨rfl, rfl⟩)
        go_ret
        exact ⟨ret_bool (by simp [hp]), HB.out.alloc HB.out.size _⟩
      | true =>
        cases hq : mayB cy with
        | false =>
          go_wp2_with (go_at_call 17; refine (may_calls _ (by assumption) _).mono ?_; rintro e w' ⟨rfl, rfl⟩)
          go_ret
          exact ⟨ret_bool (by simp [hq]), HB.out.alloc HB.out.size _⟩
        | true =>
          go_wp2_with (go_at_call 17; refine (may_calls _ (by assumption) _).mono ?_; rintro e w' ⟨rfl, rfl⟩)
          go_roundw
          case rel => exact ⟨HB.out.alloc HB.out.size _, Or.inr (Or.inr (Or.inr (Or.inl ⟨rfl, HAA.out, HBB.out, ⟨trivial, trivial⟩⟩)))⟩
          case measure => simp [intOf]
    · have y0 := keep_cell hbl x6
      have y1 := keep_cell hbl x7
      have HB := Lib.hid hbl
      have HAA := Lib.hid hA
      clear hA
      have HBB := Lib.hid hB
      clear hB
      have HCC := Lib.hid hC
      clear hC
      clear x0 x1 x2 x3 x4 x5 x6 x7 hb hbl
      cases hp : mayB dx with
      | false =>
        go_wp2_with (go_at_call 17; refine (may_calls _ (by assumption) _).mono ?_; rintro e w' ⟨rfl, rfl⟩)
        go_ret
        exact ⟨ret_bool (by simp [hp]), HB.out.alloc HB.out.size _⟩
      | true =>
        cases hq : mayB dy with
        | false =>
          go_wp2_with (go_at_call 17; refine (may_calls _ (by assumption) _).mono ?_; rintro e w' ⟨rfl, rfl⟩)
          go_ret
          exact ⟨ret_bool (by simp [hq]), HB.out.alloc HB.out.size _⟩
        | true =>
          go_wp2_with (go_at_call 17; refine (may_calls _ (by assumption) _).mono ?_; rintro e w' ⟨rfl, rfl⟩)
          go_roundw
          case rel => exact ⟨HB.out.alloc HB.out.size _, Or.inr (Or.inr (Or.inr (Or.inr (⟨rfl, HAA.out, HBB.out, HCC.out, ⟨trivial, trivial⟩⟩))))⟩
          case measure => simp [intOf]
    · go_wp2_with fail
      go_ret
      exact ⟨ret_bool (by simp [hA, hB, hC, hD]), hbl⟩

end Go.Proofs.Ytiiipgbfhcbjdaa
