/- The document's answer: the sign of the sum of four points, walked. (Printed by gen_MyH.py.) -/
import Derived.Test.YtiiipgbfhcbjdaaMyD
namespace Go.Proofs.Ytiiipgbfhcbjdaa
open Go.RowKit TV
set_option linter.unusedVariables false

theorem four_cells (w : World) (o0 o1 o2 o3 : Obj) : ∃ wn, wn = (((w.alloc o0).alloc o1).alloc o2).alloc o3 ∧ Below w.heap.size w wn ∧ wn.heap.size = w.heap.size + 4 ∧
    wn.heap[w.heap.size]? = some o0 ∧ wn.heap[w.heap.size + 1]? = some o1 ∧ wn.heap[w.heap.size + 1 + 1]? = some o2 ∧ wn.heap[w.heap.size + 1 + 1 + 1]? = some o3 := by
  have a0 := heap_alloc_new w o0
  have a1 := heap_alloc_new (w.alloc o0) o1
  have a2 := heap_alloc_new ((w.alloc o0).alloc o1) o2
  have a3 := heap_alloc_new (((w.alloc o0).alloc o1).alloc o2) o3
  simp only [World.size_alloc] at a1 a2 a3
  refine ⟨_, rfl, ((((Below.refl w.heap.size w).alloc (Nat.le_refl _) _).alloc (by simp) _).alloc (by simp <;> omega) _).alloc (by simp <;> omega) _, by simp, ?_, ?_, ?_, a3⟩
  · exact (((Below.heap_alloc _ _ _ (by simp <;> omega)).trans (Below.heap_alloc _ _ _ (by simp <;> omega))).trans (Below.heap_alloc _ _ _ (by simp))).trans a0
  · exact ((Below.heap_alloc _ _ _ (by simp <;> omega)).trans (Below.heap_alloc _ _ _ (by simp))).trans a1
  · exact (Below.heap_alloc _ _ _ (by simp)).trans a2

set_option maxRecDepth 1000000 in
set_option maxHeartbeats 8000000 in
theorem Sign_calls (ax ay bx bY cx cy dx dy : Nat) (hax : ax < 18446744073709551616) (hay : ay < 18446744073709551616) (hbx : bx < 18446744073709551616) (hby : bY < 18446744073709551616)
    (hcx : cx < 18446744073709551616) (hcy : cy < 18446744073709551616) (hdx : dx < 18446744073709551616) (hdy : dy < 18446744073709551616) (w : World) :
    Calls Try.prog 5 #[.agg #[.float .f64 ax, .float .f64 ay], .agg #[.float .f64 bx, .float .f64 bY], .agg #[.float .f64 cx, .float .f64 cy], .agg #[.float .f64 dx, .float .f64 dy]] w fun e w' =>
      e = .returned (.int .i64 (if (mayB ax && mayB ay) && (mayB bx && mayB bY) && (mayB cx && mayB cy) && (mayB dx && mayB dy) then rs (sumQ (ov ax) (ov ay) (ov bx) (ov bY) (ov cx) (ov cy) (ov dx) (ov dy)) else 0)) ∧ Below w.heap.size w w' := by
  obtain ⟨wn, hwn, HW0, hsz, k0, k1, k2, k3⟩ := four_cells w (.cells #[.float .f64 ax, .float .f64 ay] 25) (.cells #[.float .f64 bx, .float .f64 bY] 25) (.cells #[.float .f64 cx, .float .f64 cy] 25) (.cells #[.float .f64 dx, .float .f64 dy] 25)
  obtain ⟨ma, hma⟩ : ∃ z, z = (mayB ax && mayB ay) := ⟨_, rfl⟩
  obtain ⟨mb, hmb⟩ : ∃ z, z = (mayB bx && mayB bY) := ⟨_, rfl⟩
  obtain ⟨mc, hmc⟩ : ∃ z, z = (mayB cx && mayB cy) := ⟨_, rfl⟩
  obtain ⟨md, hmd⟩ : ∃ z, z = (mayB dx && mayB dy) := ⟨_, rfl⟩
  rw [← hma, ← hmb, ← hmc, ← hmd]
  obtain ⟨R, hR⟩ : ∃ z, z = rs (sumQ (ov ax) (ov ay) (ov bx) (ov bY) (ov cx) (ov cy) (ov dx) (ov dy)) := ⟨_, rfl⟩
  rw [← hR]
  have HMa := Lib.hid hma
  have HMb := Lib.hid hmb
  have HMc := Lib.hid hmc
  have HMd := Lib.hid hmd
  have HRR := Lib.hid hR
  have HW := Lib.hid HW0
  clear hma hmb hmc hmd hR HW0 hsz
  go_enter Try.func5, Try.ntmps5
  go_wp2_with fail
  rw [← hwn]
  clear hwn
  have a0 : wn.cell? ⟨w.heap.size, 0, none⟩ = some (.float .f64 ax) := cell_of_block k0 0
  have a1 : wn.cell? ⟨w.heap.size, 1, none⟩ = some (.float .f64 ay) := cell_of_block k0 1
  have b0 : wn.cell? ⟨w.heap.size + 1, 0, none⟩ = some (.float .f64 bx) := cell_of_block k1 0
  have b1 : wn.cell? ⟨w.heap.size + 1, 1, none⟩ = some (.float .f64 bY) := cell_of_block k1 1
  have c0 : wn.cell? ⟨w.heap.size + 1 + 1, 0, none⟩ = some (.float .f64 cx) := cell_of_block k2 0
  have c1 : wn.cell? ⟨w.heap.size + 1 + 1, 1, none⟩ = some (.float .f64 cy) := cell_of_block k2 1
  have d0 : wn.cell? ⟨w.heap.size + 1 + 1 + 1, 0, none⟩ = some (.float .f64 dx) := cell_of_block k3 0
  have d1 : wn.cell? ⟨w.heap.size + 1 + 1 + 1, 1, none⟩ = some (.float .f64 dy) := cell_of_block k3 1
  clear k0 k1 k2 k3
  refine (May_calls ax ay hax hay _).mono ?_
  rintro e w1 ⟨rfl, hb⟩
  rw [← HMa.out]
  have a0 := keep_cell hb a0
  have a1 := keep_cell hb a1
  have b0 := keep_cell hb b0
  have b1 := keep_cell hb b1
  have c0 := keep_cell hb c0
  have c1 := keep_cell hb c1
  have d0 := keep_cell hb d0
  have d1 := keep_cell hb d1
  have HW := Lib.hid (HW.out.trans (hb.mono HW.out.size))
  clear hb
  cases ma with
  | false =>
    go_wp2_with fail
    go_ret
    exact ⟨by simp, HW.out⟩
  | true =>
    go_wp2_with fail
    refine (May_calls bx bY hbx hby _).mono ?_
    rintro e w2 ⟨rfl, hb⟩
    rw [← HMb.out]
    have a0 := keep_cell hb a0
    have a1 := keep_cell hb a1
    have b0 := keep_cell hb b0
    have b1 := keep_cell hb b1
    have c0 := keep_cell hb c0
    have c1 := keep_cell hb c1
    have d0 := keep_cell hb d0
    have d1 := keep_cell hb d1
    have HW := Lib.hid (HW.out.trans (hb.mono HW.out.size))
    clear hb
    cases mb with
    | false =>
      go_wp2_with fail
      go_ret
      exact ⟨by simp, HW.out⟩
    | true =>
      go_wp2_with fail
      refine (May_calls cx cy hcx hcy _).mono ?_
      rintro e w3 ⟨rfl, hb⟩
      rw [← HMc.out]
      have a0 := keep_cell hb a0
      have a1 := keep_cell hb a1
      have b0 := keep_cell hb b0
      have b1 := keep_cell hb b1
      have c0 := keep_cell hb c0
      have c1 := keep_cell hb c1
      have d0 := keep_cell hb d0
      have d1 := keep_cell hb d1
      have HW := Lib.hid (HW.out.trans (hb.mono HW.out.size))
      clear hb
      cases mc with
      | false =>
        go_wp2_with fail
        go_ret
        exact ⟨by simp, HW.out⟩
      | true =>
        go_wp2_with fail
        refine (May_calls dx dy hdx hdy _).mono ?_
        rintro e w4 ⟨rfl, hb⟩
        rw [← HMd.out]
        have a0 := keep_cell hb a0
        have a1 := keep_cell hb a1
        have b0 := keep_cell hb b0
        have b1 := keep_cell hb b1
        have c0 := keep_cell hb c0
        have c1 := keep_cell hb c1
        have d0 := keep_cell hb d0
        have d1 := keep_cell hb d1
        have HW := Lib.hid (HW.out.trans (hb.mono HW.out.size))
        clear hb
        cases md with
        | false =>
          go_wp2_with fail
          go_ret
          exact ⟨by simp, HW.out⟩
        | true =>
          go_wp2_with fail
          refine (sum_calls ax ay bx bY cx cy dx dy hax hay hbx hby hcx hcy hdx hdy _).mono ?_
          rintro e w5 ⟨v5, rfl, n5, hb⟩
          have HW := Lib.hid (HW.out.trans (hb.mono HW.out.size))
          obtain ⟨s5, p5, l5, c5, e5, rfl, hs5⟩ := NumV.form n5
          rw [← HRR.out] at hs5
          have HS5 := Lib.hid hs5
          clear hs5 n5 hb
          have hfld : ∀ W, (Instr.field 34 (.agg #[.int .i64 s5, .slice p5 l5 c5, .int .i64 e5]) 0).run Try.prog W = .ok (.int .i64 s5) W := fun _ => by kernel_rfl
          go_wp2_with fail
          go_ret
          exact ⟨by rw [HS5.out]; rfl, HW.out⟩

end Go.Proofs.Ytiiipgbfhcbjdaa
