/- OrientMeets walked: whether a point lies on a segment, whether two segments cross. (Printed by gen_OrM.py.) -/
import Derived.Test.YtiihokgjplpceaaDoorOrL
namespace Go.Proofs.YtiihokgjplpceaaDoor
open Go.RowKit TV
set_option linter.unusedVariables false

theorem inI_or (x y z : Nat) : inI x y z = ((decide (fv x ≤ fv z) && decide (fv z ≤ fv y)) || (decide (fv y ≤ fv z) && decide (fv z ≤ fv x))) := by
  unfold inI
  rw [Bool.eq_iff_iff]
  simp only [Bool.and_eq_true, Bool.or_eq_true, decide_eq_true_eq]
  omega
set_option maxHeartbeats 4000000 in
theorem rbetween_calls (x y z : Nat) (hx : rung x < inf) (hy : rung y < inf) (hz : rung z < inf) (w : World) :
    Calls Tryd.prog 30 #[.float .f64 x, .float .f64 y, .float .f64 z] w fun e w' => e = .returned (.bool (inI x y z)) ∧ w = w' := by
  rw [inI_or]
  have h1 := le_fin hx hz
  have h2 := le_fin hz hy
  have h3 := le_fin hy hz
  have h4 := le_fin hz hx
  obtain ⟨d1, hd1⟩ : ∃ d, d = decide (fv x ≤ fv z) := ⟨_, rfl⟩
  obtain ⟨d2, hd2⟩ : ∃ d, d = decide (fv z ≤ fv y) := ⟨_, rfl⟩
  obtain ⟨d3, hd3⟩ : ∃ d, d = decide (fv y ≤ fv z) := ⟨_, rfl⟩
  obtain ⟨d4, hd4⟩ : ∃ d, d = decide (fv z ≤ fv x) := ⟨_, rfl⟩
  rw [← hd1] at h1 ⊢
  rw [← hd2] at h2 ⊢
  rw [← hd3] at h3 ⊢
  rw [← hd4] at h4 ⊢
  clear hd1 hd2 hd3 hd4 hx hy hz
  cases d1 <;> cases d2 <;> cases d3 <;> cases d4
  all_goals
    go_enter Tryd.func30, Tryd.ntmps30
    go_wp2_with fail
    go_ret
    exact ⟨rfl, rfl⟩
theorem may3 (ax ay bx bY cx cy : Nat) : mayL [(ax, ay), (bx, bY), (cx, cy)] = ((mayB ax && mayB ay) && ((mayB bx && mayB bY) && (mayB cx && mayB cy))) := by simp only [mayL, List.all_cons, List.all_nil, Bool.and_true]
theorem osg_may {ax ay bx bY cx cy : Nat} (h : osg ax ay bx bY cx cy ≠ 0) : (mayB ax && mayB ay) = true ∧ (mayB bx && mayB bY) = true ∧ (mayB cx && mayB cy) = true := by
  unfold osg at h
  rw [may3] at h
  cases h1 : (mayB ax && mayB ay) <;> cases h2 : (mayB bx && mayB bY) <;> cases h3 : (mayB cx && mayB cy) <;> simp_all
theorem cross_may (ax ay bx bY cx cy dx dy : Nat) : crossB ax ay bx bY cx cy dx dy = ((mayB ax && mayB ay) && ((mayB bx && mayB bY) && ((mayB cx && mayB cy) && ((mayB dx && mayB dy) && crossB ax ay bx bY cx cy dx dy)))) := by
  cases h : crossB ax ay bx bY cx cy dx dy
  · simp
  · unfold crossB at h
    rw [Bool.and_eq_true] at h
    have h1 := of_decide_eq_true h.1
    have n1 : osg ax ay bx bY cx cy ≠ 0 := fun e => by rw [e] at h1; omega
    have n2 : osg ax ay bx bY dx dy ≠ 0 := fun e => by rw [e] at h1; omega
    obtain ⟨a, b, c⟩ := osg_may n1
    obtain ⟨-, -, d⟩ := osg_may n2
    rw [a, b, c, d]; rfl
set_option maxRecDepth 100000 in
set_option maxHeartbeats 4000000 in
theorem ron_calls (ax ay bx bY cx cy : Nat) (hax : ax < 18446744073709551616) (hay : ay < 18446744073709551616) (hbx : bx < 18446744073709551616) (hby : bY < 18446744073709551616) (hcx : cx < 18446744073709551616) (hcy : cy < 18446744073709551616) (w : World) :
    Calls Tryd.prog 16 #[.agg #[.float .f64 ax, .float .f64 ay], .agg #[.float .f64 bx, .float .f64 bY], .agg #[.float .f64 cx, .float .f64 cy]] w fun e w' => e = .returned (.bool (onB ax ay bx bY cx cy)) ∧ Below w.heap.size w w' := by
  have HM0 := Lib.hid (fun W => May_calls ax ay hax hay W)
  have HM1 := Lib.hid (fun W => May_calls bx bY hbx hby W)
  have HM2 := Lib.hid (fun W => May_calls cx cy hcx hcy W)
  have HS := Lib.hid (fun W => rsign_calls ax ay bx bY cx cy hax hay hbx hby hcx hcy W)
  have HI := Lib.hid (fun (hm : mayL [(ax, ay), (bx, bY), (cx, cy)] = true) => (by
    obtain ⟨m1, m2, m3, m4, m5, m6⟩ := mayL3 hm
    exact ⟨fun W => rbetween_calls ax bx cx (mayB_fin hax m1) (mayB_fin hbx m3) (mayB_fin hcx m5) W, fun W => rbetween_calls ay bY cy (mayB_fin hay m2) (mayB_fin hby m4) (mayB_fin hcy m6) W⟩ :
      (∀ W, Calls Tryd.prog 30 #[.float .f64 ax, .float .f64 bx, .float .f64 cx] W fun e w' => e = .returned (.bool (inI ax bx cx)) ∧ W = w') ∧ (∀ W, Calls Tryd.prog 30 #[.float .f64 ay, .float .f64 bY, .float .f64 cy] W fun e w' => e = .returned (.bool (inI ay bY cy)) ∧ W = w')))
  unfold onB
  rw [may3] at HI ⊢
  obtain ⟨S, hS⟩ : ∃ S, S = osg ax ay bx bY cx cy := ⟨_, rfl⟩
  obtain ⟨I1, hI1⟩ : ∃ M, M = inI ax bx cx := ⟨_, rfl⟩
  obtain ⟨I2, hI2⟩ : ∃ M, M = inI ay bY cy := ⟨_, rfl⟩
  obtain ⟨A, hA⟩ : ∃ A, A = (mayB ax && mayB ay) := ⟨_, rfl⟩
  obtain ⟨B, hB⟩ : ∃ B, B = (mayB bx && mayB bY) := ⟨_, rfl⟩
  obtain ⟨C, hC⟩ : ∃ C, C = (mayB cx && mayB cy) := ⟨_, rfl⟩
  rw [← hS] at HS
  rw [← hI1, ← hI2, ← hA, ← hB, ← hC] at HI
  rw [← hA] at HM0
  rw [← hB] at HM1
  rw [← hC] at HM2
  rw [← hS, ← hI1, ← hI2, ← hA, ← hB, ← hC]
  obtain ⟨wn, hwn, HW0, hsz, k0, k1, k2⟩ := three_cells w (.cells #[.float .f64 ax, .float .f64 ay] 24) (.cells #[.float .f64 bx, .float .f64 bY] 24) (.cells #[.float .f64 cx, .float .f64 cy] 24)
  have a0 : wn.cell? ⟨w.heap.size, 0, none⟩ = some (.float .f64 ax) := cell_of_block k0 0
  have a1 : wn.cell? ⟨w.heap.size, 1, none⟩ = some (.float .f64 ay) := cell_of_block k0 1
  have b0 : wn.cell? ⟨w.heap.size + 1, 0, none⟩ = some (.float .f64 bx) := cell_of_block k1 0
  have b1 : wn.cell? ⟨w.heap.size + 1, 1, none⟩ = some (.float .f64 bY) := cell_of_block k1 1
  have c0 : wn.cell? ⟨w.heap.size + 1 + 1, 0, none⟩ = some (.float .f64 cx) := cell_of_block k2 0
  have c1 : wn.cell? ⟨w.heap.size + 1 + 1, 1, none⟩ = some (.float .f64 cy) := cell_of_block k2 1
  have HW := Lib.hid HW0
  clear hS hI1 hI2 hA hB hC k0 k1 k2 HW0 hsz hax hay hbx hby hcx hcy
  go_enter Tryd.func16, Tryd.ntmps16
  go_wp2_with fail
  rw [← hwn]
  clear hwn
  refine (HM0.out _).mono ?_
  rintro _ w1 ⟨rfl, hb⟩
  have a0 := keep_cell hb a0
  have a1 := keep_cell hb a1
  have b0 := keep_cell hb b0
  have b1 := keep_cell hb b1
  have c0 := keep_cell hb c0
  have c1 := keep_cell hb c1
  have HW := Lib.hid (bl_pack HW.out HW.out.size hb)
  clear hb
  cases A with
  | false =>
    go_wp2_with fail
    go_ret
    exact ⟨rfl, HW.out⟩
  | true =>
    go_wp2_with fail
    refine (HM1.out _).mono ?_
    rintro _ w2 ⟨rfl, hb⟩
    have a0 := keep_cell hb a0
    have a1 := keep_cell hb a1
    have b0 := keep_cell hb b0
    have b1 := keep_cell hb b1
    have c0 := keep_cell hb c0
    have c1 := keep_cell hb c1
    have HW := Lib.hid (bl_pack HW.out HW.out.size hb)
    clear hb
    cases B with
    | false =>
      go_wp2_with fail
      go_ret
      exact ⟨rfl, HW.out⟩
    | true =>
      go_wp2_with fail
      refine (HM2.out _).mono ?_
      rintro _ w3 ⟨rfl, hb⟩
      have a0 := keep_cell hb a0
      have a1 := keep_cell hb a1
      have b0 := keep_cell hb b0
      have b1 := keep_cell hb b1
      have c0 := keep_cell hb c0
      have c1 := keep_cell hb c1
      have HW := Lib.hid (bl_pack HW.out HW.out.size hb)
      clear hb
      cases C with
      | false =>
        go_wp2_with fail
        go_ret
        exact ⟨rfl, HW.out⟩
      | true =>
        go_wp2_with fail
        obtain ⟨i1, i2⟩ := HI.out rfl
        have HI1 := Lib.hid i1
        have HI2 := Lib.hid i2
        clear i1 i2
        refine (HS.out _).mono ?_
        rintro _ w4 ⟨rfl, hb⟩
        have a0 := keep_cell hb a0
        have a1 := keep_cell hb a1
        have b0 := keep_cell hb b0
        have b1 := keep_cell hb b1
        have c0 := keep_cell hb c0
        have c1 := keep_cell hb c1
        have HW := Lib.hid (bl_pack HW.out HW.out.size hb)
        clear hb
        obtain ⟨z, hz⟩ : ∃ z, (S == 0) = z := ⟨_, rfl⟩
        have HZ := Lib.hid hz
        cases z with
        | false =>
          go_wp2_with fail
          go_ret
          exact ⟨ret_bool (by rw [HZ.out]; rfl), HW.out⟩
        | true =>
          go_wp2_with fail
          refine (HI1.out _).mono ?_
          rintro _ w5 ⟨rfl, rfl⟩
          cases I1 with
          | false =>
            go_wp2_with fail
            go_ret
            exact ⟨ret_bool (by rw [HZ.out]; rfl), HW.out⟩
          | true =>
            go_wp2_with fail
            refine (HI2.out _).mono ?_
            rintro _ w6 ⟨rfl, rfl⟩
            go_wp2_with fail
            go_ret
            exact ⟨ret_bool (by rw [HZ.out]; rfl), HW.out⟩
set_option maxRecDepth 100000 in
set_option maxHeartbeats 8000000 in
theorem rcross_calls (ax ay bx bY cx cy dx dy : Nat) (hax : ax < 18446744073709551616) (hay : ay < 18446744073709551616) (hbx : bx < 18446744073709551616) (hby : bY < 18446744073709551616) (hcx : cx < 18446744073709551616) (hcy : cy < 18446744073709551616) (hdx : dx < 18446744073709551616) (hdy : dy < 18446744073709551616) (w : World) :
    Calls Tryd.prog 18 #[.agg #[.float .f64 ax, .float .f64 ay], .agg #[.float .f64 bx, .float .f64 bY], .agg #[.float .f64 cx, .float .f64 cy], .agg #[.float .f64 dx, .float .f64 dy]] w fun e w' => e = .returned (.bool (crossB ax ay bx bY cx cy dx dy)) ∧ Below w.heap.size w w' := by
  rw [cross_may]
  have HM0 := Lib.hid (fun W => May_calls ax ay hax hay W)
  have HM1 := Lib.hid (fun W => May_calls bx bY hbx hby W)
  have HM2 := Lib.hid (fun W => May_calls cx cy hcx hcy W)
  have HM3 := Lib.hid (fun W => May_calls dx dy hdx hdy W)
  obtain ⟨wn, hwn, HW0, hsz, k0, k1, k2, k3⟩ := four_cellsO w (.cells #[.float .f64 ax, .float .f64 ay] 24) (.cells #[.float .f64 bx, .float .f64 bY] 24) (.cells #[.float .f64 cx, .float .f64 cy] 24) (.cells #[.float .f64 dx, .float .f64 dy] 24)
  have a0 : wn.cell? ⟨w.heap.size, 0, none⟩ = some (.float .f64 ax) := cell_of_block k0 0
  have a1 : wn.cell? ⟨w.heap.size, 1, none⟩ = some (.float .f64 ay) := cell_of_block k0 1
  have b0 : wn.cell? ⟨w.heap.size + 1, 0, none⟩ = some (.float .f64 bx) := cell_of_block k1 0
  have b1 : wn.cell? ⟨w.heap.size + 1, 1, none⟩ = some (.float .f64 bY) := cell_of_block k1 1
  have c0 : wn.cell? ⟨w.heap.size + 1 + 1, 0, none⟩ = some (.float .f64 cx) := cell_of_block k2 0
  have c1 : wn.cell? ⟨w.heap.size + 1 + 1, 1, none⟩ = some (.float .f64 cy) := cell_of_block k2 1
  have d0 : wn.cell? ⟨w.heap.size + 1 + 1 + 1, 0, none⟩ = some (.float .f64 dx) := cell_of_block k3 0
  have d1 : wn.cell? ⟨w.heap.size + 1 + 1 + 1, 1, none⟩ = some (.float .f64 dy) := cell_of_block k3 1
  have HW := Lib.hid HW0
  have g1 := osg_bound ax ay bx bY cx cy
  have g2 := osg_bound ax ay bx bY dx dy
  have g3 := osg_bound cx cy dx dy ax ay
  have g4 := osg_bound cx cy dx dy bx bY
  have H1 := Lib.hid (fun (W : World) => rsign_calls ax ay bx bY cx cy hax hay hbx hby hcx hcy W)
  have H2 := Lib.hid (fun (W : World) => rsign_calls ax ay bx bY dx dy hax hay hbx hby hdx hdy W)
  have H3 := Lib.hid (fun (W : World) => rsign_calls cx cy dx dy ax ay hcx hcy hdx hdy hax hay W)
  have H4 := Lib.hid (fun (W : World) => rsign_calls cx cy dx dy bx bY hcx hcy hdx hdy hbx hby W)
  unfold crossB
  obtain ⟨S1, hS1⟩ : ∃ S, S = osg ax ay bx bY cx cy := ⟨_, rfl⟩
  obtain ⟨S2, hS2⟩ : ∃ S, S = osg ax ay bx bY dx dy := ⟨_, rfl⟩
  obtain ⟨S3, hS3⟩ : ∃ S, S = osg cx cy dx dy ax ay := ⟨_, rfl⟩
  obtain ⟨S4, hS4⟩ : ∃ S, S = osg cx cy dx dy bx bY := ⟨_, rfl⟩
  rw [← hS1] at g1 H1
  rw [← hS2] at g2 H2
  rw [← hS3] at g3 H3
  rw [← hS4] at g4 H4
  rw [← hS1, ← hS2, ← hS3, ← hS4]
  obtain ⟨A, hA⟩ : ∃ A, A = (mayB ax && mayB ay) := ⟨_, rfl⟩
  rw [← hA] at HM0
  obtain ⟨B, hB⟩ : ∃ A, A = (mayB bx && mayB bY) := ⟨_, rfl⟩
  rw [← hB] at HM1
  obtain ⟨C, hC⟩ : ∃ A, A = (mayB cx && mayB cy) := ⟨_, rfl⟩
  rw [← hC] at HM2
  obtain ⟨D, hD⟩ : ∃ A, A = (mayB dx && mayB dy) := ⟨_, rfl⟩
  rw [← hD] at HM3
  rw [← hA, ← hB, ← hC, ← hD]
  have m1 := sg_prod g1 g2
  have m2 := sg_prod g3 g4
  clear hS1 hS2 hS3 hS4 g1 g2 g3 g4 hA hB hC hD k0 k1 k2 k3 HW0 hsz
  obtain ⟨T1, hT1⟩ : ∃ T, decide (S1 * S2 < 0) = T := ⟨_, rfl⟩
  have HT1 := Lib.hid hT1
  cases A with
  | false =>
    go_enter Tryd.func18, Tryd.ntmps18
    go_wp2_with fail
    rw [← hwn]
    clear hwn
    have HC0 := Lib.hid (fun (Y : World) (h' : Kp wn Y) => HM0.out Y)
    refine wp_region_held_drew (S := fun w' => w'.cell? ⟨w.heap.size, 0, none⟩ = some (.float .f64 ax) ∧ w'.cell? ⟨w.heap.size, 1, none⟩ = some (.float .f64 ay) ∧ w'.cell? ⟨w.heap.size + 1, 0, none⟩ = some (.float .f64 bx) ∧ w'.cell? ⟨w.heap.size + 1, 1, none⟩ = some (.float .f64 bY) ∧ w'.cell? ⟨w.heap.size + 1 + 1, 0, none⟩ = some (.float .f64 cx) ∧ w'.cell? ⟨w.heap.size + 1 + 1, 1, none⟩ = some (.float .f64 cy) ∧ w'.cell? ⟨w.heap.size + 1 + 1 + 1, 0, none⟩ = some (.float .f64 dx) ∧ w'.cell? ⟨w.heap.size + 1 + 1 + 1, 1, none⟩ = some (.float .f64 dy) ∧ Kp wn w') (by kernel_rfl) ?_ (fun hH0 => ?_)
    · with_reducible exact ⟨keep_cell (Kp.refl wn).drew.out a0, keep_cell (Kp.refl wn).drew.out a1, keep_cell (Kp.refl wn).drew.out b0, keep_cell (Kp.refl wn).drew.out b1, keep_cell (Kp.refl wn).drew.out c0, keep_cell (Kp.refl wn).drew.out c1, keep_cell (Kp.refl wn).drew.out d0, keep_cell (Kp.refl wn).drew.out d1, (Kp.refl wn).drew⟩
    show wpAnyH _ _ _ _ _ _ (#[false, false, false, false, false, false, false, false, false, false, false, false, false, false, false, false, false, false, false, false, false, false, false, false, false, false, false, false, false, false, false, false, false, false, false, false, false, false, false] : Array Bool) _ _
    refine wpAnyH_take (i := 0) (oi := { dst := some 9, op := Op.load 24 (Operand.tmp 4), type := 24, pos := "ref.go:52", after := #[], guard := none }) (v := ?_) rfl (by kernel_rfl) (by kernel_rfl) (by kernel_rfl) (fun _ _ _ h => h) (Or.inl ⟨by rfl, ?_⟩) (by assumption) ?_
    rotate_left
    · (intro w hSw; (try dsimp only at hSw); go_simp; (try with_reducible rfl))
    ((try simp only [Act.put]); (try simp only [List.setIfInBounds_toArray, List.set_cons_zero, List.set_cons_succ]))
    refine wpAnyH_ready (rs := [1]) (by kernel_rfl) (by simp) ?_
    refine AllReadyH.cons (o := { dst := some 10, op := Op.call { callee := Callee.value (Operand.func 12), args := #[Operand.tmp 9], argTypes := #[24] }, type := 4, pos := "ref.go:52", after := #[{ on := 0, ground := Ground.data }], guard := none }) rfl (fun K hK => ?_) AllReadyH.nil
    go_simp
    (go_at_call 12; ((with_reducible refine (HC0.out _ ?hq).mono ?_); (case hq => exact (Kp.refl wn).drew); rintro x wS_0 ⟨rfl, hbS_0⟩))
    go_wp2_with fail
    refine hK.out _ _ ?_ (fun hH1 => ?_)
    · with_reducible exact ⟨keep_cell ((Kp.refl wn).drew.step hbS_0).out a0, keep_cell ((Kp.refl wn).drew.step hbS_0).out a1, keep_cell ((Kp.refl wn).drew.step hbS_0).out b0, keep_cell ((Kp.refl wn).drew.step hbS_0).out b1, keep_cell ((Kp.refl wn).drew.step hbS_0).out c0, keep_cell ((Kp.refl wn).drew.step hbS_0).out c1, keep_cell ((Kp.refl wn).drew.step hbS_0).out d0, keep_cell ((Kp.refl wn).drew.step hbS_0).out d1, ((Kp.refl wn).drew.step hbS_0)⟩
    clear hK K hH0
    ((try simp only [Act.put]); (try simp only [List.setIfInBounds_toArray, List.set_cons_zero, List.set_cons_succ]))
    refine wpAnyH_take (i := 2) (oi := { dst := some 11, op := Op.move (Operand.tmp 10), type := 4, pos := "ref.go:52", after := #[{ on := 1, ground := Ground.data }, { on := 1, ground := Ground.chain }], guard := none }) (v := ?_) rfl (by kernel_rfl) (by kernel_rfl) (by kernel_rfl) (fun _ _ _ h => h) (Or.inl ⟨by rfl, ?_⟩) (by assumption) ?_
    rotate_left
    · (intro w hSw; (try dsimp only at hSw); go_simp; (try with_reducible rfl))
    ((try simp only [Act.put]); (try simp only [List.setIfInBounds_toArray, List.set_cons_zero, List.set_cons_succ]))
    refine wpAnyH_take (i := 3) (oi := { dst := some 12, op := Op.load 24 (Operand.tmp 5), type := 24, pos := "ref.go:52", after := #[{ on := 2, ground := Ground.guard }], guard := some (2, true) }) (v := undef) rfl (by kernel_rfl) (by kernel_rfl) (by kernel_rfl) (fun _ _ _ h => h) (Or.inr ⟨by rfl, rfl⟩) (by assumption) ?_
    ((try simp only [Act.put]); (try simp only [List.setIfInBounds_toArray, List.set_cons_zero, List.set_cons_succ]))
    refine wpAnyH_take (i := 4) (oi := { dst := some 13, op := Op.call { callee := Callee.value (Operand.func 12), args := #[Operand.tmp 12], argTypes := #[24] }, type := 4, pos := "ref.go:52", after := #[{ on := 3, ground := Ground.data }, { on := 2, ground := Ground.chain }, { on := 2, ground := Ground.guard }], guard := some (2, true) }) (v := undef) rfl (by kernel_rfl) (by kernel_rfl) (by kernel_rfl) (fun _ _ _ h => h) (Or.inr ⟨by rfl, rfl⟩) (by assumption) ?_
    ((try simp only [Act.put]); (try simp only [List.setIfInBounds_toArray, List.set_cons_zero, List.set_cons_succ]))
    refine wpAnyH_take (i := 5) (oi := { dst := some 14, op := Op.pick (Operand.tmp 11) (Operand.tmp 13) (Operand.const (Value.bool false)), type := 4, pos := "ref.go:52", after := #[{ on := 2, ground := Ground.data }, { on := 4, ground := Ground.data }], guard := none }) (v := ?_) rfl (by kernel_rfl) (by kernel_rfl) (by kernel_rfl) (fun _ _ _ h => h) (Or.inl ⟨by rfl, ?_⟩) (by assumption) ?_
    rotate_left
    · (intro w hSw; (try dsimp only at hSw); go_simp; (try with_reducible rfl))
    ((try simp only [Act.put]); (try simp only [List.setIfInBounds_toArray, List.set_cons_zero, List.set_cons_succ]))
    refine wpAnyH_take (i := 6) (oi := { dst := some 15, op := Op.move (Operand.tmp 14), type := 4, pos := "ref.go:52", after := #[{ on := 5, ground := Ground.data }, { on := 4, ground := Ground.chain }], guard := none }) (v := ?_) rfl (by kernel_rfl) (by kernel_rfl) (by kernel_rfl) (fun _ _ _ h => h) (Or.inl ⟨by rfl, ?_⟩) (by assumption) ?_
    rotate_left
    · (intro w hSw; (try dsimp only at hSw); go_simp; (try with_reducible rfl))
    ((try simp only [Act.put]); (try simp only [List.setIfInBounds_toArray, List.set_cons_zero, List.set_cons_succ]))
    refine wpAnyH_take (i := 7) (oi := { dst := some 16, op := Op.load 24 (Operand.tmp 6), type := 24, pos := "ref.go:52", after := #[{ on := 6, ground := Ground.guard }], guard := some (6, true) }) (v := undef) rfl (by kernel_rfl) (by kernel_rfl) (by kernel_rfl) (fun _ _ _ h => h) (Or.inr ⟨by rfl, rfl⟩) (by assumption) ?_
    ((try simp only [Act.put]); (try simp only [List.setIfInBounds_toArray, List.set_cons_zero, List.set_cons_succ]))
    refine wpAnyH_take (i := 8) (oi := { dst := some 17, op := Op.call { callee := Callee.value (Operand.func 12), args := #[Operand.tmp 16], argTypes := #[24] }, type := 4, pos := "ref.go:52", after := #[{ on := 7, ground := Ground.data }, { on := 6, ground := Ground.chain }, { on := 6, ground := Ground.guard }], guard := some (6, true) }) (v := undef) rfl (by kernel_rfl) (by kernel_rfl) (by kernel_rfl) (fun _ _ _ h => h) (Or.inr ⟨by rfl, rfl⟩) (by assumption) ?_
    ((try simp only [Act.put]); (try simp only [List.setIfInBounds_toArray, List.set_cons_zero, List.set_cons_succ]))
    refine wpAnyH_take (i := 9) (oi := { dst := some 18, op := Op.pick (Operand.tmp 15) (Operand.tmp 17) (Operand.const (Value.bool false)), type := 4, pos := "ref.go:52", after := #[{ on := 6, ground := Ground.data }, { on := 8, ground := Ground.data }], guard := none }) (v := ?_) rfl (by kernel_rfl) (by kernel_rfl) (by kernel_rfl) (fun _ _ _ h => h) (Or.inl ⟨by rfl, ?_⟩) (by assumption) ?_
    rotate_left
    · (intro w hSw; (try dsimp only at hSw); go_simp; (try with_reducible rfl))
    ((try simp only [Act.put]); (try simp only [List.setIfInBounds_toArray, List.set_cons_zero, List.set_cons_succ]))
    refine wpAnyH_take (i := 10) (oi := { dst := some 19, op := Op.move (Operand.tmp 18), type := 4, pos := "ref.go:52", after := #[{ on := 9, ground := Ground.data }, { on := 8, ground := Ground.chain }], guard := none }) (v := ?_) rfl (by kernel_rfl) (by kernel_rfl) (by kernel_rfl) (fun _ _ _ h => h) (Or.inl ⟨by rfl, ?_⟩) (by assumption) ?_
    rotate_left
    · (intro w hSw; (try dsimp only at hSw); go_simp; (try with_reducible rfl))
    ((try simp only [Act.put]); (try simp only [List.setIfInBounds_toArray, List.set_cons_zero, List.set_cons_succ]))
    refine wpAnyH_take (i := 11) (oi := { dst := some 20, op := Op.load 24 (Operand.tmp 7), type := 24, pos := "ref.go:52", after := #[{ on := 10, ground := Ground.guard }], guard := some (10, true) }) (v := undef) rfl (by kernel_rfl) (by kernel_rfl) (by kernel_rfl) (fun _ _ _ h => h) (Or.inr ⟨by rfl, rfl⟩) (by assumption) ?_
    ((try simp only [Act.put]); (try simp only [List.setIfInBounds_toArray, List.set_cons_zero, List.set_cons_succ]))
    refine wpAnyH_take (i := 12) (oi := { dst := some 21, op := Op.call { callee := Callee.value (Operand.func 12), args := #[Operand.tmp 20], argTypes := #[24] }, type := 4, pos := "ref.go:52", after := #[{ on := 11, ground := Ground.data }, { on := 10, ground := Ground.chain }, { on := 10, ground := Ground.guard }], guard := some (10, true) }) (v := undef) rfl (by kernel_rfl) (by kernel_rfl) (by kernel_rfl) (fun _ _ _ h => h) (Or.inr ⟨by rfl, rfl⟩) (by assumption) ?_
    ((try simp only [Act.put]); (try simp only [List.setIfInBounds_toArray, List.set_cons_zero, List.set_cons_succ]))
    refine wpAnyH_take (i := 13) (oi := { dst := some 22, op := Op.pick (Operand.tmp 19) (Operand.tmp 21) (Operand.const (Value.bool false)), type := 4, pos := "ref.go:52", after := #[{ on := 10, ground := Ground.data }, { on := 12, ground := Ground.data }], guard := none }) (v := ?_) rfl (by kernel_rfl) (by kernel_rfl) (by kernel_rfl) (fun _ _ _ h => h) (Or.inl ⟨by rfl, ?_⟩) (by assumption) ?_
    rotate_left
    · (intro w hSw; (try dsimp only at hSw); go_simp; (try with_reducible rfl))
    ((try simp only [Act.put]); (try simp only [List.setIfInBounds_toArray, List.set_cons_zero, List.set_cons_succ]))
    refine wpAnyH_take (i := 14) (oi := { dst := some 23, op := Op.move (Operand.tmp 22), type := 4, pos := "ref.go:52", after := #[{ on := 13, ground := Ground.data }, { on := 12, ground := Ground.chain }], guard := none }) (v := ?_) rfl (by kernel_rfl) (by kernel_rfl) (by kernel_rfl) (fun _ _ _ h => h) (Or.inl ⟨by rfl, ?_⟩) (by assumption) ?_
    rotate_left
    · (intro w hSw; (try dsimp only at hSw); go_simp; (try with_reducible rfl))
    ((try simp only [Act.put]); (try simp only [List.setIfInBounds_toArray, List.set_cons_zero, List.set_cons_succ]))
    refine wpAnyH_take (i := 15) (oi := { dst := some 24, op := Op.load 24 (Operand.tmp 4), type := 24, pos := "ref.go:52", after := #[{ on := 14, ground := Ground.guard }], guard := some (14, true) }) (v := undef) rfl (by kernel_rfl) (by kernel_rfl) (by kernel_rfl) (fun _ _ _ h => h) (Or.inr ⟨by rfl, rfl⟩) (by assumption) ?_
    ((try simp only [Act.put]); (try simp only [List.setIfInBounds_toArray, List.set_cons_zero, List.set_cons_succ]))
    refine wpAnyH_take (i := 16) (oi := { dst := some 25, op := Op.load 24 (Operand.tmp 5), type := 24, pos := "ref.go:52", after := #[{ on := 14, ground := Ground.guard }], guard := some (14, true) }) (v := undef) rfl (by kernel_rfl) (by kernel_rfl) (by kernel_rfl) (fun _ _ _ h => h) (Or.inr ⟨by rfl, rfl⟩) (by assumption) ?_
    ((try simp only [Act.put]); (try simp only [List.setIfInBounds_toArray, List.set_cons_zero, List.set_cons_succ]))
    refine wpAnyH_take (i := 17) (oi := { dst := some 26, op := Op.load 24 (Operand.tmp 6), type := 24, pos := "ref.go:52", after := #[{ on := 14, ground := Ground.guard }], guard := some (14, true) }) (v := undef) rfl (by kernel_rfl) (by kernel_rfl) (by kernel_rfl) (fun _ _ _ h => h) (Or.inr ⟨by rfl, rfl⟩) (by assumption) ?_
    ((try simp only [Act.put]); (try simp only [List.setIfInBounds_toArray, List.set_cons_zero, List.set_cons_succ]))
    refine wpAnyH_take (i := 18) (oi := { dst := some 27, op := Op.call { callee := Callee.value (Operand.func 9), args := #[Operand.tmp 24, Operand.tmp 25, Operand.tmp 26], argTypes := #[24, 24, 24] }, type := 3, pos := "ref.go:52", after := #[{ on := 15, ground := Ground.data }, { on := 16, ground := Ground.data }, { on := 17, ground := Ground.data }, { on := 14, ground := Ground.chain }, { on := 14, ground := Ground.guard }], guard := some (14, true) }) (v := undef) rfl (by kernel_rfl) (by kernel_rfl) (by kernel_rfl) (fun _ _ _ h => h) (Or.inr ⟨by rfl, rfl⟩) (by assumption) ?_
    ((try simp only [Act.put]); (try simp only [List.setIfInBounds_toArray, List.set_cons_zero, List.set_cons_succ]))
    refine wpAnyH_take (i := 19) (oi := { dst := some 28, op := Op.load 24 (Operand.tmp 4), type := 24, pos := "ref.go:52", after := #[{ on := 14, ground := Ground.guard }], guard := some (14, true) }) (v := undef) rfl (by kernel_rfl) (by kernel_rfl) (by kernel_rfl) (fun _ _ _ h => h) (Or.inr ⟨by rfl, rfl⟩) (by assumption) ?_
    ((try simp only [Act.put]); (try simp only [List.setIfInBounds_toArray, List.set_cons_zero, List.set_cons_succ]))
    refine wpAnyH_take (i := 20) (oi := { dst := some 29, op := Op.load 24 (Operand.tmp 5), type := 24, pos := "ref.go:52", after := #[{ on := 14, ground := Ground.guard }], guard := some (14, true) }) (v := undef) rfl (by kernel_rfl) (by kernel_rfl) (by kernel_rfl) (fun _ _ _ h => h) (Or.inr ⟨by rfl, rfl⟩) (by assumption) ?_
    ((try simp only [Act.put]); (try simp only [List.setIfInBounds_toArray, List.set_cons_zero, List.set_cons_succ]))
    refine wpAnyH_take (i := 21) (oi := { dst := some 30, op := Op.load 24 (Operand.tmp 7), type := 24, pos := "ref.go:52", after := #[{ on := 14, ground := Ground.guard }], guard := some (14, true) }) (v := undef) rfl (by kernel_rfl) (by kernel_rfl) (by kernel_rfl) (fun _ _ _ h => h) (Or.inr ⟨by rfl, rfl⟩) (by assumption) ?_
    ((try simp only [Act.put]); (try simp only [List.setIfInBounds_toArray, List.set_cons_zero, List.set_cons_succ]))
    refine wpAnyH_take (i := 22) (oi := { dst := some 31, op := Op.call { callee := Callee.value (Operand.func 9), args := #[Operand.tmp 28, Operand.tmp 29, Operand.tmp 30], argTypes := #[24, 24, 24] }, type := 3, pos := "ref.go:52", after := #[{ on := 19, ground := Ground.data }, { on := 20, ground := Ground.data }, { on := 21, ground := Ground.data }, { on := 18, ground := Ground.chain }, { on := 14, ground := Ground.guard }], guard := some (14, true) }) (v := undef) rfl (by kernel_rfl) (by kernel_rfl) (by kernel_rfl) (fun _ _ _ h => h) (Or.inr ⟨by rfl, rfl⟩) (by assumption) ?_
    ((try simp only [Act.put]); (try simp only [List.setIfInBounds_toArray, List.set_cons_zero, List.set_cons_succ]))
    refine wpAnyH_take (i := 23) (oi := { dst := some 32, op := Op.binOp BinOp.mul 3 (Operand.tmp 27) (Operand.tmp 31) 3, type := 3, pos := "ref.go:52", after := #[{ on := 18, ground := Ground.data }, { on := 22, ground := Ground.data }, { on := 14, ground := Ground.guard }], guard := some (14, true) }) (v := undef) rfl (by kernel_rfl) (by kernel_rfl) (by kernel_rfl) (fun _ _ _ h => h) (Or.inr ⟨by rfl, rfl⟩) (by assumption) ?_
    ((try simp only [Act.put]); (try simp only [List.setIfInBounds_toArray, List.set_cons_zero, List.set_cons_succ]))
    refine wpAnyH_take (i := 24) (oi := { dst := some 33, op := Op.binOp BinOp.lss 3 (Operand.tmp 32) (Operand.const (Value.int IntKind.i64 0)) 3, type := 4, pos := "ref.go:52", after := #[{ on := 23, ground := Ground.data }, { on := 14, ground := Ground.guard }], guard := some (14, true) }) (v := undef) rfl (by kernel_rfl) (by kernel_rfl) (by kernel_rfl) (fun _ _ _ h => h) (Or.inr ⟨by rfl, rfl⟩) (by assumption) ?_
    ((try simp only [Act.put]); (try simp only [List.setIfInBounds_toArray, List.set_cons_zero, List.set_cons_succ]))
    refine wpAnyH_take (i := 25) (oi := { dst := some 34, op := Op.pick (Operand.tmp 23) (Operand.tmp 33) (Operand.const (Value.bool false)), type := 4, pos := "ref.go:52", after := #[{ on := 14, ground := Ground.data }, { on := 24, ground := Ground.data }], guard := none }) (v := ?_) rfl (by kernel_rfl) (by kernel_rfl) (by kernel_rfl) (fun _ _ _ h => h) (Or.inl ⟨by rfl, ?_⟩) (by assumption) ?_
    rotate_left
    · (intro w hSw; (try dsimp only at hSw); go_simp; (try with_reducible rfl))
    ((try simp only [Act.put]); (try simp only [List.setIfInBounds_toArray, List.set_cons_zero, List.set_cons_succ]))
    refine wpAnyH_take (i := 26) (oi := { dst := some 35, op := Op.move (Operand.tmp 34), type := 4, pos := "ref.go:52", after := #[{ on := 25, ground := Ground.data }, { on := 22, ground := Ground.chain }], guard := none }) (v := ?_) rfl (by kernel_rfl) (by kernel_rfl) (by kernel_rfl) (fun _ _ _ h => h) (Or.inl ⟨by rfl, ?_⟩) (by assumption) ?_
    rotate_left
    · (intro w hSw; (try dsimp only at hSw); go_simp; (try with_reducible rfl))
    ((try simp only [Act.put]); (try simp only [List.setIfInBounds_toArray, List.set_cons_zero, List.set_cons_succ]))
    refine wpAnyH_take (i := 27) (oi := { dst := some 36, op := Op.load 24 (Operand.tmp 6), type := 24, pos := "ref.go:52", after := #[{ on := 26, ground := Ground.guard }], guard := some (26, true) }) (v := undef) rfl (by kernel_rfl) (by kernel_rfl) (by kernel_rfl) (fun _ _ _ h => h) (Or.inr ⟨by rfl, rfl⟩) (by assumption) ?_
    ((try simp only [Act.put]); (try simp only [List.setIfInBounds_toArray, List.set_cons_zero, List.set_cons_succ]))
    refine wpAnyH_take (i := 28) (oi := { dst := some 37, op := Op.load 24 (Operand.tmp 7), type := 24, pos := "ref.go:52", after := #[{ on := 26, ground := Ground.guard }], guard := some (26, true) }) (v := undef) rfl (by kernel_rfl) (by kernel_rfl) (by kernel_rfl) (fun _ _ _ h => h) (Or.inr ⟨by rfl, rfl⟩) (by assumption) ?_
    ((try simp only [Act.put]); (try simp only [List.setIfInBounds_toArray, List.set_cons_zero, List.set_cons_succ]))
    refine wpAnyH_take (i := 29) (oi := { dst := some 38, op := Op.load 24 (Operand.tmp 4), type := 24, pos := "ref.go:52", after := #[{ on := 26, ground := Ground.guard }], guard := some (26, true) }) (v := undef) rfl (by kernel_rfl) (by kernel_rfl) (by kernel_rfl) (fun _ _ _ h => h) (Or.inr ⟨by rfl, rfl⟩) (by assumption) ?_
    ((try simp only [Act.put]); (try simp only [List.setIfInBounds_toArray, List.set_cons_zero, List.set_cons_succ]))
    refine wpAnyH_take (i := 30) (oi := { dst := some 39, op := Op.call { callee := Callee.value (Operand.func 9), args := #[Operand.tmp 36, Operand.tmp 37, Operand.tmp 38], argTypes := #[24, 24, 24] }, type := 3, pos := "ref.go:52", after := #[{ on := 27, ground := Ground.data }, { on := 28, ground := Ground.data }, { on := 29, ground := Ground.data }, { on := 26, ground := Ground.chain }, { on := 26, ground := Ground.guard }], guard := some (26, true) }) (v := undef) rfl (by kernel_rfl) (by kernel_rfl) (by kernel_rfl) (fun _ _ _ h => h) (Or.inr ⟨by rfl, rfl⟩) (by assumption) ?_
    ((try simp only [Act.put]); (try simp only [List.setIfInBounds_toArray, List.set_cons_zero, List.set_cons_succ]))
    refine wpAnyH_take (i := 31) (oi := { dst := some 40, op := Op.load 24 (Operand.tmp 6), type := 24, pos := "ref.go:52", after := #[{ on := 26, ground := Ground.guard }], guard := some (26, true) }) (v := undef) rfl (by kernel_rfl) (by kernel_rfl) (by kernel_rfl) (fun _ _ _ h => h) (Or.inr ⟨by rfl, rfl⟩) (by assumption) ?_
    ((try simp only [Act.put]); (try simp only [List.setIfInBounds_toArray, List.set_cons_zero, List.set_cons_succ]))
    refine wpAnyH_take (i := 32) (oi := { dst := some 41, op := Op.load 24 (Operand.tmp 7), type := 24, pos := "ref.go:52", after := #[{ on := 26, ground := Ground.guard }], guard := some (26, true) }) (v := undef) rfl (by kernel_rfl) (by kernel_rfl) (by kernel_rfl) (fun _ _ _ h => h) (Or.inr ⟨by rfl, rfl⟩) (by assumption) ?_
    ((try simp only [Act.put]); (try simp only [List.setIfInBounds_toArray, List.set_cons_zero, List.set_cons_succ]))
    refine wpAnyH_take (i := 33) (oi := { dst := some 42, op := Op.load 24 (Operand.tmp 5), type := 24, pos := "ref.go:52", after := #[{ on := 26, ground := Ground.guard }], guard := some (26, true) }) (v := undef) rfl (by kernel_rfl) (by kernel_rfl) (by kernel_rfl) (fun _ _ _ h => h) (Or.inr ⟨by rfl, rfl⟩) (by assumption) ?_
    ((try simp only [Act.put]); (try simp only [List.setIfInBounds_toArray, List.set_cons_zero, List.set_cons_succ]))
    refine wpAnyH_take (i := 34) (oi := { dst := some 43, op := Op.call { callee := Callee.value (Operand.func 9), args := #[Operand.tmp 40, Operand.tmp 41, Operand.tmp 42], argTypes := #[24, 24, 24] }, type := 3, pos := "ref.go:52", after := #[{ on := 31, ground := Ground.data }, { on := 32, ground := Ground.data }, { on := 33, ground := Ground.data }, { on := 30, ground := Ground.chain }, { on := 26, ground := Ground.guard }], guard := some (26, true) }) (v := undef) rfl (by kernel_rfl) (by kernel_rfl) (by kernel_rfl) (fun _ _ _ h => h) (Or.inr ⟨by rfl, rfl⟩) (by assumption) ?_
    ((try simp only [Act.put]); (try simp only [List.setIfInBounds_toArray, List.set_cons_zero, List.set_cons_succ]))
    refine wpAnyH_take (i := 35) (oi := { dst := some 44, op := Op.binOp BinOp.mul 3 (Operand.tmp 39) (Operand.tmp 43) 3, type := 3, pos := "ref.go:52", after := #[{ on := 30, ground := Ground.data }, { on := 34, ground := Ground.data }, { on := 26, ground := Ground.guard }], guard := some (26, true) }) (v := undef) rfl (by kernel_rfl) (by kernel_rfl) (by kernel_rfl) (fun _ _ _ h => h) (Or.inr ⟨by rfl, rfl⟩) (by assumption) ?_
    ((try simp only [Act.put]); (try simp only [List.setIfInBounds_toArray, List.set_cons_zero, List.set_cons_succ]))
    refine wpAnyH_take (i := 36) (oi := { dst := some 45, op := Op.binOp BinOp.lss 3 (Operand.tmp 44) (Operand.const (Value.int IntKind.i64 0)) 3, type := 4, pos := "ref.go:52", after := #[{ on := 35, ground := Ground.data }, { on := 26, ground := Ground.guard }], guard := some (26, true) }) (v := undef) rfl (by kernel_rfl) (by kernel_rfl) (by kernel_rfl) (fun _ _ _ h => h) (Or.inr ⟨by rfl, rfl⟩) (by assumption) ?_
    ((try simp only [Act.put]); (try simp only [List.setIfInBounds_toArray, List.set_cons_zero, List.set_cons_succ]))
    refine wpAnyH_take (i := 37) (oi := { dst := some 46, op := Op.pick (Operand.tmp 35) (Operand.tmp 45) (Operand.const (Value.bool false)), type := 4, pos := "ref.go:52", after := #[{ on := 26, ground := Ground.data }, { on := 36, ground := Ground.data }], guard := none }) (v := ?_) rfl (by kernel_rfl) (by kernel_rfl) (by kernel_rfl) (fun _ _ _ h => h) (Or.inl ⟨by rfl, ?_⟩) (by assumption) ?_
    rotate_left
    · (intro w hSw; (try dsimp only at hSw); go_simp; (try with_reducible rfl))
    ((try simp only [Act.put]); (try simp only [List.setIfInBounds_toArray, List.set_cons_zero, List.set_cons_succ]))
    refine wpAnyH_take (i := 38) (oi := { dst := some 8, op := Op.assign (Operand.tmp 46), type := 4, pos := "ref.go:52", after := #[{ on := 37, ground := Ground.data }, { on := 34, ground := Ground.chain }, { on := 0, ground := Ground.phase }, { on := 1, ground := Ground.phase }, { on := 2, ground := Ground.phase }, { on := 3, ground := Ground.phase }, { on := 4, ground := Ground.phase }, { on := 5, ground := Ground.phase }, { on := 6, ground := Ground.phase }, { on := 7, ground := Ground.phase }, { on := 8, ground := Ground.phase }, { on := 9, ground := Ground.phase }, { on := 10, ground := Ground.phase }, { on := 11, ground := Ground.phase }, { on := 12, ground := Ground.phase }, { on := 13, ground := Ground.phase }, { on := 14, ground := Ground.phase }, { on := 15, ground := Ground.phase }, { on := 16, ground := Ground.phase }, { on := 17, ground := Ground.phase }, { on := 18, ground := Ground.phase }, { on := 19, ground := Ground.phase }, { on := 20, ground := Ground.phase }, { on := 21, ground := Ground.phase }, { on := 22, ground := Ground.phase }, { on := 23, ground := Ground.phase }, { on := 24, ground := Ground.phase }, { on := 25, ground := Ground.phase }, { on := 26, ground := Ground.phase }, { on := 27, ground := Ground.phase }, { on := 28, ground := Ground.phase }, { on := 29, ground := Ground.phase }, { on := 30, ground := Ground.phase }, { on := 31, ground := Ground.phase }, { on := 32, ground := Ground.phase }, { on := 33, ground := Ground.phase }, { on := 34, ground := Ground.phase }, { on := 35, ground := Ground.phase }, { on := 36, ground := Ground.phase }, { on := 37, ground := Ground.phase }], guard := none }) (v := ?_) rfl (by kernel_rfl) (by kernel_rfl) (by kernel_rfl) (fun _ _ _ h => h) (Or.inl ⟨by rfl, ?_⟩) (by assumption) ?_
    rotate_left
    · (intro w hSw; (try dsimp only at hSw); go_simp; (try with_reducible rfl))
    ((try simp only [Act.put]); (try simp only [List.setIfInBounds_toArray, List.set_cons_zero, List.set_cons_succ]))
    refine wpAnyH_done (by kernel_rfl) ?_ _
    clear hH1
    go_wp2_with fail
    go_ret
    exact ⟨rfl, bl_pack HW.out HW.out.size ((Kp.refl wn).drew.step hbS_0).out⟩
  | true =>
    cases B with
    | false =>
      go_enter Tryd.func18, Tryd.ntmps18
      go_wp2_with fail
      rw [← hwn]
      clear hwn
      have HC0 := Lib.hid (fun (Y : World) (h' : Kp wn Y) => HM0.out Y)
      have HC1 := Lib.hid (fun (Y : World) (h' : Kp wn Y) => HM1.out Y)
      refine wp_region_held_drew (S := fun w' => w'.cell? ⟨w.heap.size, 0, none⟩ = some (.float .f64 ax) ∧ w'.cell? ⟨w.heap.size, 1, none⟩ = some (.float .f64 ay) ∧ w'.cell? ⟨w.heap.size + 1, 0, none⟩ = some (.float .f64 bx) ∧ w'.cell? ⟨w.heap.size + 1, 1, none⟩ = some (.float .f64 bY) ∧ w'.cell? ⟨w.heap.size + 1 + 1, 0, none⟩ = some (.float .f64 cx) ∧ w'.cell? ⟨w.heap.size + 1 + 1, 1, none⟩ = some (.float .f64 cy) ∧ w'.cell? ⟨w.heap.size + 1 + 1 + 1, 0, none⟩ = some (.float .f64 dx) ∧ w'.cell? ⟨w.heap.size + 1 + 1 + 1, 1, none⟩ = some (.float .f64 dy) ∧ Kp wn w') (by kernel_rfl) ?_ (fun hH0 => ?_)
      · with_reducible exact ⟨keep_cell (Kp.refl wn).drew.out a0, keep_cell (Kp.refl wn).drew.out a1, keep_cell (Kp.refl wn).drew.out b0, keep_cell (Kp.refl wn).drew.out b1, keep_cell (Kp.refl wn).drew.out c0, keep_cell (Kp.refl wn).drew.out c1, keep_cell (Kp.refl wn).drew.out d0, keep_cell (Kp.refl wn).drew.out d1, (Kp.refl wn).drew⟩
      show wpAnyH _ _ _ _ _ _ (#[false, false, false, false, false, false, false, false, false, false, false, false, false, false, false, false, false, false, false, false, false, false, false, false, false, false, false, false, false, false, false, false, false, false, false, false, false, false, false] : Array Bool) _ _
      refine wpAnyH_take (i := 0) (oi := { dst := some 9, op := Op.load 24 (Operand.tmp 4), type := 24, pos := "ref.go:52", after := #[], guard := none }) (v := ?_) rfl (by kernel_rfl) (by kernel_rfl) (by kernel_rfl) (fun _ _ _ h => h) (Or.inl ⟨by rfl, ?_⟩) (by assumption) ?_
      rotate_left
      · (intro w hSw; (try dsimp only at hSw); go_simp; (try with_reducible rfl))
      ((try simp only [Act.put]); (try simp only [List.setIfInBounds_toArray, List.set_cons_zero, List.set_cons_succ]))
      refine wpAnyH_ready (rs := [1]) (by kernel_rfl) (by simp) ?_
      refine AllReadyH.cons (o := { dst := some 10, op := Op.call { callee := Callee.value (Operand.func 12), args := #[Operand.tmp 9], argTypes := #[24] }, type := 4, pos := "ref.go:52", after := #[{ on := 0, ground := Ground.data }], guard := none }) rfl (fun K hK => ?_) AllReadyH.nil
      go_simp
      (go_at_call 12; ((with_reducible refine (HC0.out _ ?hq).mono ?_); (case hq => exact (Kp.refl wn).drew); rintro x wS_0 ⟨rfl, hbS_0⟩))
      go_wp2_with fail
      refine hK.out _ _ ?_ (fun hH1 => ?_)
      · with_reducible exact ⟨keep_cell ((Kp.refl wn).drew.step hbS_0).out a0, keep_cell ((Kp.refl wn).drew.step hbS_0).out a1, keep_cell ((Kp.refl wn).drew.step hbS_0).out b0, keep_cell ((Kp.refl wn).drew.step hbS_0).out b1, keep_cell ((Kp.refl wn).drew.step hbS_0).out c0, keep_cell ((Kp.refl wn).drew.step hbS_0).out c1, keep_cell ((Kp.refl wn).drew.step hbS_0).out d0, keep_cell ((Kp.refl wn).drew.step hbS_0).out d1, ((Kp.refl wn).drew.step hbS_0)⟩
      clear hK K hH0
      ((try simp only [Act.put]); (try simp only [List.setIfInBounds_toArray, List.set_cons_zero, List.set_cons_succ]))
      refine wpAnyH_take (i := 2) (oi := { dst := some 11, op := Op.move (Operand.tmp 10), type := 4, pos := "ref.go:52", after := #[{ on := 1, ground := Ground.data }, { on := 1, ground := Ground.chain }], guard := none }) (v := ?_) rfl (by kernel_rfl) (by kernel_rfl) (by kernel_rfl) (fun _ _ _ h => h) (Or.inl ⟨by rfl, ?_⟩) (by assumption) ?_
      rotate_left
      · (intro w hSw; (try dsimp only at hSw); go_simp; (try with_reducible rfl))
      ((try simp only [Act.put]); (try simp only [List.setIfInBounds_toArray, List.set_cons_zero, List.set_cons_succ]))
      refine wpAnyH_take (i := 3) (oi := { dst := some 12, op := Op.load 24 (Operand.tmp 5), type := 24, pos := "ref.go:52", after := #[{ on := 2, ground := Ground.guard }], guard := some (2, true) }) (v := ?_) rfl (by kernel_rfl) (by kernel_rfl) (by kernel_rfl) (fun _ _ _ h => h) (Or.inl ⟨by rfl, ?_⟩) (by assumption) ?_
      rotate_left
      · (intro w hSw; (try dsimp only at hSw); go_simp; (try with_reducible rfl))
      ((try simp only [Act.put]); (try simp only [List.setIfInBounds_toArray, List.set_cons_zero, List.set_cons_succ]))
      refine wpAnyH_ready (rs := [4]) (by kernel_rfl) (by simp) ?_
      refine AllReadyH.cons (o := { dst := some 13, op := Op.call { callee := Callee.value (Operand.func 12), args := #[Operand.tmp 12], argTypes := #[24] }, type := 4, pos := "ref.go:52", after := #[{ on := 3, ground := Ground.data }, { on := 2, ground := Ground.chain }, { on := 2, ground := Ground.guard }], guard := some (2, true) }) rfl (fun K hK => ?_) AllReadyH.nil
      go_simp
      (go_at_call 12; ((with_reducible refine (HC1.out _ ?hq).mono ?_); (case hq => exact ((Kp.refl wn).drew.step hbS_0)); rintro x wS_1 ⟨rfl, hbS_1⟩))
      go_wp2_with fail
      refine hK.out _ _ ?_ (fun hH2 => ?_)
      · with_reducible exact ⟨keep_cell (((Kp.refl wn).drew.step hbS_0).step hbS_1).out a0, keep_cell (((Kp.refl wn).drew.step hbS_0).step hbS_1).out a1, keep_cell (((Kp.refl wn).drew.step hbS_0).step hbS_1).out b0, keep_cell (((Kp.refl wn).drew.step hbS_0).step hbS_1).out b1, keep_cell (((Kp.refl wn).drew.step hbS_0).step hbS_1).out c0, keep_cell (((Kp.refl wn).drew.step hbS_0).step hbS_1).out c1, keep_cell (((Kp.refl wn).drew.step hbS_0).step hbS_1).out d0, keep_cell (((Kp.refl wn).drew.step hbS_0).step hbS_1).out d1, (((Kp.refl wn).drew.step hbS_0).step hbS_1)⟩
      clear hK K hH1
      ((try simp only [Act.put]); (try simp only [List.setIfInBounds_toArray, List.set_cons_zero, List.set_cons_succ]))
      refine wpAnyH_take (i := 5) (oi := { dst := some 14, op := Op.pick (Operand.tmp 11) (Operand.tmp 13) (Operand.const (Value.bool false)), type := 4, pos := "ref.go:52", after := #[{ on := 2, ground := Ground.data }, { on := 4, ground := Ground.data }], guard := none }) (v := ?_) rfl (by kernel_rfl) (by kernel_rfl) (by kernel_rfl) (fun _ _ _ h => h) (Or.inl ⟨by rfl, ?_⟩) (by assumption) ?_
      rotate_left
      · (intro w hSw; (try dsimp only at hSw); go_simp; (try with_reducible rfl))
      ((try simp only [Act.put]); (try simp only [List.setIfInBounds_toArray, List.set_cons_zero, List.set_cons_succ]))
      refine wpAnyH_take (i := 6) (oi := { dst := some 15, op := Op.move (Operand.tmp 14), type := 4, pos := "ref.go:52", after := #[{ on := 5, ground := Ground.data }, { on := 4, ground := Ground.chain }], guard := none }) (v := ?_) rfl (by kernel_rfl) (by kernel_rfl) (by kernel_rfl) (fun _ _ _ h => h) (Or.inl ⟨by rfl, ?_⟩) (by assumption) ?_
      rotate_left
      · (intro w hSw; (try dsimp only at hSw); go_simp; (try with_reducible rfl))
      ((try simp only [Act.put]); (try simp only [List.setIfInBounds_toArray, List.set_cons_zero, List.set_cons_succ]))
      refine wpAnyH_take (i := 7) (oi := { dst := some 16, op := Op.load 24 (Operand.tmp 6), type := 24, pos := "ref.go:52", after := #[{ on := 6, ground := Ground.guard }], guard := some (6, true) }) (v := undef) rfl (by kernel_rfl) (by kernel_rfl) (by kernel_rfl) (fun _ _ _ h => h) (Or.inr ⟨by rfl, rfl⟩) (by assumption) ?_
      ((try simp only [Act.put]); (try simp only [List.setIfInBounds_toArray, List.set_cons_zero, List.set_cons_succ]))
      refine wpAnyH_take (i := 8) (oi := { dst := some 17, op := Op.call { callee := Callee.value (Operand.func 12), args := #[Operand.tmp 16], argTypes := #[24] }, type := 4, pos := "ref.go:52", after := #[{ on := 7, ground := Ground.data }, { on := 6, ground := Ground.chain }, { on := 6, ground := Ground.guard }], guard := some (6, true) }) (v := undef) rfl (by kernel_rfl) (by kernel_rfl) (by kernel_rfl) (fun _ _ _ h => h) (Or.inr ⟨by rfl, rfl⟩) (by assumption) ?_
      ((try simp only [Act.put]); (try simp only [List.setIfInBounds_toArray, List.set_cons_zero, List.set_cons_succ]))
      refine wpAnyH_take (i := 9) (oi := { dst := some 18, op := Op.pick (Operand.tmp 15) (Operand.tmp 17) (Operand.const (Value.bool false)), type := 4, pos := "ref.go:52", after := #[{ on := 6, ground := Ground.data }, { on := 8, ground := Ground.data }], guard := none }) (v := ?_) rfl (by kernel_rfl) (by kernel_rfl) (by kernel_rfl) (fun _ _ _ h => h) (Or.inl ⟨by rfl, ?_⟩) (by assumption) ?_
      rotate_left
      · (intro w hSw; (try dsimp only at hSw); go_simp; (try with_reducible rfl))
      ((try simp only [Act.put]); (try simp only [List.setIfInBounds_toArray, List.set_cons_zero, List.set_cons_succ]))
      refine wpAnyH_take (i := 10) (oi := { dst := some 19, op := Op.move (Operand.tmp 18), type := 4, pos := "ref.go:52", after := #[{ on := 9, ground := Ground.data }, { on := 8, ground := Ground.chain }], guard := none }) (v := ?_) rfl (by kernel_rfl) (by kernel_rfl) (by kernel_rfl) (fun _ _ _ h => h) (Or.inl ⟨by rfl, ?_⟩) (by assumption) ?_
      rotate_left
      · (intro w hSw; (try dsimp only at hSw); go_simp; (try with_reducible rfl))
      ((try simp only [Act.put]); (try simp only [List.setIfInBounds_toArray, List.set_cons_zero, List.set_cons_succ]))
      refine wpAnyH_take (i := 11) (oi := { dst := some 20, op := Op.load 24 (Operand.tmp 7), type := 24, pos := "ref.go:52", after := #[{ on := 10, ground := Ground.guard }], guard := some (10, true) }) (v := undef) rfl (by kernel_rfl) (by kernel_rfl) (by kernel_rfl) (fun _ _ _ h => h) (Or.inr ⟨by rfl, rfl⟩) (by assumption) ?_
      ((try simp only [Act.put]); (try simp only [List.setIfInBounds_toArray, List.set_cons_zero, List.set_cons_succ]))
      refine wpAnyH_take (i := 12) (oi := { dst := some 21, op := Op.call { callee := Callee.value (Operand.func 12), args := #[Operand.tmp 20], argTypes := #[24] }, type := 4, pos := "ref.go:52", after := #[{ on := 11, ground := Ground.data }, { on := 10, ground := Ground.chain }, { on := 10, ground := Ground.guard }], guard := some (10, true) }) (v := undef) rfl (by kernel_rfl) (by kernel_rfl) (by kernel_rfl) (fun _ _ _ h => h) (Or.inr ⟨by rfl, rfl⟩) (by assumption) ?_
      ((try simp only [Act.put]); (try simp only [List.setIfInBounds_toArray, List.set_cons_zero, List.set_cons_succ]))
      refine wpAnyH_take (i := 13) (oi := { dst := some 22, op := Op.pick (Operand.tmp 19) (Operand.tmp 21) (Operand.const (Value.bool false)), type := 4, pos := "ref.go:52", after := #[{ on := 10, ground := Ground.data }, { on := 12, ground := Ground.data }], guard := none }) (v := ?_) rfl (by kernel_rfl) (by kernel_rfl) (by kernel_rfl) (fun _ _ _ h => h) (Or.inl ⟨by rfl, ?_⟩) (by assumption) ?_
      rotate_left
      · (intro w hSw; (try dsimp only at hSw); go_simp; (try with_reducible rfl))
      ((try simp only [Act.put]); (try simp only [List.setIfInBounds_toArray, List.set_cons_zero, List.set_cons_succ]))
      refine wpAnyH_take (i := 14) (oi := { dst := some 23, op := Op.move (Operand.tmp 22), type := 4, pos := "ref.go:52", after := #[{ on := 13, ground := Ground.data }, { on := 12, ground := Ground.chain }], guard := none }) (v := ?_) rfl (by kernel_rfl) (by kernel_rfl) (by kernel_rfl) (fun _ _ _ h => h) (Or.inl ⟨by rfl, ?_⟩) (by assumption) ?_
      rotate_left
      · (intro w hSw; (try dsimp only at hSw); go_simp; (try with_reducible rfl))
      ((try simp only [Act.put]); (try simp only [List.setIfInBounds_toArray, List.set_cons_zero, List.set_cons_succ]))
      refine wpAnyH_take (i := 15) (oi := { dst := some 24, op := Op.load 24 (Operand.tmp 4), type := 24, pos := "ref.go:52", after := #[{ on := 14, ground := Ground.guard }], guard := some (14, true) }) (v := undef) rfl (by kernel_rfl) (by kernel_rfl) (by kernel_rfl) (fun _ _ _ h => h) (Or.inr ⟨by rfl, rfl⟩) (by assumption) ?_
      ((try simp only [Act.put]); (try simp only [List.setIfInBounds_toArray, List.set_cons_zero, List.set_cons_succ]))
      refine wpAnyH_take (i := 16) (oi := { dst := some 25, op := Op.load 24 (Operand.tmp 5), type := 24, pos := "ref.go:52", after := #[{ on := 14, ground := Ground.guard }], guard := some (14, true) }) (v := undef) rfl (by kernel_rfl) (by kernel_rfl) (by kernel_rfl) (fun _ _ _ h => h) (Or.inr ⟨by rfl, rfl⟩) (by assumption) ?_
      ((try simp only [Act.put]); (try simp only [List.setIfInBounds_toArray, List.set_cons_zero, List.set_cons_succ]))
      refine wpAnyH_take (i := 17) (oi := { dst := some 26, op := Op.load 24 (Operand.tmp 6), type := 24, pos := "ref.go:52", after := #[{ on := 14, ground := Ground.guard }], guard := some (14, true) }) (v := undef) rfl (by kernel_rfl) (by kernel_rfl) (by kernel_rfl) (fun _ _ _ h => h) (Or.inr ⟨by rfl, rfl⟩) (by assumption) ?_
      ((try simp only [Act.put]); (try simp only [List.setIfInBounds_toArray, List.set_cons_zero, List.set_cons_succ]))
      refine wpAnyH_take (i := 18) (oi := { dst := some 27, op := Op.call { callee := Callee.value (Operand.func 9), args := #[Operand.tmp 24, Operand.tmp 25, Operand.tmp 26], argTypes := #[24, 24, 24] }, type := 3, pos := "ref.go:52", after := #[{ on := 15, ground := Ground.data }, { on := 16, ground := Ground.data }, { on := 17, ground := Ground.data }, { on := 14, ground := Ground.chain }, { on := 14, ground := Ground.guard }], guard := some (14, true) }) (v := undef) rfl (by kernel_rfl) (by kernel_rfl) (by kernel_rfl) (fun _ _ _ h => h) (Or.inr ⟨by rfl, rfl⟩) (by assumption) ?_
      ((try simp only [Act.put]); (try simp only [List.setIfInBounds_toArray, List.set_cons_zero, List.set_cons_succ]))
      refine wpAnyH_take (i := 19) (oi := { dst := some 28, op := Op.load 24 (Operand.tmp 4), type := 24, pos := "ref.go:52", after := #[{ on := 14, ground := Ground.guard }], guard := some (14, true) }) (v := undef) rfl (by kernel_rfl) (by kernel_rfl) (by kernel_rfl) (fun _ _ _ h => h) (Or.inr ⟨by rfl, rfl⟩) (by assumption) ?_
      ((try simp only [Act.put]); (try simp only [List.setIfInBounds_toArray, List.set_cons_zero, List.set_cons_succ]))
      refine wpAnyH_take (i := 20) (oi := { dst := some 29, op := Op.load 24 (Operand.tmp 5), type := 24, pos := "ref.go:52", after := #[{ on := 14, ground := Ground.guard }], guard := some (14, true) }) (v := undef) rfl (by kernel_rfl) (by kernel_rfl) (by kernel_rfl) (fun _ _ _ h => h) (Or.inr ⟨by rfl, rfl⟩) (by assumption) ?_
      ((try simp only [Act.put]); (try simp only [List.setIfInBounds_toArray, List.set_cons_zero, List.set_cons_succ]))
      refine wpAnyH_take (i := 21) (oi := { dst := some 30, op := Op.load 24 (Operand.tmp 7), type := 24, pos := "ref.go:52", after := #[{ on := 14, ground := Ground.guard }], guard := some (14, true) }) (v := undef) rfl (by kernel_rfl) (by kernel_rfl) (by kernel_rfl) (fun _ _ _ h => h) (Or.inr ⟨by rfl, rfl⟩) (by assumption) ?_
      ((try simp only [Act.put]); (try simp only [List.setIfInBounds_toArray, List.set_cons_zero, List.set_cons_succ]))
      refine wpAnyH_take (i := 22) (oi := { dst := some 31, op := Op.call { callee := Callee.value (Operand.func 9), args := #[Operand.tmp 28, Operand.tmp 29, Operand.tmp 30], argTypes := #[24, 24, 24] }, type := 3, pos := "ref.go:52", after := #[{ on := 19, ground := Ground.data }, { on := 20, ground := Ground.data }, { on := 21, ground := Ground.data }, { on := 18, ground := Ground.chain }, { on := 14, ground := Ground.guard }], guard := some (14, true) }) (v := undef) rfl (by kernel_rfl) (by kernel_rfl) (by kernel_rfl) (fun _ _ _ h => h) (Or.inr ⟨by rfl, rfl⟩) (by assumption) ?_
      ((try simp only [Act.put]); (try simp only [List.setIfInBounds_toArray, List.set_cons_zero, List.set_cons_succ]))
      refine wpAnyH_take (i := 23) (oi := { dst := some 32, op := Op.binOp BinOp.mul 3 (Operand.tmp 27) (Operand.tmp 31) 3, type := 3, pos := "ref.go:52", after := #[{ on := 18, ground := Ground.data }, { on := 22, ground := Ground.data }, { on := 14, ground := Ground.guard }], guard := some (14, true) }) (v := undef) rfl (by kernel_rfl) (by kernel_rfl) (by kernel_rfl) (fun _ _ _ h => h) (Or.inr ⟨by rfl, rfl⟩) (by assumption) ?_
      ((try simp only [Act.put]); (try simp only [List.setIfInBounds_toArray, List.set_cons_zero, List.set_cons_succ]))
      refine wpAnyH_take (i := 24) (oi := { dst := some 33, op := Op.binOp BinOp.lss 3 (Operand.tmp 32) (Operand.const (Value.int IntKind.i64 0)) 3, type := 4, pos := "ref.go:52", after := #[{ on := 23, ground := Ground.data }, { on := 14, ground := Ground.guard }], guard := some (14, true) }) (v := undef) rfl (by kernel_rfl) (by kernel_rfl) (by kernel_rfl) (fun _ _ _ h => h) (Or.inr ⟨by rfl, rfl⟩) (by assumption) ?_
      ((try simp only [Act.put]); (try simp only [List.setIfInBounds_toArray, List.set_cons_zero, List.set_cons_succ]))
      refine wpAnyH_take (i := 25) (oi := { dst := some 34, op := Op.pick (Operand.tmp 23) (Operand.tmp 33) (Operand.const (Value.bool false)), type := 4, pos := "ref.go:52", after := #[{ on := 14, ground := Ground.data }, { on := 24, ground := Ground.data }], guard := none }) (v := ?_) rfl (by kernel_rfl) (by kernel_rfl) (by kernel_rfl) (fun _ _ _ h => h) (Or.inl ⟨by rfl, ?_⟩) (by assumption) ?_
      rotate_left
      · (intro w hSw; (try dsimp only at hSw); go_simp; (try with_reducible rfl))
      ((try simp only [Act.put]); (try simp only [List.setIfInBounds_toArray, List.set_cons_zero, List.set_cons_succ]))
      refine wpAnyH_take (i := 26) (oi := { dst := some 35, op := Op.move (Operand.tmp 34), type := 4, pos := "ref.go:52", after := #[{ on := 25, ground := Ground.data }, { on := 22, ground := Ground.chain }], guard := none }) (v := ?_) rfl (by kernel_rfl) (by kernel_rfl) (by kernel_rfl) (fun _ _ _ h => h) (Or.inl ⟨by rfl, ?_⟩) (by assumption) ?_
      rotate_left
      · (intro w hSw; (try dsimp only at hSw); go_simp; (try with_reducible rfl))
      ((try simp only [Act.put]); (try simp only [List.setIfInBounds_toArray, List.set_cons_zero, List.set_cons_succ]))
      refine wpAnyH_take (i := 27) (oi := { dst := some 36, op := Op.load 24 (Operand.tmp 6), type := 24, pos := "ref.go:52", after := #[{ on := 26, ground := Ground.guard }], guard := some (26, true) }) (v := undef) rfl (by kernel_rfl) (by kernel_rfl) (by kernel_rfl) (fun _ _ _ h => h) (Or.inr ⟨by rfl, rfl⟩) (by assumption) ?_
      ((try simp only [Act.put]); (try simp only [List.setIfInBounds_toArray, List.set_cons_zero, List.set_cons_succ]))
      refine wpAnyH_take (i := 28) (oi := { dst := some 37, op := Op.load 24 (Operand.tmp 7), type := 24, pos := "ref.go:52", after := #[{ on := 26, ground := Ground.guard }], guard := some (26, true) }) (v := undef) rfl (by kernel_rfl) (by kernel_rfl) (by kernel_rfl) (fun _ _ _ h => h) (Or.inr ⟨by rfl, rfl⟩) (by assumption) ?_
      ((try simp only [Act.put]); (try simp only [List.setIfInBounds_toArray, List.set_cons_zero, List.set_cons_succ]))
      refine wpAnyH_take (i := 29) (oi := { dst := some 38, op := Op.load 24 (Operand.tmp 4), type := 24, pos := "ref.go:52", after := #[{ on := 26, ground := Ground.guard }], guard := some (26, true) }) (v := undef) rfl (by kernel_rfl) (by kernel_rfl) (by kernel_rfl) (fun _ _ _ h => h) (Or.inr ⟨by rfl, rfl⟩) (by assumption) ?_
      ((try simp only [Act.put]); (try simp only [List.setIfInBounds_toArray, List.set_cons_zero, List.set_cons_succ]))
      refine wpAnyH_take (i := 30) (oi := { dst := some 39, op := Op.call { callee := Callee.value (Operand.func 9), args := #[Operand.tmp 36, Operand.tmp 37, Operand.tmp 38], argTypes := #[24, 24, 24] }, type := 3, pos := "ref.go:52", after := #[{ on := 27, ground := Ground.data }, { on := 28, ground := Ground.data }, { on := 29, ground := Ground.data }, { on := 26, ground := Ground.chain }, { on := 26, ground := Ground.guard }], guard := some (26, true) }) (v := undef) rfl (by kernel_rfl) (by kernel_rfl) (by kernel_rfl) (fun _ _ _ h => h) (Or.inr ⟨by rfl, rfl⟩) (by assumption) ?_
      ((try simp only [Act.put]); (try simp only [List.setIfInBounds_toArray, List.set_cons_zero, List.set_cons_succ]))
      refine wpAnyH_take (i := 31) (oi := { dst := some 40, op := Op.load 24 (Operand.tmp 6), type := 24, pos := "ref.go:52", after := #[{ on := 26, ground := Ground.guard }], guard := some (26, true) }) (v := undef) rfl (by kernel_rfl) (by kernel_rfl) (by kernel_rfl) (fun _ _ _ h => h) (Or.inr ⟨by rfl, rfl⟩) (by assumption) ?_
      ((try simp only [Act.put]); (try simp only [List.setIfInBounds_toArray, List.set_cons_zero, List.set_cons_succ]))
      refine wpAnyH_take (i := 32) (oi := { dst := some 41, op := Op.load 24 (Operand.tmp 7), type := 24, pos := "ref.go:52", after := #[{ on := 26, ground := Ground.guard }], guard := some (26, true) }) (v := undef) rfl (by kernel_rfl) (by kernel_rfl) (by kernel_rfl) (fun _ _ _ h => h) (Or.inr ⟨by rfl, rfl⟩) (by assumption) ?_
      ((try simp only [Act.put]); (try simp only [List.setIfInBounds_toArray, List.set_cons_zero, List.set_cons_succ]))
      refine wpAnyH_take (i := 33) (oi := { dst := some 42, op := Op.load 24 (Operand.tmp 5), type := 24, pos := "ref.go:52", after := #[{ on := 26, ground := Ground.guard }], guard := some (26, true) }) (v := undef) rfl (by kernel_rfl) (by kernel_rfl) (by kernel_rfl) (fun _ _ _ h => h) (Or.inr ⟨by rfl, rfl⟩) (by assumption) ?_
      ((try simp only [Act.put]); (try simp only [List.setIfInBounds_toArray, List.set_cons_zero, List.set_cons_succ]))
      refine wpAnyH_take (i := 34) (oi := { dst := some 43, op := Op.call { callee := Callee.value (Operand.func 9), args := #[Operand.tmp 40, Operand.tmp 41, Operand.tmp 42], argTypes := #[24, 24, 24] }, type := 3, pos := "ref.go:52", after := #[{ on := 31, ground := Ground.data }, { on := 32, ground := Ground.data }, { on := 33, ground := Ground.data }, { on := 30, ground := Ground.chain }, { on := 26, ground := Ground.guard }], guard := some (26, true) }) (v := undef) rfl (by kernel_rfl) (by kernel_rfl) (by kernel_rfl) (fun _ _ _ h => h) (Or.inr ⟨by rfl, rfl⟩) (by assumption) ?_
      ((try simp only [Act.put]); (try simp only [List.setIfInBounds_toArray, List.set_cons_zero, List.set_cons_succ]))
      refine wpAnyH_take (i := 35) (oi := { dst := some 44, op := Op.binOp BinOp.mul 3 (Operand.tmp 39) (Operand.tmp 43) 3, type := 3, pos := "ref.go:52", after := #[{ on := 30, ground := Ground.data }, { on := 34, ground := Ground.data }, { on := 26, ground := Ground.guard }], guard := some (26, true) }) (v := undef) rfl (by kernel_rfl) (by kernel_rfl) (by kernel_rfl) (fun _ _ _ h => h) (Or.inr ⟨by rfl, rfl⟩) (by assumption) ?_
      ((try simp only [Act.put]); (try simp only [List.setIfInBounds_toArray, List.set_cons_zero, List.set_cons_succ]))
      refine wpAnyH_take (i := 36) (oi := { dst := some 45, op := Op.binOp BinOp.lss 3 (Operand.tmp 44) (Operand.const (Value.int IntKind.i64 0)) 3, type := 4, pos := "ref.go:52", after := #[{ on := 35, ground := Ground.data }, { on := 26, ground := Ground.guard }], guard := some (26, true) }) (v := undef) rfl (by kernel_rfl) (by kernel_rfl) (by kernel_rfl) (fun _ _ _ h => h) (Or.inr ⟨by rfl, rfl⟩) (by assumption) ?_
      ((try simp only [Act.put]); (try simp only [List.setIfInBounds_toArray, List.set_cons_zero, List.set_cons_succ]))
      refine wpAnyH_take (i := 37) (oi := { dst := some 46, op := Op.pick (Operand.tmp 35) (Operand.tmp 45) (Operand.const (Value.bool false)), type := 4, pos := "ref.go:52", after := #[{ on := 26, ground := Ground.data }, { on := 36, ground := Ground.data }], guard := none }) (v := ?_) rfl (by kernel_rfl) (by kernel_rfl) (by kernel_rfl) (fun _ _ _ h => h) (Or.inl ⟨by rfl, ?_⟩) (by assumption) ?_
      rotate_left
      · (intro w hSw; (try dsimp only at hSw); go_simp; (try with_reducible rfl))
      ((try simp only [Act.put]); (try simp only [List.setIfInBounds_toArray, List.set_cons_zero, List.set_cons_succ]))
      refine wpAnyH_take (i := 38) (oi := { dst := some 8, op := Op.assign (Operand.tmp 46), type := 4, pos := "ref.go:52", after := #[{ on := 37, ground := Ground.data }, { on := 34, ground := Ground.chain }, { on := 0, ground := Ground.phase }, { on := 1, ground := Ground.phase }, { on := 2, ground := Ground.phase }, { on := 3, ground := Ground.phase }, { on := 4, ground := Ground.phase }, { on := 5, ground := Ground.phase }, { on := 6, ground := Ground.phase }, { on := 7, ground := Ground.phase }, { on := 8, ground := Ground.phase }, { on := 9, ground := Ground.phase }, { on := 10, ground := Ground.phase }, { on := 11, ground := Ground.phase }, { on := 12, ground := Ground.phase }, { on := 13, ground := Ground.phase }, { on := 14, ground := Ground.phase }, { on := 15, ground := Ground.phase }, { on := 16, ground := Ground.phase }, { on := 17, ground := Ground.phase }, { on := 18, ground := Ground.phase }, { on := 19, ground := Ground.phase }, { on := 20, ground := Ground.phase }, { on := 21, ground := Ground.phase }, { on := 22, ground := Ground.phase }, { on := 23, ground := Ground.phase }, { on := 24, ground := Ground.phase }, { on := 25, ground := Ground.phase }, { on := 26, ground := Ground.phase }, { on := 27, ground := Ground.phase }, { on := 28, ground := Ground.phase }, { on := 29, ground := Ground.phase }, { on := 30, ground := Ground.phase }, { on := 31, ground := Ground.phase }, { on := 32, ground := Ground.phase }, { on := 33, ground := Ground.phase }, { on := 34, ground := Ground.phase }, { on := 35, ground := Ground.phase }, { on := 36, ground := Ground.phase }, { on := 37, ground := Ground.phase }], guard := none }) (v := ?_) rfl (by kernel_rfl) (by kernel_rfl) (by kernel_rfl) (fun _ _ _ h => h) (Or.inl ⟨by rfl, ?_⟩) (by assumption) ?_
      rotate_left
      · (intro w hSw; (try dsimp only at hSw); go_simp; (try with_reducible rfl))
      ((try simp only [Act.put]); (try simp only [List.setIfInBounds_toArray, List.set_cons_zero, List.set_cons_succ]))
      refine wpAnyH_done (by kernel_rfl) ?_ _
      clear hH2
      go_wp2_with fail
      go_ret
      exact ⟨rfl, bl_pack HW.out HW.out.size (((Kp.refl wn).drew.step hbS_0).step hbS_1).out⟩
    | true =>
      cases C with
      | false =>
        go_enter Tryd.func18, Tryd.ntmps18
        go_wp2_with fail
        rw [← hwn]
        clear hwn
        have HC0 := Lib.hid (fun (Y : World) (h' : Kp wn Y) => HM0.out Y)
        have HC1 := Lib.hid (fun (Y : World) (h' : Kp wn Y) => HM1.out Y)
        have HC2 := Lib.hid (fun (Y : World) (h' : Kp wn Y) => HM2.out Y)
        refine wp_region_held_drew (S := fun w' => w'.cell? ⟨w.heap.size, 0, none⟩ = some (.float .f64 ax) ∧ w'.cell? ⟨w.heap.size, 1, none⟩ = some (.float .f64 ay) ∧ w'.cell? ⟨w.heap.size + 1, 0, none⟩ = some (.float .f64 bx) ∧ w'.cell? ⟨w.heap.size + 1, 1, none⟩ = some (.float .f64 bY) ∧ w'.cell? ⟨w.heap.size + 1 + 1, 0, none⟩ = some (.float .f64 cx) ∧ w'.cell? ⟨w.heap.size + 1 + 1, 1, none⟩ = some (.float .f64 cy) ∧ w'.cell? ⟨w.heap.size + 1 + 1 + 1, 0, none⟩ = some (.float .f64 dx) ∧ w'.cell? ⟨w.heap.size + 1 + 1 + 1, 1, none⟩ = some (.float .f64 dy) ∧ Kp wn w') (by kernel_rfl) ?_ (fun hH0 => ?_)
        · with_reducible exact ⟨keep_cell (Kp.refl wn).drew.out a0, keep_cell (Kp.refl wn).drew.out a1, keep_cell (Kp.refl wn).drew.out b0, keep_cell (Kp.refl wn).drew.out b1, keep_cell (Kp.refl wn).drew.out c0, keep_cell (Kp.refl wn).drew.out c1, keep_cell (Kp.refl wn).drew.out d0, keep_cell (Kp.refl wn).drew.out d1, (Kp.refl wn).drew⟩
        show wpAnyH _ _ _ _ _ _ (#[false, false, false, false, false, false, false, false, false, false, false, false, false, false, false, false, false, false, false, false, false, false, false, false, false, false, false, false, false, false, false, false, false, false, false, false, false, false, false] : Array Bool) _ _
        refine wpAnyH_take (i := 0) (oi := { dst := some 9, op := Op.load 24 (Operand.tmp 4), type := 24, pos := "ref.go:52", after := #[], guard := none }) (v := ?_) rfl (by kernel_rfl) (by kernel_rfl) (by kernel_rfl) (fun _ _ _ h => h) (Or.inl ⟨by rfl, ?_⟩) (by assumption) ?_
        rotate_left
        · (intro w hSw; (try dsimp only at hSw); go_simp; (try with_reducible rfl))
        ((try simp only [Act.put]); (try simp only [List.setIfInBounds_toArray, List.set_cons_zero, List.set_cons_succ]))
        refine wpAnyH_ready (rs := [1]) (by kernel_rfl) (by simp) ?_
        refine AllReadyH.cons (o := { dst := some 10, op := Op.call { callee := Callee.value (Operand.func 12), args := #[Operand.tmp 9], argTypes := #[24] }, type := 4, pos := "ref.go:52", after := #[{ on := 0, ground := Ground.data }], guard := none }) rfl (fun K hK => ?_) AllReadyH.nil
        go_simp
        (go_at_call 12; ((with_reducible refine (HC0.out _ ?hq).mono ?_); (case hq => exact (Kp.refl wn).drew); rintro x wS_0 ⟨rfl, hbS_0⟩))
        go_wp2_with fail
        refine hK.out _ _ ?_ (fun hH1 => ?_)
        · with_reducible exact ⟨keep_cell ((Kp.refl wn).drew.step hbS_0).out a0, keep_cell ((Kp.refl wn).drew.step hbS_0).out a1, keep_cell ((Kp.refl wn).drew.step hbS_0).out b0, keep_cell ((Kp.refl wn).drew.step hbS_0).out b1, keep_cell ((Kp.refl wn).drew.step hbS_0).out c0, keep_cell ((Kp.refl wn).drew.step hbS_0).out c1, keep_cell ((Kp.refl wn).drew.step hbS_0).out d0, keep_cell ((Kp.refl wn).drew.step hbS_0).out d1, ((Kp.refl wn).drew.step hbS_0)⟩
        clear hK K hH0
        ((try simp only [Act.put]); (try simp only [List.setIfInBounds_toArray, List.set_cons_zero, List.set_cons_succ]))
        refine wpAnyH_take (i := 2) (oi := { dst := some 11, op := Op.move (Operand.tmp 10), type := 4, pos := "ref.go:52", after := #[{ on := 1, ground := Ground.data }, { on := 1, ground := Ground.chain }], guard := none }) (v := ?_) rfl (by kernel_rfl) (by kernel_rfl) (by kernel_rfl) (fun _ _ _ h => h) (Or.inl ⟨by rfl, ?_⟩) (by assumption) ?_
        rotate_left
        · (intro w hSw; (try dsimp only at hSw); go_simp; (try with_reducible rfl))
        ((try simp only [Act.put]); (try simp only [List.setIfInBounds_toArray, List.set_cons_zero, List.set_cons_succ]))
        refine wpAnyH_take (i := 3) (oi := { dst := some 12, op := Op.load 24 (Operand.tmp 5), type := 24, pos := "ref.go:52", after := #[{ on := 2, ground := Ground.guard }], guard := some (2, true) }) (v := ?_) rfl (by kernel_rfl) (by kernel_rfl) (by kernel_rfl) (fun _ _ _ h => h) (Or.inl ⟨by rfl, ?_⟩) (by assumption) ?_
        rotate_left
        · (intro w hSw; (try dsimp only at hSw); go_simp; (try with_reducible rfl))
        ((try simp only [Act.put]); (try simp only [List.setIfInBounds_toArray, List.set_cons_zero, List.set_cons_succ]))
        refine wpAnyH_ready (rs := [4]) (by kernel_rfl) (by simp) ?_
        refine AllReadyH.cons (o := { dst := some 13, op := Op.call { callee := Callee.value (Operand.func 12), args := #[Operand.tmp 12], argTypes := #[24] }, type := 4, pos := "ref.go:52", after := #[{ on := 3, ground := Ground.data }, { on := 2, ground := Ground.chain }, { on := 2, ground := Ground.guard }], guard := some (2, true) }) rfl (fun K hK => ?_) AllReadyH.nil
        go_simp
        (go_at_call 12; ((with_reducible refine (HC1.out _ ?hq).mono ?_); (case hq => exact ((Kp.refl wn).drew.step hbS_0)); rintro x wS_1 ⟨rfl, hbS_1⟩))
        go_wp2_with fail
        refine hK.out _ _ ?_ (fun hH2 => ?_)
        · with_reducible exact ⟨keep_cell (((Kp.refl wn).drew.step hbS_0).step hbS_1).out a0, keep_cell (((Kp.refl wn).drew.step hbS_0).step hbS_1).out a1, keep_cell (((Kp.refl wn).drew.step hbS_0).step hbS_1).out b0, keep_cell (((Kp.refl wn).drew.step hbS_0).step hbS_1).out b1, keep_cell (((Kp.refl wn).drew.step hbS_0).step hbS_1).out c0, keep_cell (((Kp.refl wn).drew.step hbS_0).step hbS_1).out c1, keep_cell (((Kp.refl wn).drew.step hbS_0).step hbS_1).out d0, keep_cell (((Kp.refl wn).drew.step hbS_0).step hbS_1).out d1, (((Kp.refl wn).drew.step hbS_0).step hbS_1)⟩
        clear hK K hH1
        ((try simp only [Act.put]); (try simp only [List.setIfInBounds_toArray, List.set_cons_zero, List.set_cons_succ]))
        refine wpAnyH_take (i := 5) (oi := { dst := some 14, op := Op.pick (Operand.tmp 11) (Operand.tmp 13) (Operand.const (Value.bool false)), type := 4, pos := "ref.go:52", after := #[{ on := 2, ground := Ground.data }, { on := 4, ground := Ground.data }], guard := none }) (v := ?_) rfl (by kernel_rfl) (by kernel_rfl) (by kernel_rfl) (fun _ _ _ h => h) (Or.inl ⟨by rfl, ?_⟩) (by assumption) ?_
        rotate_left
        · (intro w hSw; (try dsimp only at hSw); go_simp; (try with_reducible rfl))
        ((try simp only [Act.put]); (try simp only [List.setIfInBounds_toArray, List.set_cons_zero, List.set_cons_succ]))
        refine wpAnyH_take (i := 6) (oi := { dst := some 15, op := Op.move (Operand.tmp 14), type := 4, pos := "ref.go:52", after := #[{ on := 5, ground := Ground.data }, { on := 4, ground := Ground.chain }], guard := none }) (v := ?_) rfl (by kernel_rfl) (by kernel_rfl) (by kernel_rfl) (fun _ _ _ h => h) (Or.inl ⟨by rfl, ?_⟩) (by assumption) ?_
        rotate_left
        · (intro w hSw; (try dsimp only at hSw); go_simp; (try with_reducible rfl))
        ((try simp only [Act.put]); (try simp only [List.setIfInBounds_toArray, List.set_cons_zero, List.set_cons_succ]))
        refine wpAnyH_take (i := 7) (oi := { dst := some 16, op := Op.load 24 (Operand.tmp 6), type := 24, pos := "ref.go:52", after := #[{ on := 6, ground := Ground.guard }], guard := some (6, true) }) (v := ?_) rfl (by kernel_rfl) (by kernel_rfl) (by kernel_rfl) (fun _ _ _ h => h) (Or.inl ⟨by rfl, ?_⟩) (by assumption) ?_
        rotate_left
        · (intro w hSw; (try dsimp only at hSw); go_simp; (try with_reducible rfl))
        ((try simp only [Act.put]); (try simp only [List.setIfInBounds_toArray, List.set_cons_zero, List.set_cons_succ]))
        refine wpAnyH_ready (rs := [8]) (by kernel_rfl) (by simp) ?_
        refine AllReadyH.cons (o := { dst := some 17, op := Op.call { callee := Callee.value (Operand.func 12), args := #[Operand.tmp 16], argTypes := #[24] }, type := 4, pos := "ref.go:52", after := #[{ on := 7, ground := Ground.data }, { on := 6, ground := Ground.chain }, { on := 6, ground := Ground.guard }], guard := some (6, true) }) rfl (fun K hK => ?_) AllReadyH.nil
        go_simp
        (go_at_call 12; ((with_reducible refine (HC2.out _ ?hq).mono ?_); (case hq => exact (((Kp.refl wn).drew.step hbS_0).step hbS_1)); rintro x wS_2 ⟨rfl, hbS_2⟩))
        go_wp2_with fail
        refine hK.out _ _ ?_ (fun hH3 => ?_)
        · with_reducible exact ⟨keep_cell ((((Kp.refl wn).drew.step hbS_0).step hbS_1).step hbS_2).out a0, keep_cell ((((Kp.refl wn).drew.step hbS_0).step hbS_1).step hbS_2).out a1, keep_cell ((((Kp.refl wn).drew.step hbS_0).step hbS_1).step hbS_2).out b0, keep_cell ((((Kp.refl wn).drew.step hbS_0).step hbS_1).step hbS_2).out b1, keep_cell ((((Kp.refl wn).drew.step hbS_0).step hbS_1).step hbS_2).out c0, keep_cell ((((Kp.refl wn).drew.step hbS_0).step hbS_1).step hbS_2).out c1, keep_cell ((((Kp.refl wn).drew.step hbS_0).step hbS_1).step hbS_2).out d0, keep_cell ((((Kp.refl wn).drew.step hbS_0).step hbS_1).step hbS_2).out d1, ((((Kp.refl wn).drew.step hbS_0).step hbS_1).step hbS_2)⟩
        clear hK K hH2
        ((try simp only [Act.put]); (try simp only [List.setIfInBounds_toArray, List.set_cons_zero, List.set_cons_succ]))
        refine wpAnyH_take (i := 9) (oi := { dst := some 18, op := Op.pick (Operand.tmp 15) (Operand.tmp 17) (Operand.const (Value.bool false)), type := 4, pos := "ref.go:52", after := #[{ on := 6, ground := Ground.data }, { on := 8, ground := Ground.data }], guard := none }) (v := ?_) rfl (by kernel_rfl) (by kernel_rfl) (by kernel_rfl) (fun _ _ _ h => h) (Or.inl ⟨by rfl, ?_⟩) (by assumption) ?_
        rotate_left
        · (intro w hSw; (try dsimp only at hSw); go_simp; (try with_reducible rfl))
        ((try simp only [Act.put]); (try simp only [List.setIfInBounds_toArray, List.set_cons_zero, List.set_cons_succ]))
        refine wpAnyH_take (i := 10) (oi := { dst := some 19, op := Op.move (Operand.tmp 18), type := 4, pos := "ref.go:52", after := #[{ on := 9, ground := Ground.data }, { on := 8, ground := Ground.chain }], guard := none }) (v := ?_) rfl (by kernel_rfl) (by kernel_rfl) (by kernel_rfl) (fun _ _ _ h => h) (Or.inl ⟨by rfl, ?_⟩) (by assumption) ?_
        rotate_left
        · (intro w hSw; (try dsimp only at hSw); go_simp; (try with_reducible rfl))
        ((try simp only [Act.put]); (try simp only [List.setIfInBounds_toArray, List.set_cons_zero, List.set_cons_succ]))
        refine wpAnyH_take (i := 11) (oi := { dst := some 20, op := Op.load 24 (Operand.tmp 7), type := 24, pos := "ref.go:52", after := #[{ on := 10, ground := Ground.guard }], guard := some (10, true) }) (v := undef) rfl (by kernel_rfl) (by kernel_rfl) (by kernel_rfl) (fun _ _ _ h => h) (Or.inr ⟨by rfl, rfl⟩) (by assumption) ?_
        ((try simp only [Act.put]); (try simp only [List.setIfInBounds_toArray, List.set_cons_zero, List.set_cons_succ]))
        refine wpAnyH_take (i := 12) (oi := { dst := some 21, op := Op.call { callee := Callee.value (Operand.func 12), args := #[Operand.tmp 20], argTypes := #[24] }, type := 4, pos := "ref.go:52", after := #[{ on := 11, ground := Ground.data }, { on := 10, ground := Ground.chain }, { on := 10, ground := Ground.guard }], guard := some (10, true) }) (v := undef) rfl (by kernel_rfl) (by kernel_rfl) (by kernel_rfl) (fun _ _ _ h => h) (Or.inr ⟨by rfl, rfl⟩) (by assumption) ?_
        ((try simp only [Act.put]); (try simp only [List.setIfInBounds_toArray, List.set_cons_zero, List.set_cons_succ]))
        refine wpAnyH_take (i := 13) (oi := { dst := some 22, op := Op.pick (Operand.tmp 19) (Operand.tmp 21) (Operand.const (Value.bool false)), type := 4, pos := "ref.go:52", after := #[{ on := 10, ground := Ground.data }, { on := 12, ground := Ground.data }], guard := none }) (v := ?_) rfl (by kernel_rfl) (by kernel_rfl) (by kernel_rfl) (fun _ _ _ h => h) (Or.inl ⟨by rfl, ?_⟩) (by assumption) ?_
        rotate_left
        · (intro w hSw; (try dsimp only at hSw); go_simp; (try with_reducible rfl))
        ((try simp only [Act.put]); (try simp only [List.setIfInBounds_toArray, List.set_cons_zero, List.set_cons_succ]))
        refine wpAnyH_take (i := 14) (oi := { dst := some 23, op := Op.move (Operand.tmp 22), type := 4, pos := "ref.go:52", after := #[{ on := 13, ground := Ground.data }, { on := 12, ground := Ground.chain }], guard := none }) (v := ?_) rfl (by kernel_rfl) (by kernel_rfl) (by kernel_rfl) (fun _ _ _ h => h) (Or.inl ⟨by rfl, ?_⟩) (by assumption) ?_
        rotate_left
        · (intro w hSw; (try dsimp only at hSw); go_simp; (try with_reducible rfl))
        ((try simp only [Act.put]); (try simp only [List.setIfInBounds_toArray, List.set_cons_zero, List.set_cons_succ]))
        refine wpAnyH_take (i := 15) (oi := { dst := some 24, op := Op.load 24 (Operand.tmp 4), type := 24, pos := "ref.go:52", after := #[{ on := 14, ground := Ground.guard }], guard := some (14, true) }) (v := undef) rfl (by kernel_rfl) (by kernel_rfl) (by kernel_rfl) (fun _ _ _ h => h) (Or.inr ⟨by rfl, rfl⟩) (by assumption) ?_
        ((try simp only [Act.put]); (try simp only [List.setIfInBounds_toArray, List.set_cons_zero, List.set_cons_succ]))
        refine wpAnyH_take (i := 16) (oi := { dst := some 25, op := Op.load 24 (Operand.tmp 5), type := 24, pos := "ref.go:52", after := #[{ on := 14, ground := Ground.guard }], guard := some (14, true) }) (v := undef) rfl (by kernel_rfl) (by kernel_rfl) (by kernel_rfl) (fun _ _ _ h => h) (Or.inr ⟨by rfl, rfl⟩) (by assumption) ?_
        ((try simp only [Act.put]); (try simp only [List.setIfInBounds_toArray, List.set_cons_zero, List.set_cons_succ]))
        refine wpAnyH_take (i := 17) (oi := { dst := some 26, op := Op.load 24 (Operand.tmp 6), type := 24, pos := "ref.go:52", after := #[{ on := 14, ground := Ground.guard }], guard := some (14, true) }) (v := undef) rfl (by kernel_rfl) (by kernel_rfl) (by kernel_rfl) (fun _ _ _ h => h) (Or.inr ⟨by rfl, rfl⟩) (by assumption) ?_
        ((try simp only [Act.put]); (try simp only [List.setIfInBounds_toArray, List.set_cons_zero, List.set_cons_succ]))
        refine wpAnyH_take (i := 18) (oi := { dst := some 27, op := Op.call { callee := Callee.value (Operand.func 9), args := #[Operand.tmp 24, Operand.tmp 25, Operand.tmp 26], argTypes := #[24, 24, 24] }, type := 3, pos := "ref.go:52", after := #[{ on := 15, ground := Ground.data }, { on := 16, ground := Ground.data }, { on := 17, ground := Ground.data }, { on := 14, ground := Ground.chain }, { on := 14, ground := Ground.guard }], guard := some (14, true) }) (v := undef) rfl (by kernel_rfl) (by kernel_rfl) (by kernel_rfl) (fun _ _ _ h => h) (Or.inr ⟨by rfl, rfl⟩) (by assumption) ?_
        ((try simp only [Act.put]); (try simp only [List.setIfInBounds_toArray, List.set_cons_zero, List.set_cons_succ]))
        refine wpAnyH_take (i := 19) (oi := { dst := some 28, op := Op.load 24 (Operand.tmp 4), type := 24, pos := "ref.go:52", after := #[{ on := 14, ground := Ground.guard }], guard := some (14, true) }) (v := undef) rfl (by kernel_rfl) (by kernel_rfl) (by kernel_rfl) (fun _ _ _ h => h) (Or.inr ⟨by rfl, rfl⟩) (by assumption) ?_
        ((try simp only [Act.put]); (try simp only [List.setIfInBounds_toArray, List.set_cons_zero, List.set_cons_succ]))
        refine wpAnyH_take (i := 20) (oi := { dst := some 29, op := Op.load 24 (Operand.tmp 5), type := 24, pos := "ref.go:52", after := #[{ on := 14, ground := Ground.guard }], guard := some (14, true) }) (v := undef) rfl (by kernel_rfl) (by kernel_rfl) (by kernel_rfl) (fun _ _ _ h => h) (Or.inr ⟨by rfl, rfl⟩) (by assumption) ?_
        ((try simp only [Act.put]); (try simp only [List.setIfInBounds_toArray, List.set_cons_zero, List.set_cons_succ]))
        refine wpAnyH_take (i := 21) (oi := { dst := some 30, op := Op.load 24 (Operand.tmp 7), type := 24, pos := "ref.go:52", after := #[{ on := 14, ground := Ground.guard }], guard := some (14, true) }) (v := undef) rfl (by kernel_rfl) (by kernel_rfl) (by kernel_rfl) (fun _ _ _ h => h) (Or.inr ⟨by rfl, rfl⟩) (by assumption) ?_
        ((try simp only [Act.put]); (try simp only [List.setIfInBounds_toArray, List.set_cons_zero, List.set_cons_succ]))
        refine wpAnyH_take (i := 22) (oi := { dst := some 31, op := Op.call { callee := Callee.value (Operand.func 9), args := #[Operand.tmp 28, Operand.tmp 29, Operand.tmp 30], argTypes := #[24, 24, 24] }, type := 3, pos := "ref.go:52", after := #[{ on := 19, ground := Ground.data }, { on := 20, ground := Ground.data }, { on := 21, ground := Ground.data }, { on := 18, ground := Ground.chain }, { on := 14, ground := Ground.guard }], guard := some (14, true) }) (v := undef) rfl (by kernel_rfl) (by kernel_rfl) (by kernel_rfl) (fun _ _ _ h => h) (Or.inr ⟨by rfl, rfl⟩) (by assumption) ?_
        ((try simp only [Act.put]); (try simp only [List.setIfInBounds_toArray, List.set_cons_zero, List.set_cons_succ]))
        refine wpAnyH_take (i := 23) (oi := { dst := some 32, op := Op.binOp BinOp.mul 3 (Operand.tmp 27) (Operand.tmp 31) 3, type := 3, pos := "ref.go:52", after := #[{ on := 18, ground := Ground.data }, { on := 22, ground := Ground.data }, { on := 14, ground := Ground.guard }], guard := some (14, true) }) (v := undef) rfl (by kernel_rfl) (by kernel_rfl) (by kernel_rfl) (fun _ _ _ h => h) (Or.inr ⟨by rfl, rfl⟩) (by assumption) ?_
        ((try simp only [Act.put]); (try simp only [List.setIfInBounds_toArray, List.set_cons_zero, List.set_cons_succ]))
        refine wpAnyH_take (i := 24) (oi := { dst := some 33, op := Op.binOp BinOp.lss 3 (Operand.tmp 32) (Operand.const (Value.int IntKind.i64 0)) 3, type := 4, pos := "ref.go:52", after := #[{ on := 23, ground := Ground.data }, { on := 14, ground := Ground.guard }], guard := some (14, true) }) (v := undef) rfl (by kernel_rfl) (by kernel_rfl) (by kernel_rfl) (fun _ _ _ h => h) (Or.inr ⟨by rfl, rfl⟩) (by assumption) ?_
        ((try simp only [Act.put]); (try simp only [List.setIfInBounds_toArray, List.set_cons_zero, List.set_cons_succ]))
        refine wpAnyH_take (i := 25) (oi := { dst := some 34, op := Op.pick (Operand.tmp 23) (Operand.tmp 33) (Operand.const (Value.bool false)), type := 4, pos := "ref.go:52", after := #[{ on := 14, ground := Ground.data }, { on := 24, ground := Ground.data }], guard := none }) (v := ?_) rfl (by kernel_rfl) (by kernel_rfl) (by kernel_rfl) (fun _ _ _ h => h) (Or.inl ⟨by rfl, ?_⟩) (by assumption) ?_
        rotate_left
        · (intro w hSw; (try dsimp only at hSw); go_simp; (try with_reducible rfl))
        ((try simp only [Act.put]); (try simp only [List.setIfInBounds_toArray, List.set_cons_zero, List.set_cons_succ]))
        refine wpAnyH_take (i := 26) (oi := { dst := some 35, op := Op.move (Operand.tmp 34), type := 4, pos := "ref.go:52", after := #[{ on := 25, ground := Ground.data }, { on := 22, ground := Ground.chain }], guard := none }) (v := ?_) rfl (by kernel_rfl) (by kernel_rfl) (by kernel_rfl) (fun _ _ _ h => h) (Or.inl ⟨by rfl, ?_⟩) (by assumption) ?_
        rotate_left
        · (intro w hSw; (try dsimp only at hSw); go_simp; (try with_reducible rfl))
        ((try simp only [Act.put]); (try simp only [List.setIfInBounds_toArray, List.set_cons_zero, List.set_cons_succ]))
        refine wpAnyH_take (i := 27) (oi := { dst := some 36, op := Op.load 24 (Operand.tmp 6), type := 24, pos := "ref.go:52", after := #[{ on := 26, ground := Ground.guard }], guard := some (26, true) }) (v := undef) rfl (by kernel_rfl) (by kernel_rfl) (by kernel_rfl) (fun _ _ _ h => h) (Or.inr ⟨by rfl, rfl⟩) (by assumption) ?_
        ((try simp only [Act.put]); (try simp only [List.setIfInBounds_toArray, List.set_cons_zero, List.set_cons_succ]))
        refine wpAnyH_take (i := 28) (oi := { dst := some 37, op := Op.load 24 (Operand.tmp 7), type := 24, pos := "ref.go:52", after := #[{ on := 26, ground := Ground.guard }], guard := some (26, true) }) (v := undef) rfl (by kernel_rfl) (by kernel_rfl) (by kernel_rfl) (fun _ _ _ h => h) (Or.inr ⟨by rfl, rfl⟩) (by assumption) ?_
        ((try simp only [Act.put]); (try simp only [List.setIfInBounds_toArray, List.set_cons_zero, List.set_cons_succ]))
        refine wpAnyH_take (i := 29) (oi := { dst := some 38, op := Op.load 24 (Operand.tmp 4), type := 24, pos := "ref.go:52", after := #[{ on := 26, ground := Ground.guard }], guard := some (26, true) }) (v := undef) rfl (by kernel_rfl) (by kernel_rfl) (by kernel_rfl) (fun _ _ _ h => h) (Or.inr ⟨by rfl, rfl⟩) (by assumption) ?_
        ((try simp only [Act.put]); (try simp only [List.setIfInBounds_toArray, List.set_cons_zero, List.set_cons_succ]))
        refine wpAnyH_take (i := 30) (oi := { dst := some 39, op := Op.call { callee := Callee.value (Operand.func 9), args := #[Operand.tmp 36, Operand.tmp 37, Operand.tmp 38], argTypes := #[24, 24, 24] }, type := 3, pos := "ref.go:52", after := #[{ on := 27, ground := Ground.data }, { on := 28, ground := Ground.data }, { on := 29, ground := Ground.data }, { on := 26, ground := Ground.chain }, { on := 26, ground := Ground.guard }], guard := some (26, true) }) (v := undef) rfl (by kernel_rfl) (by kernel_rfl) (by kernel_rfl) (fun _ _ _ h => h) (Or.inr ⟨by rfl, rfl⟩) (by assumption) ?_
        ((try simp only [Act.put]); (try simp only [List.setIfInBounds_toArray, List.set_cons_zero, List.set_cons_succ]))
        refine wpAnyH_take (i := 31) (oi := { dst := some 40, op := Op.load 24 (Operand.tmp 6), type := 24, pos := "ref.go:52", after := #[{ on := 26, ground := Ground.guard }], guard := some (26, true) }) (v := undef) rfl (by kernel_rfl) (by kernel_rfl) (by kernel_rfl) (fun _ _ _ h => h) (Or.inr ⟨by rfl, rfl⟩) (by assumption) ?_
        ((try simp only [Act.put]); (try simp only [List.setIfInBounds_toArray, List.set_cons_zero, List.set_cons_succ]))
        refine wpAnyH_take (i := 32) (oi := { dst := some 41, op := Op.load 24 (Operand.tmp 7), type := 24, pos := "ref.go:52", after := #[{ on := 26, ground := Ground.guard }], guard := some (26, true) }) (v := undef) rfl (by kernel_rfl) (by kernel_rfl) (by kernel_rfl) (fun _ _ _ h => h) (Or.inr ⟨by rfl, rfl⟩) (by assumption) ?_
        ((try simp only [Act.put]); (try simp only [List.setIfInBounds_toArray, List.set_cons_zero, List.set_cons_succ]))
        refine wpAnyH_take (i := 33) (oi := { dst := some 42, op := Op.load 24 (Operand.tmp 5), type := 24, pos := "ref.go:52", after := #[{ on := 26, ground := Ground.guard }], guard := some (26, true) }) (v := undef) rfl (by kernel_rfl) (by kernel_rfl) (by kernel_rfl) (fun _ _ _ h => h) (Or.inr ⟨by rfl, rfl⟩) (by assumption) ?_
        ((try simp only [Act.put]); (try simp only [List.setIfInBounds_toArray, List.set_cons_zero, List.set_cons_succ]))
        refine wpAnyH_take (i := 34) (oi := { dst := some 43, op := Op.call { callee := Callee.value (Operand.func 9), args := #[Operand.tmp 40, Operand.tmp 41, Operand.tmp 42], argTypes := #[24, 24, 24] }, type := 3, pos := "ref.go:52", after := #[{ on := 31, ground := Ground.data }, { on := 32, ground := Ground.data }, { on := 33, ground := Ground.data }, { on := 30, ground := Ground.chain }, { on := 26, ground := Ground.guard }], guard := some (26, true) }) (v := undef) rfl (by kernel_rfl) (by kernel_rfl) (by kernel_rfl) (fun _ _ _ h => h) (Or.inr ⟨by rfl, rfl⟩) (by assumption) ?_
        ((try simp only [Act.put]); (try simp only [List.setIfInBounds_toArray, List.set_cons_zero, List.set_cons_succ]))
        refine wpAnyH_take (i := 35) (oi := { dst := some 44, op := Op.binOp BinOp.mul 3 (Operand.tmp 39) (Operand.tmp 43) 3, type := 3, pos := "ref.go:52", after := #[{ on := 30, ground := Ground.data }, { on := 34, ground := Ground.data }, { on := 26, ground := Ground.guard }], guard := some (26, true) }) (v := undef) rfl (by kernel_rfl) (by kernel_rfl) (by kernel_rfl) (fun _ _ _ h => h) (Or.inr ⟨by rfl, rfl⟩) (by assumption) ?_
        ((try simp only [Act.put]); (try simp only [List.setIfInBounds_toArray, List.set_cons_zero, List.set_cons_succ]))
        refine wpAnyH_take (i := 36) (oi := { dst := some 45, op := Op.binOp BinOp.lss 3 (Operand.tmp 44) (Operand.const (Value.int IntKind.i64 0)) 3, type := 4, pos := "ref.go:52", after := #[{ on := 35, ground := Ground.data }, { on := 26, ground := Ground.guard }], guard := some (26, true) }) (v := undef) rfl (by kernel_rfl) (by kernel_rfl) (by kernel_rfl) (fun _ _ _ h => h) (Or.inr ⟨by rfl, rfl⟩) (by assumption) ?_
        ((try simp only [Act.put]); (try simp only [List.setIfInBounds_toArray, List.set_cons_zero, List.set_cons_succ]))
        refine wpAnyH_take (i := 37) (oi := { dst := some 46, op := Op.pick (Operand.tmp 35) (Operand.tmp 45) (Operand.const (Value.bool false)), type := 4, pos := "ref.go:52", after := #[{ on := 26, ground := Ground.data }, { on := 36, ground := Ground.data }], guard := none }) (v := ?_) rfl (by kernel_rfl) (by kernel_rfl) (by kernel_rfl) (fun _ _ _ h => h) (Or.inl ⟨by rfl, ?_⟩) (by assumption) ?_
        rotate_left
        · (intro w hSw; (try dsimp only at hSw); go_simp; (try with_reducible rfl))
        ((try simp only [Act.put]); (try simp only [List.setIfInBounds_toArray, List.set_cons_zero, List.set_cons_succ]))
        refine wpAnyH_take (i := 38) (oi := { dst := some 8, op := Op.assign (Operand.tmp 46), type := 4, pos := "ref.go:52", after := #[{ on := 37, ground := Ground.data }, { on := 34, ground := Ground.chain }, { on := 0, ground := Ground.phase }, { on := 1, ground := Ground.phase }, { on := 2, ground := Ground.phase }, { on := 3, ground := Ground.phase }, { on := 4, ground := Ground.phase }, { on := 5, ground := Ground.phase }, { on := 6, ground := Ground.phase }, { on := 7, ground := Ground.phase }, { on := 8, ground := Ground.phase }, { on := 9, ground := Ground.phase }, { on := 10, ground := Ground.phase }, { on := 11, ground := Ground.phase }, { on := 12, ground := Ground.phase }, { on := 13, ground := Ground.phase }, { on := 14, ground := Ground.phase }, { on := 15, ground := Ground.phase }, { on := 16, ground := Ground.phase }, { on := 17, ground := Ground.phase }, { on := 18, ground := Ground.phase }, { on := 19, ground := Ground.phase }, { on := 20, ground := Ground.phase }, { on := 21, ground := Ground.phase }, { on := 22, ground := Ground.phase }, { on := 23, ground := Ground.phase }, { on := 24, ground := Ground.phase }, { on := 25, ground := Ground.phase }, { on := 26, ground := Ground.phase }, { on := 27, ground := Ground.phase }, { on := 28, ground := Ground.phase }, { on := 29, ground := Ground.phase }, { on := 30, ground := Ground.phase }, { on := 31, ground := Ground.phase }, { on := 32, ground := Ground.phase }, { on := 33, ground := Ground.phase }, { on := 34, ground := Ground.phase }, { on := 35, ground := Ground.phase }, { on := 36, ground := Ground.phase }, { on := 37, ground := Ground.phase }], guard := none }) (v := ?_) rfl (by kernel_rfl) (by kernel_rfl) (by kernel_rfl) (fun _ _ _ h => h) (Or.inl ⟨by rfl, ?_⟩) (by assumption) ?_
        rotate_left
        · (intro w hSw; (try dsimp only at hSw); go_simp; (try with_reducible rfl))
        ((try simp only [Act.put]); (try simp only [List.setIfInBounds_toArray, List.set_cons_zero, List.set_cons_succ]))
        refine wpAnyH_done (by kernel_rfl) ?_ _
        clear hH3
        go_wp2_with fail
        go_ret
        exact ⟨rfl, bl_pack HW.out HW.out.size ((((Kp.refl wn).drew.step hbS_0).step hbS_1).step hbS_2).out⟩
      | true =>
        cases D with
        | false =>
          go_enter Tryd.func18, Tryd.ntmps18
          go_wp2_with fail
          rw [← hwn]
          clear hwn
          have HC0 := Lib.hid (fun (Y : World) (h' : Kp wn Y) => HM0.out Y)
          have HC1 := Lib.hid (fun (Y : World) (h' : Kp wn Y) => HM1.out Y)
          have HC2 := Lib.hid (fun (Y : World) (h' : Kp wn Y) => HM2.out Y)
          have HC3 := Lib.hid (fun (Y : World) (h' : Kp wn Y) => HM3.out Y)
          refine wp_region_held_drew (S := fun w' => w'.cell? ⟨w.heap.size, 0, none⟩ = some (.float .f64 ax) ∧ w'.cell? ⟨w.heap.size, 1, none⟩ = some (.float .f64 ay) ∧ w'.cell? ⟨w.heap.size + 1, 0, none⟩ = some (.float .f64 bx) ∧ w'.cell? ⟨w.heap.size + 1, 1, none⟩ = some (.float .f64 bY) ∧ w'.cell? ⟨w.heap.size + 1 + 1, 0, none⟩ = some (.float .f64 cx) ∧ w'.cell? ⟨w.heap.size + 1 + 1, 1, none⟩ = some (.float .f64 cy) ∧ w'.cell? ⟨w.heap.size + 1 + 1 + 1, 0, none⟩ = some (.float .f64 dx) ∧ w'.cell? ⟨w.heap.size + 1 + 1 + 1, 1, none⟩ = some (.float .f64 dy) ∧ Kp wn w') (by kernel_rfl) ?_ (fun hH0 => ?_)
          · with_reducible exact ⟨keep_cell (Kp.refl wn).drew.out a0, keep_cell (Kp.refl wn).drew.out a1, keep_cell (Kp.refl wn).drew.out b0, keep_cell (Kp.refl wn).drew.out b1, keep_cell (Kp.refl wn).drew.out c0, keep_cell (Kp.refl wn).drew.out c1, keep_cell (Kp.refl wn).drew.out d0, keep_cell (Kp.refl wn).drew.out d1, (Kp.refl wn).drew⟩
          show wpAnyH _ _ _ _ _ _ (#[false, false, false, false, false, false, false, false, false, false, false, false, false, false, false, false, false, false, false, false, false, false, false, false, false, false, false, false, false, false, false, false, false, false, false, false, false, false, false] : Array Bool) _ _
          refine wpAnyH_take (i := 0) (oi := { dst := some 9, op := Op.load 24 (Operand.tmp 4), type := 24, pos := "ref.go:52", after := #[], guard := none }) (v := ?_) rfl (by kernel_rfl) (by kernel_rfl) (by kernel_rfl) (fun _ _ _ h => h) (Or.inl ⟨by rfl, ?_⟩) (by assumption) ?_
          rotate_left
          · (intro w hSw; (try dsimp only at hSw); go_simp; (try with_reducible rfl))
          ((try simp only [Act.put]); (try simp only [List.setIfInBounds_toArray, List.set_cons_zero, List.set_cons_succ]))
          refine wpAnyH_ready (rs := [1]) (by kernel_rfl) (by simp) ?_
          refine AllReadyH.cons (o := { dst := some 10, op := Op.call { callee := Callee.value (Operand.func 12), args := #[Operand.tmp 9], argTypes := #[24] }, type := 4, pos := "ref.go:52", after := #[{ on := 0, ground := Ground.data }], guard := none }) rfl (fun K hK => ?_) AllReadyH.nil
          go_simp
          (go_at_call 12; ((with_reducible refine (HC0.out _ ?hq).mono ?_); (case hq => exact (Kp.refl wn).drew); rintro x wS_0 ⟨rfl, hbS_0⟩))
          go_wp2_with fail
          refine hK.out _ _ ?_ (fun hH1 => ?_)
          · with_reducible exact ⟨keep_cell ((Kp.refl wn).drew.step hbS_0).out a0, keep_cell ((Kp.refl wn).drew.step hbS_0).out a1, keep_cell ((Kp.refl wn).drew.step hbS_0).out b0, keep_cell ((Kp.refl wn).drew.step hbS_0).out b1, keep_cell ((Kp.refl wn).drew.step hbS_0).out c0, keep_cell ((Kp.refl wn).drew.step hbS_0).out c1, keep_cell ((Kp.refl wn).drew.step hbS_0).out d0, keep_cell ((Kp.refl wn).drew.step hbS_0).out d1, ((Kp.refl wn).drew.step hbS_0)⟩
          clear hK K hH0
          ((try simp only [Act.put]); (try simp only [List.setIfInBounds_toArray, List.set_cons_zero, List.set_cons_succ]))
          refine wpAnyH_take (i := 2) (oi := { dst := some 11, op := Op.move (Operand.tmp 10), type := 4, pos := "ref.go:52", after := #[{ on := 1, ground := Ground.data }, { on := 1, ground := Ground.chain }], guard := none }) (v := ?_) rfl (by kernel_rfl) (by kernel_rfl) (by kernel_rfl) (fun _ _ _ h => h) (Or.inl ⟨by rfl, ?_⟩) (by assumption) ?_
          rotate_left
          · (intro w hSw; (try dsimp only at hSw); go_simp; (try with_reducible rfl))
          ((try simp only [Act.put]); (try simp only [List.setIfInBounds_toArray, List.set_cons_zero, List.set_cons_succ]))
          refine wpAnyH_take (i := 3) (oi := { dst := some 12, op := Op.load 24 (Operand.tmp 5), type := 24, pos := "ref.go:52", after := #[{ on := 2, ground := Ground.guard }], guard := some (2, true) }) (v := ?_) rfl (by kernel_rfl) (by kernel_rfl) (by kernel_rfl) (fun _ _ _ h => h) (Or.inl ⟨by rfl, ?_⟩) (by assumption) ?_
          rotate_left
          · (intro w hSw; (try dsimp only at hSw); go_simp; (try with_reducible rfl))
          ((try simp only [Act.put]); (try simp only [List.setIfInBounds_toArray, List.set_cons_zero, List.set_cons_succ]))
          refine wpAnyH_ready (rs := [4]) (by kernel_rfl) (by simp) ?_
          refine AllReadyH.cons (o := { dst := some 13, op := Op.call { callee := Callee.value (Operand.func 12), args := #[Operand.tmp 12], argTypes := #[24] }, type := 4, pos := "ref.go:52", after := #[{ on := 3, ground := Ground.data }, { on := 2, ground := Ground.chain }, { on := 2, ground := Ground.guard }], guard := some (2, true) }) rfl (fun K hK => ?_) AllReadyH.nil
          go_simp
          (go_at_call 12; ((with_reducible refine (HC1.out _ ?hq).mono ?_); (case hq => exact ((Kp.refl wn).drew.step hbS_0)); rintro x wS_1 ⟨rfl, hbS_1⟩))
          go_wp2_with fail
          refine hK.out _ _ ?_ (fun hH2 => ?_)
          · with_reducible exact ⟨keep_cell (((Kp.refl wn).drew.step hbS_0).step hbS_1).out a0, keep_cell (((Kp.refl wn).drew.step hbS_0).step hbS_1).out a1, keep_cell (((Kp.refl wn).drew.step hbS_0).step hbS_1).out b0, keep_cell (((Kp.refl wn).drew.step hbS_0).step hbS_1).out b1, keep_cell (((Kp.refl wn).drew.step hbS_0).step hbS_1).out c0, keep_cell (((Kp.refl wn).drew.step hbS_0).step hbS_1).out c1, keep_cell (((Kp.refl wn).drew.step hbS_0).step hbS_1).out d0, keep_cell (((Kp.refl wn).drew.step hbS_0).step hbS_1).out d1, (((Kp.refl wn).drew.step hbS_0).step hbS_1)⟩
          clear hK K hH1
          ((try simp only [Act.put]); (try simp only [List.setIfInBounds_toArray, List.set_cons_zero, List.set_cons_succ]))
          refine wpAnyH_take (i := 5) (oi := { dst := some 14, op := Op.pick (Operand.tmp 11) (Operand.tmp 13) (Operand.const (Value.bool false)), type := 4, pos := "ref.go:52", after := #[{ on := 2, ground := Ground.data }, { on := 4, ground := Ground.data }], guard := none }) (v := ?_) rfl (by kernel_rfl) (by kernel_rfl) (by kernel_rfl) (fun _ _ _ h => h) (Or.inl ⟨by rfl, ?_⟩) (by assumption) ?_
          rotate_left
          · (intro w hSw; (try dsimp only at hSw); go_simp; (try with_reducible rfl))
          ((try simp only [Act.put]); (try simp only [List.setIfInBounds_toArray, List.set_cons_zero, List.set_cons_succ]))
          refine wpAnyH_take (i := 6) (oi := { dst := some 15, op := Op.move (Operand.tmp 14), type := 4, pos := "ref.go:52", after := #[{ on := 5, ground := Ground.data }, { on := 4, ground := Ground.chain }], guard := none }) (v := ?_) rfl (by kernel_rfl) (by kernel_rfl) (by kernel_rfl) (fun _ _ _ h => h) (Or.inl ⟨by rfl, ?_⟩) (by assumption) ?_
          rotate_left
          · (intro w hSw; (try dsimp only at hSw); go_simp; (try with_reducible rfl))
          ((try simp only [Act.put]); (try simp only [List.setIfInBounds_toArray, List.set_cons_zero, List.set_cons_succ]))
          refine wpAnyH_take (i := 7) (oi := { dst := some 16, op := Op.load 24 (Operand.tmp 6), type := 24, pos := "ref.go:52", after := #[{ on := 6, ground := Ground.guard }], guard := some (6, true) }) (v := ?_) rfl (by kernel_rfl) (by kernel_rfl) (by kernel_rfl) (fun _ _ _ h => h) (Or.inl ⟨by rfl, ?_⟩) (by assumption) ?_
          rotate_left
          · (intro w hSw; (try dsimp only at hSw); go_simp; (try with_reducible rfl))
          ((try simp only [Act.put]); (try simp only [List.setIfInBounds_toArray, List.set_cons_zero, List.set_cons_succ]))
          refine wpAnyH_ready (rs := [8]) (by kernel_rfl) (by simp) ?_
          refine AllReadyH.cons (o := { dst := some 17, op := Op.call { callee := Callee.value (Operand.func 12), args := #[Operand.tmp 16], argTypes := #[24] }, type := 4, pos := "ref.go:52", after := #[{ on := 7, ground := Ground.data }, { on := 6, ground := Ground.chain }, { on := 6, ground := Ground.guard }], guard := some (6, true) }) rfl (fun K hK => ?_) AllReadyH.nil
          go_simp
          (go_at_call 12; ((with_reducible refine (HC2.out _ ?hq).mono ?_); (case hq => exact (((Kp.refl wn).drew.step hbS_0).step hbS_1)); rintro x wS_2 ⟨rfl, hbS_2⟩))
          go_wp2_with fail
          refine hK.out _ _ ?_ (fun hH3 => ?_)
          · with_reducible exact ⟨keep_cell ((((Kp.refl wn).drew.step hbS_0).step hbS_1).step hbS_2).out a0, keep_cell ((((Kp.refl wn).drew.step hbS_0).step hbS_1).step hbS_2).out a1, keep_cell ((((Kp.refl wn).drew.step hbS_0).step hbS_1).step hbS_2).out b0, keep_cell ((((Kp.refl wn).drew.step hbS_0).step hbS_1).step hbS_2).out b1, keep_cell ((((Kp.refl wn).drew.step hbS_0).step hbS_1).step hbS_2).out c0, keep_cell ((((Kp.refl wn).drew.step hbS_0).step hbS_1).step hbS_2).out c1, keep_cell ((((Kp.refl wn).drew.step hbS_0).step hbS_1).step hbS_2).out d0, keep_cell ((((Kp.refl wn).drew.step hbS_0).step hbS_1).step hbS_2).out d1, ((((Kp.refl wn).drew.step hbS_0).step hbS_1).step hbS_2)⟩
          clear hK K hH2
          ((try simp only [Act.put]); (try simp only [List.setIfInBounds_toArray, List.set_cons_zero, List.set_cons_succ]))
          refine wpAnyH_take (i := 9) (oi := { dst := some 18, op := Op.pick (Operand.tmp 15) (Operand.tmp 17) (Operand.const (Value.bool false)), type := 4, pos := "ref.go:52", after := #[{ on := 6, ground := Ground.data }, { on := 8, ground := Ground.data }], guard := none }) (v := ?_) rfl (by kernel_rfl) (by kernel_rfl) (by kernel_rfl) (fun _ _ _ h => h) (Or.inl ⟨by rfl, ?_⟩) (by assumption) ?_
          rotate_left
          · (intro w hSw; (try dsimp only at hSw); go_simp; (try with_reducible rfl))
          ((try simp only [Act.put]); (try simp only [List.setIfInBounds_toArray, List.set_cons_zero, List.set_cons_succ]))
          refine wpAnyH_take (i := 10) (oi := { dst := some 19, op := Op.move (Operand.tmp 18), type := 4, pos := "ref.go:52", after := #[{ on := 9, ground := Ground.data }, { on := 8, ground := Ground.chain }], guard := none }) (v := ?_) rfl (by kernel_rfl) (by kernel_rfl) (by kernel_rfl) (fun _ _ _ h => h) (Or.inl ⟨by rfl, ?_⟩) (by assumption) ?_
          rotate_left
          · (intro w hSw; (try dsimp only at hSw); go_simp; (try with_reducible rfl))
          ((try simp only [Act.put]); (try simp only [List.setIfInBounds_toArray, List.set_cons_zero, List.set_cons_succ]))
          refine wpAnyH_take (i := 11) (oi := { dst := some 20, op := Op.load 24 (Operand.tmp 7), type := 24, pos := "ref.go:52", after := #[{ on := 10, ground := Ground.guard }], guard := some (10, true) }) (v := ?_) rfl (by kernel_rfl) (by kernel_rfl) (by kernel_rfl) (fun _ _ _ h => h) (Or.inl ⟨by rfl, ?_⟩) (by assumption) ?_
          rotate_left
          · (intro w hSw; (try dsimp only at hSw); go_simp; (try with_reducible rfl))
          ((try simp only [Act.put]); (try simp only [List.setIfInBounds_toArray, List.set_cons_zero, List.set_cons_succ]))
          refine wpAnyH_ready (rs := [12]) (by kernel_rfl) (by simp) ?_
          refine AllReadyH.cons (o := { dst := some 21, op := Op.call { callee := Callee.value (Operand.func 12), args := #[Operand.tmp 20], argTypes := #[24] }, type := 4, pos := "ref.go:52", after := #[{ on := 11, ground := Ground.data }, { on := 10, ground := Ground.chain }, { on := 10, ground := Ground.guard }], guard := some (10, true) }) rfl (fun K hK => ?_) AllReadyH.nil
          go_simp
          (go_at_call 12; ((with_reducible refine (HC3.out _ ?hq).mono ?_); (case hq => exact ((((Kp.refl wn).drew.step hbS_0).step hbS_1).step hbS_2)); rintro x wS_3 ⟨rfl, hbS_3⟩))
          go_wp2_with fail
          refine hK.out _ _ ?_ (fun hH4 => ?_)
          · with_reducible exact ⟨keep_cell (((((Kp.refl wn).drew.step hbS_0).step hbS_1).step hbS_2).step hbS_3).out a0, keep_cell (((((Kp.refl wn).drew.step hbS_0).step hbS_1).step hbS_2).step hbS_3).out a1, keep_cell (((((Kp.refl wn).drew.step hbS_0).step hbS_1).step hbS_2).step hbS_3).out b0, keep_cell (((((Kp.refl wn).drew.step hbS_0).step hbS_1).step hbS_2).step hbS_3).out b1, keep_cell (((((Kp.refl wn).drew.step hbS_0).step hbS_1).step hbS_2).step hbS_3).out c0, keep_cell (((((Kp.refl wn).drew.step hbS_0).step hbS_1).step hbS_2).step hbS_3).out c1, keep_cell (((((Kp.refl wn).drew.step hbS_0).step hbS_1).step hbS_2).step hbS_3).out d0, keep_cell (((((Kp.refl wn).drew.step hbS_0).step hbS_1).step hbS_2).step hbS_3).out d1, (((((Kp.refl wn).drew.step hbS_0).step hbS_1).step hbS_2).step hbS_3)⟩
          clear hK K hH3
          ((try simp only [Act.put]); (try simp only [List.setIfInBounds_toArray, List.set_cons_zero, List.set_cons_succ]))
          refine wpAnyH_take (i := 13) (oi := { dst := some 22, op := Op.pick (Operand.tmp 19) (Operand.tmp 21) (Operand.const (Value.bool false)), type := 4, pos := "ref.go:52", after := #[{ on := 10, ground := Ground.data }, { on := 12, ground := Ground.data }], guard := none }) (v := ?_) rfl (by kernel_rfl) (by kernel_rfl) (by kernel_rfl) (fun _ _ _ h => h) (Or.inl ⟨by rfl, ?_⟩) (by assumption) ?_
          rotate_left
          · (intro w hSw; (try dsimp only at hSw); go_simp; (try with_reducible rfl))
          ((try simp only [Act.put]); (try simp only [List.setIfInBounds_toArray, List.set_cons_zero, List.set_cons_succ]))
          refine wpAnyH_take (i := 14) (oi := { dst := some 23, op := Op.move (Operand.tmp 22), type := 4, pos := "ref.go:52", after := #[{ on := 13, ground := Ground.data }, { on := 12, ground := Ground.chain }], guard := none }) (v := ?_) rfl (by kernel_rfl) (by kernel_rfl) (by kernel_rfl) (fun _ _ _ h => h) (Or.inl ⟨by rfl, ?_⟩) (by assumption) ?_
          rotate_left
          · (intro w hSw; (try dsimp only at hSw); go_simp; (try with_reducible rfl))
          ((try simp only [Act.put]); (try simp only [List.setIfInBounds_toArray, List.set_cons_zero, List.set_cons_succ]))
          refine wpAnyH_take (i := 15) (oi := { dst := some 24, op := Op.load 24 (Operand.tmp 4), type := 24, pos := "ref.go:52", after := #[{ on := 14, ground := Ground.guard }], guard := some (14, true) }) (v := undef) rfl (by kernel_rfl) (by kernel_rfl) (by kernel_rfl) (fun _ _ _ h => h) (Or.inr ⟨by rfl, rfl⟩) (by assumption) ?_
          ((try simp only [Act.put]); (try simp only [List.setIfInBounds_toArray, List.set_cons_zero, List.set_cons_succ]))
          refine wpAnyH_take (i := 16) (oi := { dst := some 25, op := Op.load 24 (Operand.tmp 5), type := 24, pos := "ref.go:52", after := #[{ on := 14, ground := Ground.guard }], guard := some (14, true) }) (v := undef) rfl (by kernel_rfl) (by kernel_rfl) (by kernel_rfl) (fun _ _ _ h => h) (Or.inr ⟨by rfl, rfl⟩) (by assumption) ?_
          ((try simp only [Act.put]); (try simp only [List.setIfInBounds_toArray, List.set_cons_zero, List.set_cons_succ]))
          refine wpAnyH_take (i := 17) (oi := { dst := some 26, op := Op.load 24 (Operand.tmp 6), type := 24, pos := "ref.go:52", after := #[{ on := 14, ground := Ground.guard }], guard := some (14, true) }) (v := undef) rfl (by kernel_rfl) (by kernel_rfl) (by kernel_rfl) (fun _ _ _ h => h) (Or.inr ⟨by rfl, rfl⟩) (by assumption) ?_
          ((try simp only [Act.put]); (try simp only [List.setIfInBounds_toArray, List.set_cons_zero, List.set_cons_succ]))
          refine wpAnyH_take (i := 18) (oi := { dst := some 27, op := Op.call { callee := Callee.value (Operand.func 9), args := #[Operand.tmp 24, Operand.tmp 25, Operand.tmp 26], argTypes := #[24, 24, 24] }, type := 3, pos := "ref.go:52", after := #[{ on := 15, ground := Ground.data }, { on := 16, ground := Ground.data }, { on := 17, ground := Ground.data }, { on := 14, ground := Ground.chain }, { on := 14, ground := Ground.guard }], guard := some (14, true) }) (v := undef) rfl (by kernel_rfl) (by kernel_rfl) (by kernel_rfl) (fun _ _ _ h => h) (Or.inr ⟨by rfl, rfl⟩) (by assumption) ?_
          ((try simp only [Act.put]); (try simp only [List.setIfInBounds_toArray, List.set_cons_zero, List.set_cons_succ]))
          refine wpAnyH_take (i := 19) (oi := { dst := some 28, op := Op.load 24 (Operand.tmp 4), type := 24, pos := "ref.go:52", after := #[{ on := 14, ground := Ground.guard }], guard := some (14, true) }) (v := undef) rfl (by kernel_rfl) (by kernel_rfl) (by kernel_rfl) (fun _ _ _ h => h) (Or.inr ⟨by rfl, rfl⟩) (by assumption) ?_
          ((try simp only [Act.put]); (try simp only [List.setIfInBounds_toArray, List.set_cons_zero, List.set_cons_succ]))
          refine wpAnyH_take (i := 20) (oi := { dst := some 29, op := Op.load 24 (Operand.tmp 5), type := 24, pos := "ref.go:52", after := #[{ on := 14, ground := Ground.guard }], guard := some (14, true) }) (v := undef) rfl (by kernel_rfl) (by kernel_rfl) (by kernel_rfl) (fun _ _ _ h => h) (Or.inr ⟨by rfl, rfl⟩) (by assumption) ?_
          ((try simp only [Act.put]); (try simp only [List.setIfInBounds_toArray, List.set_cons_zero, List.set_cons_succ]))
          refine wpAnyH_take (i := 21) (oi := { dst := some 30, op := Op.load 24 (Operand.tmp 7), type := 24, pos := "ref.go:52", after := #[{ on := 14, ground := Ground.guard }], guard := some (14, true) }) (v := undef) rfl (by kernel_rfl) (by kernel_rfl) (by kernel_rfl) (fun _ _ _ h => h) (Or.inr ⟨by rfl, rfl⟩) (by assumption) ?_
          ((try simp only [Act.put]); (try simp only [List.setIfInBounds_toArray, List.set_cons_zero, List.set_cons_succ]))
          refine wpAnyH_take (i := 22) (oi := { dst := some 31, op := Op.call { callee := Callee.value (Operand.func 9), args := #[Operand.tmp 28, Operand.tmp 29, Operand.tmp 30], argTypes := #[24, 24, 24] }, type := 3, pos := "ref.go:52", after := #[{ on := 19, ground := Ground.data }, { on := 20, ground := Ground.data }, { on := 21, ground := Ground.data }, { on := 18, ground := Ground.chain }, { on := 14, ground := Ground.guard }], guard := some (14, true) }) (v := undef) rfl (by kernel_rfl) (by kernel_rfl) (by kernel_rfl) (fun _ _ _ h => h) (Or.inr ⟨by rfl, rfl⟩) (by assumption) ?_
          ((try simp only [Act.put]); (try simp only [List.setIfInBounds_toArray, List.set_cons_zero, List.set_cons_succ]))
          refine wpAnyH_take (i := 23) (oi := { dst := some 32, op := Op.binOp BinOp.mul 3 (Operand.tmp 27) (Operand.tmp 31) 3, type := 3, pos := "ref.go:52", after := #[{ on := 18, ground := Ground.data }, { on := 22, ground := Ground.data }, { on := 14, ground := Ground.guard }], guard := some (14, true) }) (v := undef) rfl (by kernel_rfl) (by kernel_rfl) (by kernel_rfl) (fun _ _ _ h => h) (Or.inr ⟨by rfl, rfl⟩) (by assumption) ?_
          ((try simp only [Act.put]); (try simp only [List.setIfInBounds_toArray, List.set_cons_zero, List.set_cons_succ]))
          refine wpAnyH_take (i := 24) (oi := { dst := some 33, op := Op.binOp BinOp.lss 3 (Operand.tmp 32) (Operand.const (Value.int IntKind.i64 0)) 3, type := 4, pos := "ref.go:52", after := #[{ on := 23, ground := Ground.data }, { on := 14, ground := Ground.guard }], guard := some (14, true) }) (v := undef) rfl (by kernel_rfl) (by kernel_rfl) (by kernel_rfl) (fun _ _ _ h => h) (Or.inr ⟨by rfl, rfl⟩) (by assumption) ?_
          ((try simp only [Act.put]); (try simp only [List.setIfInBounds_toArray, List.set_cons_zero, List.set_cons_succ]))
          refine wpAnyH_take (i := 25) (oi := { dst := some 34, op := Op.pick (Operand.tmp 23) (Operand.tmp 33) (Operand.const (Value.bool false)), type := 4, pos := "ref.go:52", after := #[{ on := 14, ground := Ground.data }, { on := 24, ground := Ground.data }], guard := none }) (v := ?_) rfl (by kernel_rfl) (by kernel_rfl) (by kernel_rfl) (fun _ _ _ h => h) (Or.inl ⟨by rfl, ?_⟩) (by assumption) ?_
          rotate_left
          · (intro w hSw; (try dsimp only at hSw); go_simp; (try with_reducible rfl))
          ((try simp only [Act.put]); (try simp only [List.setIfInBounds_toArray, List.set_cons_zero, List.set_cons_succ]))
          refine wpAnyH_take (i := 26) (oi := { dst := some 35, op := Op.move (Operand.tmp 34), type := 4, pos := "ref.go:52", after := #[{ on := 25, ground := Ground.data }, { on := 22, ground := Ground.chain }], guard := none }) (v := ?_) rfl (by kernel_rfl) (by kernel_rfl) (by kernel_rfl) (fun _ _ _ h => h) (Or.inl ⟨by rfl, ?_⟩) (by assumption) ?_
          rotate_left
          · (intro w hSw; (try dsimp only at hSw); go_simp; (try with_reducible rfl))
          ((try simp only [Act.put]); (try simp only [List.setIfInBounds_toArray, List.set_cons_zero, List.set_cons_succ]))
          refine wpAnyH_take (i := 27) (oi := { dst := some 36, op := Op.load 24 (Operand.tmp 6), type := 24, pos := "ref.go:52", after := #[{ on := 26, ground := Ground.guard }], guard := some (26, true) }) (v := undef) rfl (by kernel_rfl) (by kernel_rfl) (by kernel_rfl) (fun _ _ _ h => h) (Or.inr ⟨by rfl, rfl⟩) (by assumption) ?_
          ((try simp only [Act.put]); (try simp only [List.setIfInBounds_toArray, List.set_cons_zero, List.set_cons_succ]))
          refine wpAnyH_take (i := 28) (oi := { dst := some 37, op := Op.load 24 (Operand.tmp 7), type := 24, pos := "ref.go:52", after := #[{ on := 26, ground := Ground.guard }], guard := some (26, true) }) (v := undef) rfl (by kernel_rfl) (by kernel_rfl) (by kernel_rfl) (fun _ _ _ h => h) (Or.inr ⟨by rfl, rfl⟩) (by assumption) ?_
          ((try simp only [Act.put]); (try simp only [List.setIfInBounds_toArray, List.set_cons_zero, List.set_cons_succ]))
          refine wpAnyH_take (i := 29) (oi := { dst := some 38, op := Op.load 24 (Operand.tmp 4), type := 24, pos := "ref.go:52", after := #[{ on := 26, ground := Ground.guard }], guard := some (26, true) }) (v := undef) rfl (by kernel_rfl) (by kernel_rfl) (by kernel_rfl) (fun _ _ _ h => h) (Or.inr ⟨by rfl, rfl⟩) (by assumption) ?_
          ((try simp only [Act.put]); (try simp only [List.setIfInBounds_toArray, List.set_cons_zero, List.set_cons_succ]))
          refine wpAnyH_take (i := 30) (oi := { dst := some 39, op := Op.call { callee := Callee.value (Operand.func 9), args := #[Operand.tmp 36, Operand.tmp 37, Operand.tmp 38], argTypes := #[24, 24, 24] }, type := 3, pos := "ref.go:52", after := #[{ on := 27, ground := Ground.data }, { on := 28, ground := Ground.data }, { on := 29, ground := Ground.data }, { on := 26, ground := Ground.chain }, { on := 26, ground := Ground.guard }], guard := some (26, true) }) (v := undef) rfl (by kernel_rfl) (by kernel_rfl) (by kernel_rfl) (fun _ _ _ h => h) (Or.inr ⟨by rfl, rfl⟩) (by assumption) ?_
          ((try simp only [Act.put]); (try simp only [List.setIfInBounds_toArray, List.set_cons_zero, List.set_cons_succ]))
          refine wpAnyH_take (i := 31) (oi := { dst := some 40, op := Op.load 24 (Operand.tmp 6), type := 24, pos := "ref.go:52", after := #[{ on := 26, ground := Ground.guard }], guard := some (26, true) }) (v := undef) rfl (by kernel_rfl) (by kernel_rfl) (by kernel_rfl) (fun _ _ _ h => h) (Or.inr ⟨by rfl, rfl⟩) (by assumption) ?_
          ((try simp only [Act.put]); (try simp only [List.setIfInBounds_toArray, List.set_cons_zero, List.set_cons_succ]))
          refine wpAnyH_take (i := 32) (oi := { dst := some 41, op := Op.load 24 (Operand.tmp 7), type := 24, pos := "ref.go:52", after := #[{ on := 26, ground := Ground.guard }], guard := some (26, true) }) (v := undef) rfl (by kernel_rfl) (by kernel_rfl) (by kernel_rfl) (fun _ _ _ h => h) (Or.inr ⟨by rfl, rfl⟩) (by assumption) ?_
          ((try simp only [Act.put]); (try simp only [List.setIfInBounds_toArray, List.set_cons_zero, List.set_cons_succ]))
          refine wpAnyH_take (i := 33) (oi := { dst := some 42, op := Op.load 24 (Operand.tmp 5), type := 24, pos := "ref.go:52", after := #[{ on := 26, ground := Ground.guard }], guard := some (26, true) }) (v := undef) rfl (by kernel_rfl) (by kernel_rfl) (by kernel_rfl) (fun _ _ _ h => h) (Or.inr ⟨by rfl, rfl⟩) (by assumption) ?_
          ((try simp only [Act.put]); (try simp only [List.setIfInBounds_toArray, List.set_cons_zero, List.set_cons_succ]))
          refine wpAnyH_take (i := 34) (oi := { dst := some 43, op := Op.call { callee := Callee.value (Operand.func 9), args := #[Operand.tmp 40, Operand.tmp 41, Operand.tmp 42], argTypes := #[24, 24, 24] }, type := 3, pos := "ref.go:52", after := #[{ on := 31, ground := Ground.data }, { on := 32, ground := Ground.data }, { on := 33, ground := Ground.data }, { on := 30, ground := Ground.chain }, { on := 26, ground := Ground.guard }], guard := some (26, true) }) (v := undef) rfl (by kernel_rfl) (by kernel_rfl) (by kernel_rfl) (fun _ _ _ h => h) (Or.inr ⟨by rfl, rfl⟩) (by assumption) ?_
          ((try simp only [Act.put]); (try simp only [List.setIfInBounds_toArray, List.set_cons_zero, List.set_cons_succ]))
          refine wpAnyH_take (i := 35) (oi := { dst := some 44, op := Op.binOp BinOp.mul 3 (Operand.tmp 39) (Operand.tmp 43) 3, type := 3, pos := "ref.go:52", after := #[{ on := 30, ground := Ground.data }, { on := 34, ground := Ground.data }, { on := 26, ground := Ground.guard }], guard := some (26, true) }) (v := undef) rfl (by kernel_rfl) (by kernel_rfl) (by kernel_rfl) (fun _ _ _ h => h) (Or.inr ⟨by rfl, rfl⟩) (by assumption) ?_
          ((try simp only [Act.put]); (try simp only [List.setIfInBounds_toArray, List.set_cons_zero, List.set_cons_succ]))
          refine wpAnyH_take (i := 36) (oi := { dst := some 45, op := Op.binOp BinOp.lss 3 (Operand.tmp 44) (Operand.const (Value.int IntKind.i64 0)) 3, type := 4, pos := "ref.go:52", after := #[{ on := 35, ground := Ground.data }, { on := 26, ground := Ground.guard }], guard := some (26, true) }) (v := undef) rfl (by kernel_rfl) (by kernel_rfl) (by kernel_rfl) (fun _ _ _ h => h) (Or.inr ⟨by rfl, rfl⟩) (by assumption) ?_
          ((try simp only [Act.put]); (try simp only [List.setIfInBounds_toArray, List.set_cons_zero, List.set_cons_succ]))
          refine wpAnyH_take (i := 37) (oi := { dst := some 46, op := Op.pick (Operand.tmp 35) (Operand.tmp 45) (Operand.const (Value.bool false)), type := 4, pos := "ref.go:52", after := #[{ on := 26, ground := Ground.data }, { on := 36, ground := Ground.data }], guard := none }) (v := ?_) rfl (by kernel_rfl) (by kernel_rfl) (by kernel_rfl) (fun _ _ _ h => h) (Or.inl ⟨by rfl, ?_⟩) (by assumption) ?_
          rotate_left
          · (intro w hSw; (try dsimp only at hSw); go_simp; (try with_reducible rfl))
          ((try simp only [Act.put]); (try simp only [List.setIfInBounds_toArray, List.set_cons_zero, List.set_cons_succ]))
          refine wpAnyH_take (i := 38) (oi := { dst := some 8, op := Op.assign (Operand.tmp 46), type := 4, pos := "ref.go:52", after := #[{ on := 37, ground := Ground.data }, { on := 34, ground := Ground.chain }, { on := 0, ground := Ground.phase }, { on := 1, ground := Ground.phase }, { on := 2, ground := Ground.phase }, { on := 3, ground := Ground.phase }, { on := 4, ground := Ground.phase }, { on := 5, ground := Ground.phase }, { on := 6, ground := Ground.phase }, { on := 7, ground := Ground.phase }, { on := 8, ground := Ground.phase }, { on := 9, ground := Ground.phase }, { on := 10, ground := Ground.phase }, { on := 11, ground := Ground.phase }, { on := 12, ground := Ground.phase }, { on := 13, ground := Ground.phase }, { on := 14, ground := Ground.phase }, { on := 15, ground := Ground.phase }, { on := 16, ground := Ground.phase }, { on := 17, ground := Ground.phase }, { on := 18, ground := Ground.phase }, { on := 19, ground := Ground.phase }, { on := 20, ground := Ground.phase }, { on := 21, ground := Ground.phase }, { on := 22, ground := Ground.phase }, { on := 23, ground := Ground.phase }, { on := 24, ground := Ground.phase }, { on := 25, ground := Ground.phase }, { on := 26, ground := Ground.phase }, { on := 27, ground := Ground.phase }, { on := 28, ground := Ground.phase }, { on := 29, ground := Ground.phase }, { on := 30, ground := Ground.phase }, { on := 31, ground := Ground.phase }, { on := 32, ground := Ground.phase }, { on := 33, ground := Ground.phase }, { on := 34, ground := Ground.phase }, { on := 35, ground := Ground.phase }, { on := 36, ground := Ground.phase }, { on := 37, ground := Ground.phase }], guard := none }) (v := ?_) rfl (by kernel_rfl) (by kernel_rfl) (by kernel_rfl) (fun _ _ _ h => h) (Or.inl ⟨by rfl, ?_⟩) (by assumption) ?_
          rotate_left
          · (intro w hSw; (try dsimp only at hSw); go_simp; (try with_reducible rfl))
          ((try simp only [Act.put]); (try simp only [List.setIfInBounds_toArray, List.set_cons_zero, List.set_cons_succ]))
          refine wpAnyH_done (by kernel_rfl) ?_ _
          clear hH4
          go_wp2_with fail
          go_ret
          exact ⟨rfl, bl_pack HW.out HW.out.size (((((Kp.refl wn).drew.step hbS_0).step hbS_1).step hbS_2).step hbS_3).out⟩
        | true =>
          cases T1 with
          | false =>
            go_enter Tryd.func18, Tryd.ntmps18
            go_wp2_with fail
            rw [← hwn]
            clear hwn
            have HC0 := Lib.hid (fun (Y : World) (h' : Kp wn Y) => HM0.out Y)
            have HC1 := Lib.hid (fun (Y : World) (h' : Kp wn Y) => HM1.out Y)
            have HC2 := Lib.hid (fun (Y : World) (h' : Kp wn Y) => HM2.out Y)
            have HC3 := Lib.hid (fun (Y : World) (h' : Kp wn Y) => HM3.out Y)
            have HC4 := Lib.hid (fun (Y : World) (h' : Kp wn Y) => H1.out Y)
            have HC5 := Lib.hid (fun (Y : World) (h' : Kp wn Y) => H2.out Y)
            refine wp_region_held_drew (S := fun w' => w'.cell? ⟨w.heap.size, 0, none⟩ = some (.float .f64 ax) ∧ w'.cell? ⟨w.heap.size, 1, none⟩ = some (.float .f64 ay) ∧ w'.cell? ⟨w.heap.size + 1, 0, none⟩ = some (.float .f64 bx) ∧ w'.cell? ⟨w.heap.size + 1, 1, none⟩ = some (.float .f64 bY) ∧ w'.cell? ⟨w.heap.size + 1 + 1, 0, none⟩ = some (.float .f64 cx) ∧ w'.cell? ⟨w.heap.size + 1 + 1, 1, none⟩ = some (.float .f64 cy) ∧ w'.cell? ⟨w.heap.size + 1 + 1 + 1, 0, none⟩ = some (.float .f64 dx) ∧ w'.cell? ⟨w.heap.size + 1 + 1 + 1, 1, none⟩ = some (.float .f64 dy) ∧ Kp wn w') (by kernel_rfl) ?_ (fun hH0 => ?_)
            · with_reducible exact ⟨keep_cell (Kp.refl wn).drew.out a0, keep_cell (Kp.refl wn).drew.out a1, keep_cell (Kp.refl wn).drew.out b0, keep_cell (Kp.refl wn).drew.out b1, keep_cell (Kp.refl wn).drew.out c0, keep_cell (Kp.refl wn).drew.out c1, keep_cell (Kp.refl wn).drew.out d0, keep_cell (Kp.refl wn).drew.out d1, (Kp.refl wn).drew⟩
            show wpAnyH _ _ _ _ _ _ (#[false, false, false, false, false, false, false, false, false, false, false, false, false, false, false, false, false, false, false, false, false, false, false, false, false, false, false, false, false, false, false, false, false, false, false, false, false, false, false] : Array Bool) _ _
            refine wpAnyH_take (i := 0) (oi := { dst := some 9, op := Op.load 24 (Operand.tmp 4), type := 24, pos := "ref.go:52", after := #[], guard := none }) (v := ?_) rfl (by kernel_rfl) (by kernel_rfl) (by kernel_rfl) (fun _ _ _ h => h) (Or.inl ⟨by rfl, ?_⟩) (by assumption) ?_
            rotate_left
            · (intro w hSw; (try dsimp only at hSw); go_simp; (try with_reducible rfl))
            ((try simp only [Act.put]); (try simp only [List.setIfInBounds_toArray, List.set_cons_zero, List.set_cons_succ]))
            refine wpAnyH_ready (rs := [1]) (by kernel_rfl) (by simp) ?_
            refine AllReadyH.cons (o := { dst := some 10, op := Op.call { callee := Callee.value (Operand.func 12), args := #[Operand.tmp 9], argTypes := #[24] }, type := 4, pos := "ref.go:52", after := #[{ on := 0, ground := Ground.data }], guard := none }) rfl (fun K hK => ?_) AllReadyH.nil
            go_simp
            (go_at_call 12; ((with_reducible refine (HC0.out _ ?hq).mono ?_); (case hq => exact (Kp.refl wn).drew); rintro x wS_0 ⟨rfl, hbS_0⟩))
            go_wp2_with fail
            refine hK.out _ _ ?_ (fun hH1 => ?_)
            · with_reducible exact ⟨keep_cell ((Kp.refl wn).drew.step hbS_0).out a0, keep_cell ((Kp.refl wn).drew.step hbS_0).out a1, keep_cell ((Kp.refl wn).drew.step hbS_0).out b0, keep_cell ((Kp.refl wn).drew.step hbS_0).out b1, keep_cell ((Kp.refl wn).drew.step hbS_0).out c0, keep_cell ((Kp.refl wn).drew.step hbS_0).out c1, keep_cell ((Kp.refl wn).drew.step hbS_0).out d0, keep_cell ((Kp.refl wn).drew.step hbS_0).out d1, ((Kp.refl wn).drew.step hbS_0)⟩
            clear hK K hH0
            ((try simp only [Act.put]); (try simp only [List.setIfInBounds_toArray, List.set_cons_zero, List.set_cons_succ]))
            refine wpAnyH_take (i := 2) (oi := { dst := some 11, op := Op.move (Operand.tmp 10), type := 4, pos := "ref.go:52", after := #[{ on := 1, ground := Ground.data }, { on := 1, ground := Ground.chain }], guard := none }) (v := ?_) rfl (by kernel_rfl) (by kernel_rfl) (by kernel_rfl) (fun _ _ _ h => h) (Or.inl ⟨by rfl, ?_⟩) (by assumption) ?_
            rotate_left
            · (intro w hSw; (try dsimp only at hSw); go_simp; (try with_reducible rfl))
            ((try simp only [Act.put]); (try simp only [List.setIfInBounds_toArray, List.set_cons_zero, List.set_cons_succ]))
            refine wpAnyH_take (i := 3) (oi := { dst := some 12, op := Op.load 24 (Operand.tmp 5), type := 24, pos := "ref.go:52", after := #[{ on := 2, ground := Ground.guard }], guard := some (2, true) }) (v := ?_) rfl (by kernel_rfl) (by kernel_rfl) (by kernel_rfl) (fun _ _ _ h => h) (Or.inl ⟨by rfl, ?_⟩) (by assumption) ?_
            rotate_left
            · (intro w hSw; (try dsimp only at hSw); go_simp; (try with_reducible rfl))
            ((try simp only [Act.put]); (try simp only [List.setIfInBounds_toArray, List.set_cons_zero, List.set_cons_succ]))
            refine wpAnyH_ready (rs := [4]) (by kernel_rfl) (by simp) ?_
            refine AllReadyH.cons (o := { dst := some 13, op := Op.call { callee := Callee.value (Operand.func 12), args := #[Operand.tmp 12], argTypes := #[24] }, type := 4, pos := "ref.go:52", after := #[{ on := 3, ground := Ground.data }, { on := 2, ground := Ground.chain }, { on := 2, ground := Ground.guard }], guard := some (2, true) }) rfl (fun K hK => ?_) AllReadyH.nil
            go_simp
            (go_at_call 12; ((with_reducible refine (HC1.out _ ?hq).mono ?_); (case hq => exact ((Kp.refl wn).drew.step hbS_0)); rintro x wS_1 ⟨rfl, hbS_1⟩))
            go_wp2_with fail
            refine hK.out _ _ ?_ (fun hH2 => ?_)
            · with_reducible exact ⟨keep_cell (((Kp.refl wn).drew.step hbS_0).step hbS_1).out a0, keep_cell (((Kp.refl wn).drew.step hbS_0).step hbS_1).out a1, keep_cell (((Kp.refl wn).drew.step hbS_0).step hbS_1).out b0, keep_cell (((Kp.refl wn).drew.step hbS_0).step hbS_1).out b1, keep_cell (((Kp.refl wn).drew.step hbS_0).step hbS_1).out c0, keep_cell (((Kp.refl wn).drew.step hbS_0).step hbS_1).out c1, keep_cell (((Kp.refl wn).drew.step hbS_0).step hbS_1).out d0, keep_cell (((Kp.refl wn).drew.step hbS_0).step hbS_1).out d1, (((Kp.refl wn).drew.step hbS_0).step hbS_1)⟩
            clear hK K hH1
            ((try simp only [Act.put]); (try simp only [List.setIfInBounds_toArray, List.set_cons_zero, List.set_cons_succ]))
            refine wpAnyH_take (i := 5) (oi := { dst := some 14, op := Op.pick (Operand.tmp 11) (Operand.tmp 13) (Operand.const (Value.bool false)), type := 4, pos := "ref.go:52", after := #[{ on := 2, ground := Ground.data }, { on := 4, ground := Ground.data }], guard := none }) (v := ?_) rfl (by kernel_rfl) (by kernel_rfl) (by kernel_rfl) (fun _ _ _ h => h) (Or.inl ⟨by rfl, ?_⟩) (by assumption) ?_
            rotate_left
            · (intro w hSw; (try dsimp only at hSw); go_simp; (try with_reducible rfl))
            ((try simp only [Act.put]); (try simp only [List.setIfInBounds_toArray, List.set_cons_zero, List.set_cons_succ]))
            refine wpAnyH_take (i := 6) (oi := { dst := some 15, op := Op.move (Operand.tmp 14), type := 4, pos := "ref.go:52", after := #[{ on := 5, ground := Ground.data }, { on := 4, ground := Ground.chain }], guard := none }) (v := ?_) rfl (by kernel_rfl) (by kernel_rfl) (by kernel_rfl) (fun _ _ _ h => h) (Or.inl ⟨by rfl, ?_⟩) (by assumption) ?_
            rotate_left
            · (intro w hSw; (try dsimp only at hSw); go_simp; (try with_reducible rfl))
            ((try simp only [Act.put]); (try simp only [List.setIfInBounds_toArray, List.set_cons_zero, List.set_cons_succ]))
            refine wpAnyH_take (i := 7) (oi := { dst := some 16, op := Op.load 24 (Operand.tmp 6), type := 24, pos := "ref.go:52", after := #[{ on := 6, ground := Ground.guard }], guard := some (6, true) }) (v := ?_) rfl (by kernel_rfl) (by kernel_rfl) (by kernel_rfl) (fun _ _ _ h => h) (Or.inl ⟨by rfl, ?_⟩) (by assumption) ?_
            rotate_left
            · (intro w hSw; (try dsimp only at hSw); go_simp; (try with_reducible rfl))
            ((try simp only [Act.put]); (try simp only [List.setIfInBounds_toArray, List.set_cons_zero, List.set_cons_succ]))
            refine wpAnyH_ready (rs := [8]) (by kernel_rfl) (by simp) ?_
            refine AllReadyH.cons (o := { dst := some 17, op := Op.call { callee := Callee.value (Operand.func 12), args := #[Operand.tmp 16], argTypes := #[24] }, type := 4, pos := "ref.go:52", after := #[{ on := 7, ground := Ground.data }, { on := 6, ground := Ground.chain }, { on := 6, ground := Ground.guard }], guard := some (6, true) }) rfl (fun K hK => ?_) AllReadyH.nil
            go_simp
            (go_at_call 12; ((with_reducible refine (HC2.out _ ?hq).mono ?_); (case hq => exact (((Kp.refl wn).drew.step hbS_0).step hbS_1)); rintro x wS_2 ⟨rfl, hbS_2⟩))
            go_wp2_with fail
            refine hK.out _ _ ?_ (fun hH3 => ?_)
            · with_reducible exact ⟨keep_cell ((((Kp.refl wn).drew.step hbS_0).step hbS_1).step hbS_2).out a0, keep_cell ((((Kp.refl wn).drew.step hbS_0).step hbS_1).step hbS_2).out a1, keep_cell ((((Kp.refl wn).drew.step hbS_0).step hbS_1).step hbS_2).out b0, keep_cell ((((Kp.refl wn).drew.step hbS_0).step hbS_1).step hbS_2).out b1, keep_cell ((((Kp.refl wn).drew.step hbS_0).step hbS_1).step hbS_2).out c0, keep_cell ((((Kp.refl wn).drew.step hbS_0).step hbS_1).step hbS_2).out c1, keep_cell ((((Kp.refl wn).drew.step hbS_0).step hbS_1).step hbS_2).out d0, keep_cell ((((Kp.refl wn).drew.step hbS_0).step hbS_1).step hbS_2).out d1, ((((Kp.refl wn).drew.step hbS_0).step hbS_1).step hbS_2)⟩
            clear hK K hH2
            ((try simp only [Act.put]); (try simp only [List.setIfInBounds_toArray, List.set_cons_zero, List.set_cons_succ]))
            refine wpAnyH_take (i := 9) (oi := { dst := some 18, op := Op.pick (Operand.tmp 15) (Operand.tmp 17) (Operand.const (Value.bool false)), type := 4, pos := "ref.go:52", after := #[{ on := 6, ground := Ground.data }, { on := 8, ground := Ground.data }], guard := none }) (v := ?_) rfl (by kernel_rfl) (by kernel_rfl) (by kernel_rfl) (fun _ _ _ h => h) (Or.inl ⟨by rfl, ?_⟩) (by assumption) ?_
            rotate_left
            · (intro w hSw; (try dsimp only at hSw); go_simp; (try with_reducible rfl))
            ((try simp only [Act.put]); (try simp only [List.setIfInBounds_toArray, List.set_cons_zero, List.set_cons_succ]))
            refine wpAnyH_take (i := 10) (oi := { dst := some 19, op := Op.move (Operand.tmp 18), type := 4, pos := "ref.go:52", after := #[{ on := 9, ground := Ground.data }, { on := 8, ground := Ground.chain }], guard := none }) (v := ?_) rfl (by kernel_rfl) (by kernel_rfl) (by kernel_rfl) (fun _ _ _ h => h) (Or.inl ⟨by rfl, ?_⟩) (by assumption) ?_
            rotate_left
            · (intro w hSw; (try dsimp only at hSw); go_simp; (try with_reducible rfl))
            ((try simp only [Act.put]); (try simp only [List.setIfInBounds_toArray, List.set_cons_zero, List.set_cons_succ]))
            refine wpAnyH_take (i := 11) (oi := { dst := some 20, op := Op.load 24 (Operand.tmp 7), type := 24, pos := "ref.go:52", after := #[{ on := 10, ground := Ground.guard }], guard := some (10, true) }) (v := ?_) rfl (by kernel_rfl) (by kernel_rfl) (by kernel_rfl) (fun _ _ _ h => h) (Or.inl ⟨by rfl, ?_⟩) (by assumption) ?_
            rotate_left
            · (intro w hSw; (try dsimp only at hSw); go_simp; (try with_reducible rfl))
            ((try simp only [Act.put]); (try simp only [List.setIfInBounds_toArray, List.set_cons_zero, List.set_cons_succ]))
            refine wpAnyH_ready (rs := [12]) (by kernel_rfl) (by simp) ?_
            refine AllReadyH.cons (o := { dst := some 21, op := Op.call { callee := Callee.value (Operand.func 12), args := #[Operand.tmp 20], argTypes := #[24] }, type := 4, pos := "ref.go:52", after := #[{ on := 11, ground := Ground.data }, { on := 10, ground := Ground.chain }, { on := 10, ground := Ground.guard }], guard := some (10, true) }) rfl (fun K hK => ?_) AllReadyH.nil
            go_simp
            (go_at_call 12; ((with_reducible refine (HC3.out _ ?hq).mono ?_); (case hq => exact ((((Kp.refl wn).drew.step hbS_0).step hbS_1).step hbS_2)); rintro x wS_3 ⟨rfl, hbS_3⟩))
            go_wp2_with fail
            refine hK.out _ _ ?_ (fun hH4 => ?_)
            · with_reducible exact ⟨keep_cell (((((Kp.refl wn).drew.step hbS_0).step hbS_1).step hbS_2).step hbS_3).out a0, keep_cell (((((Kp.refl wn).drew.step hbS_0).step hbS_1).step hbS_2).step hbS_3).out a1, keep_cell (((((Kp.refl wn).drew.step hbS_0).step hbS_1).step hbS_2).step hbS_3).out b0, keep_cell (((((Kp.refl wn).drew.step hbS_0).step hbS_1).step hbS_2).step hbS_3).out b1, keep_cell (((((Kp.refl wn).drew.step hbS_0).step hbS_1).step hbS_2).step hbS_3).out c0, keep_cell (((((Kp.refl wn).drew.step hbS_0).step hbS_1).step hbS_2).step hbS_3).out c1, keep_cell (((((Kp.refl wn).drew.step hbS_0).step hbS_1).step hbS_2).step hbS_3).out d0, keep_cell (((((Kp.refl wn).drew.step hbS_0).step hbS_1).step hbS_2).step hbS_3).out d1, (((((Kp.refl wn).drew.step hbS_0).step hbS_1).step hbS_2).step hbS_3)⟩
            clear hK K hH3
            ((try simp only [Act.put]); (try simp only [List.setIfInBounds_toArray, List.set_cons_zero, List.set_cons_succ]))
            refine wpAnyH_take (i := 13) (oi := { dst := some 22, op := Op.pick (Operand.tmp 19) (Operand.tmp 21) (Operand.const (Value.bool false)), type := 4, pos := "ref.go:52", after := #[{ on := 10, ground := Ground.data }, { on := 12, ground := Ground.data }], guard := none }) (v := ?_) rfl (by kernel_rfl) (by kernel_rfl) (by kernel_rfl) (fun _ _ _ h => h) (Or.inl ⟨by rfl, ?_⟩) (by assumption) ?_
            rotate_left
            · (intro w hSw; (try dsimp only at hSw); go_simp; (try with_reducible rfl))
            ((try simp only [Act.put]); (try simp only [List.setIfInBounds_toArray, List.set_cons_zero, List.set_cons_succ]))
            refine wpAnyH_take (i := 14) (oi := { dst := some 23, op := Op.move (Operand.tmp 22), type := 4, pos := "ref.go:52", after := #[{ on := 13, ground := Ground.data }, { on := 12, ground := Ground.chain }], guard := none }) (v := ?_) rfl (by kernel_rfl) (by kernel_rfl) (by kernel_rfl) (fun _ _ _ h => h) (Or.inl ⟨by rfl, ?_⟩) (by assumption) ?_
            rotate_left
            · (intro w hSw; (try dsimp only at hSw); go_simp; (try with_reducible rfl))
            ((try simp only [Act.put]); (try simp only [List.setIfInBounds_toArray, List.set_cons_zero, List.set_cons_succ]))
            refine wpAnyH_take (i := 15) (oi := { dst := some 24, op := Op.load 24 (Operand.tmp 4), type := 24, pos := "ref.go:52", after := #[{ on := 14, ground := Ground.guard }], guard := some (14, true) }) (v := ?_) rfl (by kernel_rfl) (by kernel_rfl) (by kernel_rfl) (fun _ _ _ h => h) (Or.inl ⟨by rfl, ?_⟩) (by assumption) ?_
            rotate_left
            · (intro w hSw; (try dsimp only at hSw); go_simp; (try with_reducible rfl))
            ((try simp only [Act.put]); (try simp only [List.setIfInBounds_toArray, List.set_cons_zero, List.set_cons_succ]))
            refine wpAnyH_take (i := 16) (oi := { dst := some 25, op := Op.load 24 (Operand.tmp 5), type := 24, pos := "ref.go:52", after := #[{ on := 14, ground := Ground.guard }], guard := some (14, true) }) (v := ?_) rfl (by kernel_rfl) (by kernel_rfl) (by kernel_rfl) (fun _ _ _ h => h) (Or.inl ⟨by rfl, ?_⟩) (by assumption) ?_
            rotate_left
            · (intro w hSw; (try dsimp only at hSw); go_simp; (try with_reducible rfl))
            ((try simp only [Act.put]); (try simp only [List.setIfInBounds_toArray, List.set_cons_zero, List.set_cons_succ]))
            refine wpAnyH_take (i := 17) (oi := { dst := some 26, op := Op.load 24 (Operand.tmp 6), type := 24, pos := "ref.go:52", after := #[{ on := 14, ground := Ground.guard }], guard := some (14, true) }) (v := ?_) rfl (by kernel_rfl) (by kernel_rfl) (by kernel_rfl) (fun _ _ _ h => h) (Or.inl ⟨by rfl, ?_⟩) (by assumption) ?_
            rotate_left
            · (intro w hSw; (try dsimp only at hSw); go_simp; (try with_reducible rfl))
            ((try simp only [Act.put]); (try simp only [List.setIfInBounds_toArray, List.set_cons_zero, List.set_cons_succ]))
            refine wpAnyH_take (i := 19) (oi := { dst := some 28, op := Op.load 24 (Operand.tmp 4), type := 24, pos := "ref.go:52", after := #[{ on := 14, ground := Ground.guard }], guard := some (14, true) }) (v := ?_) rfl (by kernel_rfl) (by kernel_rfl) (by kernel_rfl) (fun _ _ _ h => h) (Or.inl ⟨by rfl, ?_⟩) (by assumption) ?_
            rotate_left
            · (intro w hSw; (try dsimp only at hSw); go_simp; (try with_reducible rfl))
            ((try simp only [Act.put]); (try simp only [List.setIfInBounds_toArray, List.set_cons_zero, List.set_cons_succ]))
            refine wpAnyH_take (i := 20) (oi := { dst := some 29, op := Op.load 24 (Operand.tmp 5), type := 24, pos := "ref.go:52", after := #[{ on := 14, ground := Ground.guard }], guard := some (14, true) }) (v := ?_) rfl (by kernel_rfl) (by kernel_rfl) (by kernel_rfl) (fun _ _ _ h => h) (Or.inl ⟨by rfl, ?_⟩) (by assumption) ?_
            rotate_left
            · (intro w hSw; (try dsimp only at hSw); go_simp; (try with_reducible rfl))
            ((try simp only [Act.put]); (try simp only [List.setIfInBounds_toArray, List.set_cons_zero, List.set_cons_succ]))
            refine wpAnyH_take (i := 21) (oi := { dst := some 30, op := Op.load 24 (Operand.tmp 7), type := 24, pos := "ref.go:52", after := #[{ on := 14, ground := Ground.guard }], guard := some (14, true) }) (v := ?_) rfl (by kernel_rfl) (by kernel_rfl) (by kernel_rfl) (fun _ _ _ h => h) (Or.inl ⟨by rfl, ?_⟩) (by assumption) ?_
            rotate_left
            · (intro w hSw; (try dsimp only at hSw); go_simp; (try with_reducible rfl))
            ((try simp only [Act.put]); (try simp only [List.setIfInBounds_toArray, List.set_cons_zero, List.set_cons_succ]))
            refine wpAnyH_ready (rs := [18]) (by kernel_rfl) (by simp) ?_
            refine AllReadyH.cons (o := { dst := some 27, op := Op.call { callee := Callee.value (Operand.func 9), args := #[Operand.tmp 24, Operand.tmp 25, Operand.tmp 26], argTypes := #[24, 24, 24] }, type := 3, pos := "ref.go:52", after := #[{ on := 15, ground := Ground.data }, { on := 16, ground := Ground.data }, { on := 17, ground := Ground.data }, { on := 14, ground := Ground.chain }, { on := 14, ground := Ground.guard }], guard := some (14, true) }) rfl (fun K hK => ?_) AllReadyH.nil
            go_simp
            (go_at_call 9; ((with_reducible refine (HC4.out _ ?hq).mono ?_); (case hq => exact (((((Kp.refl wn).drew.step hbS_0).step hbS_1).step hbS_2).step hbS_3)); rintro x wS_4 ⟨rfl, hbS_4⟩))
            go_wp2_with fail
            refine hK.out _ _ ?_ (fun hH5 => ?_)
            · with_reducible exact ⟨keep_cell ((((((Kp.refl wn).drew.step hbS_0).step hbS_1).step hbS_2).step hbS_3).step hbS_4).out a0, keep_cell ((((((Kp.refl wn).drew.step hbS_0).step hbS_1).step hbS_2).step hbS_3).step hbS_4).out a1, keep_cell ((((((Kp.refl wn).drew.step hbS_0).step hbS_1).step hbS_2).step hbS_3).step hbS_4).out b0, keep_cell ((((((Kp.refl wn).drew.step hbS_0).step hbS_1).step hbS_2).step hbS_3).step hbS_4).out b1, keep_cell ((((((Kp.refl wn).drew.step hbS_0).step hbS_1).step hbS_2).step hbS_3).step hbS_4).out c0, keep_cell ((((((Kp.refl wn).drew.step hbS_0).step hbS_1).step hbS_2).step hbS_3).step hbS_4).out c1, keep_cell ((((((Kp.refl wn).drew.step hbS_0).step hbS_1).step hbS_2).step hbS_3).step hbS_4).out d0, keep_cell ((((((Kp.refl wn).drew.step hbS_0).step hbS_1).step hbS_2).step hbS_3).step hbS_4).out d1, ((((((Kp.refl wn).drew.step hbS_0).step hbS_1).step hbS_2).step hbS_3).step hbS_4)⟩
            clear hK K hH4
            ((try simp only [Act.put]); (try simp only [List.setIfInBounds_toArray, List.set_cons_zero, List.set_cons_succ]))
            refine wpAnyH_ready (rs := [22]) (by kernel_rfl) (by simp) ?_
            refine AllReadyH.cons (o := { dst := some 31, op := Op.call { callee := Callee.value (Operand.func 9), args := #[Operand.tmp 28, Operand.tmp 29, Operand.tmp 30], argTypes := #[24, 24, 24] }, type := 3, pos := "ref.go:52", after := #[{ on := 19, ground := Ground.data }, { on := 20, ground := Ground.data }, { on := 21, ground := Ground.data }, { on := 18, ground := Ground.chain }, { on := 14, ground := Ground.guard }], guard := some (14, true) }) rfl (fun K hK => ?_) AllReadyH.nil
            go_simp
            (go_at_call 9; ((with_reducible refine (HC5.out _ ?hq).mono ?_); (case hq => exact ((((((Kp.refl wn).drew.step hbS_0).step hbS_1).step hbS_2).step hbS_3).step hbS_4)); rintro x wS_5 ⟨rfl, hbS_5⟩))
            go_wp2_with fail
            refine hK.out _ _ ?_ (fun hH6 => ?_)
            · with_reducible exact ⟨keep_cell (((((((Kp.refl wn).drew.step hbS_0).step hbS_1).step hbS_2).step hbS_3).step hbS_4).step hbS_5).out a0, keep_cell (((((((Kp.refl wn).drew.step hbS_0).step hbS_1).step hbS_2).step hbS_3).step hbS_4).step hbS_5).out a1, keep_cell (((((((Kp.refl wn).drew.step hbS_0).step hbS_1).step hbS_2).step hbS_3).step hbS_4).step hbS_5).out b0, keep_cell (((((((Kp.refl wn).drew.step hbS_0).step hbS_1).step hbS_2).step hbS_3).step hbS_4).step hbS_5).out b1, keep_cell (((((((Kp.refl wn).drew.step hbS_0).step hbS_1).step hbS_2).step hbS_3).step hbS_4).step hbS_5).out c0, keep_cell (((((((Kp.refl wn).drew.step hbS_0).step hbS_1).step hbS_2).step hbS_3).step hbS_4).step hbS_5).out c1, keep_cell (((((((Kp.refl wn).drew.step hbS_0).step hbS_1).step hbS_2).step hbS_3).step hbS_4).step hbS_5).out d0, keep_cell (((((((Kp.refl wn).drew.step hbS_0).step hbS_1).step hbS_2).step hbS_3).step hbS_4).step hbS_5).out d1, (((((((Kp.refl wn).drew.step hbS_0).step hbS_1).step hbS_2).step hbS_3).step hbS_4).step hbS_5)⟩
            clear hK K hH5
            ((try simp only [Act.put]); (try simp only [List.setIfInBounds_toArray, List.set_cons_zero, List.set_cons_succ]))
            refine wpAnyH_take (i := 23) (oi := { dst := some 32, op := Op.binOp BinOp.mul 3 (Operand.tmp 27) (Operand.tmp 31) 3, type := 3, pos := "ref.go:52", after := #[{ on := 18, ground := Ground.data }, { on := 22, ground := Ground.data }, { on := 14, ground := Ground.guard }], guard := some (14, true) }) (v := ?_) rfl (by kernel_rfl) (by kernel_rfl) (by kernel_rfl) (fun _ _ _ h => h) (Or.inl ⟨by rfl, ?_⟩) (by assumption) ?_
            rotate_left
            · (intro w hSw; (try dsimp only at hSw); go_simp; (try with_reducible rfl))
            ((try simp only [Act.put]); (try simp only [List.setIfInBounds_toArray, List.set_cons_zero, List.set_cons_succ]))
            refine wpAnyH_take (i := 24) (oi := { dst := some 33, op := Op.binOp BinOp.lss 3 (Operand.tmp 32) (Operand.const (Value.int IntKind.i64 0)) 3, type := 4, pos := "ref.go:52", after := #[{ on := 23, ground := Ground.data }, { on := 14, ground := Ground.guard }], guard := some (14, true) }) (v := ?_) rfl (by kernel_rfl) (by kernel_rfl) (by kernel_rfl) (fun _ _ _ h => h) (Or.inl ⟨by rfl, ?_⟩) (by assumption) ?_
            rotate_left
            · (intro w hSw; (try dsimp only at hSw); go_simp; (try with_reducible rfl))
            ((try simp only [Act.put]); (try simp only [List.setIfInBounds_toArray, List.set_cons_zero, List.set_cons_succ]))
            refine wpAnyH_take (i := 25) (oi := { dst := some 34, op := Op.pick (Operand.tmp 23) (Operand.tmp 33) (Operand.const (Value.bool false)), type := 4, pos := "ref.go:52", after := #[{ on := 14, ground := Ground.data }, { on := 24, ground := Ground.data }], guard := none }) (v := ?_) rfl (by kernel_rfl) (by kernel_rfl) (by kernel_rfl) (fun _ _ _ h => h) (Or.inl ⟨by rfl, ?_⟩) (by assumption) ?_
            rotate_left
            · (intro w hSw; (try dsimp only at hSw); go_simp; (try with_reducible rfl))
            ((try simp only [Act.put]); (try simp only [List.setIfInBounds_toArray, List.set_cons_zero, List.set_cons_succ]))
            refine wpAnyH_take (i := 26) (oi := { dst := some 35, op := Op.move (Operand.tmp 34), type := 4, pos := "ref.go:52", after := #[{ on := 25, ground := Ground.data }, { on := 22, ground := Ground.chain }], guard := none }) (v := ?_) rfl (by kernel_rfl) (by kernel_rfl) (by kernel_rfl) (fun _ _ _ h => h) (Or.inl ⟨by rfl, ?_⟩) (by assumption) ?_
            rotate_left
            · (intro w hSw; (try dsimp only at hSw); go_simp; (try with_reducible rfl))
            ((try simp only [Act.put]); (try simp only [List.setIfInBounds_toArray, List.set_cons_zero, List.set_cons_succ]))
            refine wpAnyH_take (i := 27) (oi := { dst := some 36, op := Op.load 24 (Operand.tmp 6), type := 24, pos := "ref.go:52", after := #[{ on := 26, ground := Ground.guard }], guard := some (26, true) }) (v := undef) rfl (by kernel_rfl) (by kernel_rfl) (by kernel_rfl) (fun _ _ _ h => h) (Or.inr ⟨by rfl, rfl⟩) (by assumption) ?_
            ((try simp only [Act.put]); (try simp only [List.setIfInBounds_toArray, List.set_cons_zero, List.set_cons_succ]))
            refine wpAnyH_take (i := 28) (oi := { dst := some 37, op := Op.load 24 (Operand.tmp 7), type := 24, pos := "ref.go:52", after := #[{ on := 26, ground := Ground.guard }], guard := some (26, true) }) (v := undef) rfl (by kernel_rfl) (by kernel_rfl) (by kernel_rfl) (fun _ _ _ h => h) (Or.inr ⟨by rfl, rfl⟩) (by assumption) ?_
            ((try simp only [Act.put]); (try simp only [List.setIfInBounds_toArray, List.set_cons_zero, List.set_cons_succ]))
            refine wpAnyH_take (i := 29) (oi := { dst := some 38, op := Op.load 24 (Operand.tmp 4), type := 24, pos := "ref.go:52", after := #[{ on := 26, ground := Ground.guard }], guard := some (26, true) }) (v := undef) rfl (by kernel_rfl) (by kernel_rfl) (by kernel_rfl) (fun _ _ _ h => h) (Or.inr ⟨by rfl, rfl⟩) (by assumption) ?_
            ((try simp only [Act.put]); (try simp only [List.setIfInBounds_toArray, List.set_cons_zero, List.set_cons_succ]))
            refine wpAnyH_take (i := 30) (oi := { dst := some 39, op := Op.call { callee := Callee.value (Operand.func 9), args := #[Operand.tmp 36, Operand.tmp 37, Operand.tmp 38], argTypes := #[24, 24, 24] }, type := 3, pos := "ref.go:52", after := #[{ on := 27, ground := Ground.data }, { on := 28, ground := Ground.data }, { on := 29, ground := Ground.data }, { on := 26, ground := Ground.chain }, { on := 26, ground := Ground.guard }], guard := some (26, true) }) (v := undef) rfl (by kernel_rfl) (by kernel_rfl) (by kernel_rfl) (fun _ _ _ h => h) (Or.inr ⟨by rfl, rfl⟩) (by assumption) ?_
            ((try simp only [Act.put]); (try simp only [List.setIfInBounds_toArray, List.set_cons_zero, List.set_cons_succ]))
            refine wpAnyH_take (i := 31) (oi := { dst := some 40, op := Op.load 24 (Operand.tmp 6), type := 24, pos := "ref.go:52", after := #[{ on := 26, ground := Ground.guard }], guard := some (26, true) }) (v := undef) rfl (by kernel_rfl) (by kernel_rfl) (by kernel_rfl) (fun _ _ _ h => h) (Or.inr ⟨by rfl, rfl⟩) (by assumption) ?_
            ((try simp only [Act.put]); (try simp only [List.setIfInBounds_toArray, List.set_cons_zero, List.set_cons_succ]))
            refine wpAnyH_take (i := 32) (oi := { dst := some 41, op := Op.load 24 (Operand.tmp 7), type := 24, pos := "ref.go:52", after := #[{ on := 26, ground := Ground.guard }], guard := some (26, true) }) (v := undef) rfl (by kernel_rfl) (by kernel_rfl) (by kernel_rfl) (fun _ _ _ h => h) (Or.inr ⟨by rfl, rfl⟩) (by assumption) ?_
            ((try simp only [Act.put]); (try simp only [List.setIfInBounds_toArray, List.set_cons_zero, List.set_cons_succ]))
            refine wpAnyH_take (i := 33) (oi := { dst := some 42, op := Op.load 24 (Operand.tmp 5), type := 24, pos := "ref.go:52", after := #[{ on := 26, ground := Ground.guard }], guard := some (26, true) }) (v := undef) rfl (by kernel_rfl) (by kernel_rfl) (by kernel_rfl) (fun _ _ _ h => h) (Or.inr ⟨by rfl, rfl⟩) (by assumption) ?_
            ((try simp only [Act.put]); (try simp only [List.setIfInBounds_toArray, List.set_cons_zero, List.set_cons_succ]))
            refine wpAnyH_take (i := 34) (oi := { dst := some 43, op := Op.call { callee := Callee.value (Operand.func 9), args := #[Operand.tmp 40, Operand.tmp 41, Operand.tmp 42], argTypes := #[24, 24, 24] }, type := 3, pos := "ref.go:52", after := #[{ on := 31, ground := Ground.data }, { on := 32, ground := Ground.data }, { on := 33, ground := Ground.data }, { on := 30, ground := Ground.chain }, { on := 26, ground := Ground.guard }], guard := some (26, true) }) (v := undef) rfl (by kernel_rfl) (by kernel_rfl) (by kernel_rfl) (fun _ _ _ h => h) (Or.inr ⟨by rfl, rfl⟩) (by assumption) ?_
            ((try simp only [Act.put]); (try simp only [List.setIfInBounds_toArray, List.set_cons_zero, List.set_cons_succ]))
            refine wpAnyH_take (i := 35) (oi := { dst := some 44, op := Op.binOp BinOp.mul 3 (Operand.tmp 39) (Operand.tmp 43) 3, type := 3, pos := "ref.go:52", after := #[{ on := 30, ground := Ground.data }, { on := 34, ground := Ground.data }, { on := 26, ground := Ground.guard }], guard := some (26, true) }) (v := undef) rfl (by kernel_rfl) (by kernel_rfl) (by kernel_rfl) (fun _ _ _ h => h) (Or.inr ⟨by rfl, rfl⟩) (by assumption) ?_
            ((try simp only [Act.put]); (try simp only [List.setIfInBounds_toArray, List.set_cons_zero, List.set_cons_succ]))
            refine wpAnyH_take (i := 36) (oi := { dst := some 45, op := Op.binOp BinOp.lss 3 (Operand.tmp 44) (Operand.const (Value.int IntKind.i64 0)) 3, type := 4, pos := "ref.go:52", after := #[{ on := 35, ground := Ground.data }, { on := 26, ground := Ground.guard }], guard := some (26, true) }) (v := undef) rfl (by kernel_rfl) (by kernel_rfl) (by kernel_rfl) (fun _ _ _ h => h) (Or.inr ⟨by rfl, rfl⟩) (by assumption) ?_
            ((try simp only [Act.put]); (try simp only [List.setIfInBounds_toArray, List.set_cons_zero, List.set_cons_succ]))
            refine wpAnyH_take (i := 37) (oi := { dst := some 46, op := Op.pick (Operand.tmp 35) (Operand.tmp 45) (Operand.const (Value.bool false)), type := 4, pos := "ref.go:52", after := #[{ on := 26, ground := Ground.data }, { on := 36, ground := Ground.data }], guard := none }) (v := ?_) rfl (by kernel_rfl) (by kernel_rfl) (by kernel_rfl) (fun _ _ _ h => h) (Or.inl ⟨by rfl, ?_⟩) (by assumption) ?_
            rotate_left
            · (intro w hSw; (try dsimp only at hSw); go_simp; (try with_reducible rfl))
            ((try simp only [Act.put]); (try simp only [List.setIfInBounds_toArray, List.set_cons_zero, List.set_cons_succ]))
            refine wpAnyH_take (i := 38) (oi := { dst := some 8, op := Op.assign (Operand.tmp 46), type := 4, pos := "ref.go:52", after := #[{ on := 37, ground := Ground.data }, { on := 34, ground := Ground.chain }, { on := 0, ground := Ground.phase }, { on := 1, ground := Ground.phase }, { on := 2, ground := Ground.phase }, { on := 3, ground := Ground.phase }, { on := 4, ground := Ground.phase }, { on := 5, ground := Ground.phase }, { on := 6, ground := Ground.phase }, { on := 7, ground := Ground.phase }, { on := 8, ground := Ground.phase }, { on := 9, ground := Ground.phase }, { on := 10, ground := Ground.phase }, { on := 11, ground := Ground.phase }, { on := 12, ground := Ground.phase }, { on := 13, ground := Ground.phase }, { on := 14, ground := Ground.phase }, { on := 15, ground := Ground.phase }, { on := 16, ground := Ground.phase }, { on := 17, ground := Ground.phase }, { on := 18, ground := Ground.phase }, { on := 19, ground := Ground.phase }, { on := 20, ground := Ground.phase }, { on := 21, ground := Ground.phase }, { on := 22, ground := Ground.phase }, { on := 23, ground := Ground.phase }, { on := 24, ground := Ground.phase }, { on := 25, ground := Ground.phase }, { on := 26, ground := Ground.phase }, { on := 27, ground := Ground.phase }, { on := 28, ground := Ground.phase }, { on := 29, ground := Ground.phase }, { on := 30, ground := Ground.phase }, { on := 31, ground := Ground.phase }, { on := 32, ground := Ground.phase }, { on := 33, ground := Ground.phase }, { on := 34, ground := Ground.phase }, { on := 35, ground := Ground.phase }, { on := 36, ground := Ground.phase }, { on := 37, ground := Ground.phase }], guard := none }) (v := ?_) rfl (by kernel_rfl) (by kernel_rfl) (by kernel_rfl) (fun _ _ _ h => h) (Or.inl ⟨by rfl, ?_⟩) (by assumption) ?_
            rotate_left
            · (intro w hSw; (try dsimp only at hSw); go_simp; (try with_reducible rfl))
            ((try simp only [Act.put]); (try simp only [List.setIfInBounds_toArray, List.set_cons_zero, List.set_cons_succ]))
            refine wpAnyH_done (by kernel_rfl) ?_ _
            clear hH6
            go_wp2_with fail
            go_ret
            exact ⟨ret_bool (by rw [HT1.out]; rfl), bl_pack HW.out HW.out.size (((((((Kp.refl wn).drew.step hbS_0).step hbS_1).step hbS_2).step hbS_3).step hbS_4).step hbS_5).out⟩
          | true =>
            go_enter Tryd.func18, Tryd.ntmps18
            go_wp2_with fail
            rw [← hwn]
            clear hwn
            have HC0 := Lib.hid (fun (Y : World) (h' : Kp wn Y) => HM0.out Y)
            have HC1 := Lib.hid (fun (Y : World) (h' : Kp wn Y) => HM1.out Y)
            have HC2 := Lib.hid (fun (Y : World) (h' : Kp wn Y) => HM2.out Y)
            have HC3 := Lib.hid (fun (Y : World) (h' : Kp wn Y) => HM3.out Y)
            have HC4 := Lib.hid (fun (Y : World) (h' : Kp wn Y) => H1.out Y)
            have HC5 := Lib.hid (fun (Y : World) (h' : Kp wn Y) => H2.out Y)
            have HC6 := Lib.hid (fun (Y : World) (h' : Kp wn Y) => H3.out Y)
            have HC7 := Lib.hid (fun (Y : World) (h' : Kp wn Y) => H4.out Y)
            refine wp_region_held_drew (S := fun w' => w'.cell? ⟨w.heap.size, 0, none⟩ = some (.float .f64 ax) ∧ w'.cell? ⟨w.heap.size, 1, none⟩ = some (.float .f64 ay) ∧ w'.cell? ⟨w.heap.size + 1, 0, none⟩ = some (.float .f64 bx) ∧ w'.cell? ⟨w.heap.size + 1, 1, none⟩ = some (.float .f64 bY) ∧ w'.cell? ⟨w.heap.size + 1 + 1, 0, none⟩ = some (.float .f64 cx) ∧ w'.cell? ⟨w.heap.size + 1 + 1, 1, none⟩ = some (.float .f64 cy) ∧ w'.cell? ⟨w.heap.size + 1 + 1 + 1, 0, none⟩ = some (.float .f64 dx) ∧ w'.cell? ⟨w.heap.size + 1 + 1 + 1, 1, none⟩ = some (.float .f64 dy) ∧ Kp wn w') (by kernel_rfl) ?_ (fun hH0 => ?_)
            · with_reducible exact ⟨keep_cell (Kp.refl wn).drew.out a0, keep_cell (Kp.refl wn).drew.out a1, keep_cell (Kp.refl wn).drew.out b0, keep_cell (Kp.refl wn).drew.out b1, keep_cell (Kp.refl wn).drew.out c0, keep_cell (Kp.refl wn).drew.out c1, keep_cell (Kp.refl wn).drew.out d0, keep_cell (Kp.refl wn).drew.out d1, (Kp.refl wn).drew⟩
            show wpAnyH _ _ _ _ _ _ (#[false, false, false, false, false, false, false, false, false, false, false, false, false, false, false, false, false, false, false, false, false, false, false, false, false, false, false, false, false, false, false, false, false, false, false, false, false, false, false] : Array Bool) _ _
            refine wpAnyH_take (i := 0) (oi := { dst := some 9, op := Op.load 24 (Operand.tmp 4), type := 24, pos := "ref.go:52", after := #[], guard := none }) (v := ?_) rfl (by kernel_rfl) (by kernel_rfl) (by kernel_rfl) (fun _ _ _ h => h) (Or.inl ⟨by rfl, ?_⟩) (by assumption) ?_
            rotate_left
            · (intro w hSw; (try dsimp only at hSw); go_simp; (try with_reducible rfl))
            ((try simp only [Act.put]); (try simp only [List.setIfInBounds_toArray, List.set_cons_zero, List.set_cons_succ]))
            refine wpAnyH_ready (rs := [1]) (by kernel_rfl) (by simp) ?_
            refine AllReadyH.cons (o := { dst := some 10, op := Op.call { callee := Callee.value (Operand.func 12), args := #[Operand.tmp 9], argTypes := #[24] }, type := 4, pos := "ref.go:52", after := #[{ on := 0, ground := Ground.data }], guard := none }) rfl (fun K hK => ?_) AllReadyH.nil
            go_simp
            (go_at_call 12; ((with_reducible refine (HC0.out _ ?hq).mono ?_); (case hq => exact (Kp.refl wn).drew); rintro x wS_0 ⟨rfl, hbS_0⟩))
            go_wp2_with fail
            refine hK.out _ _ ?_ (fun hH1 => ?_)
            · with_reducible exact ⟨keep_cell ((Kp.refl wn).drew.step hbS_0).out a0, keep_cell ((Kp.refl wn).drew.step hbS_0).out a1, keep_cell ((Kp.refl wn).drew.step hbS_0).out b0, keep_cell ((Kp.refl wn).drew.step hbS_0).out b1, keep_cell ((Kp.refl wn).drew.step hbS_0).out c0, keep_cell ((Kp.refl wn).drew.step hbS_0).out c1, keep_cell ((Kp.refl wn).drew.step hbS_0).out d0, keep_cell ((Kp.refl wn).drew.step hbS_0).out d1, ((Kp.refl wn).drew.step hbS_0)⟩
            clear hK K hH0
            ((try simp only [Act.put]); (try simp only [List.setIfInBounds_toArray, List.set_cons_zero, List.set_cons_succ]))
            refine wpAnyH_take (i := 2) (oi := { dst := some 11, op := Op.move (Operand.tmp 10), type := 4, pos := "ref.go:52", after := #[{ on := 1, ground := Ground.data }, { on := 1, ground := Ground.chain }], guard := none }) (v := ?_) rfl (by kernel_rfl) (by kernel_rfl) (by kernel_rfl) (fun _ _ _ h => h) (Or.inl ⟨by rfl, ?_⟩) (by assumption) ?_
            rotate_left
            · (intro w hSw; (try dsimp only at hSw); go_simp; (try with_reducible rfl))
            ((try simp only [Act.put]); (try simp only [List.setIfInBounds_toArray, List.set_cons_zero, List.set_cons_succ]))
            refine wpAnyH_take (i := 3) (oi := { dst := some 12, op := Op.load 24 (Operand.tmp 5), type := 24, pos := "ref.go:52", after := #[{ on := 2, ground := Ground.guard }], guard := some (2, true) }) (v := ?_) rfl (by kernel_rfl) (by kernel_rfl) (by kernel_rfl) (fun _ _ _ h => h) (Or.inl ⟨by rfl, ?_⟩) (by assumption) ?_
            rotate_left
            · (intro w hSw; (try dsimp only at hSw); go_simp; (try with_reducible rfl))
            ((try simp only [Act.put]); (try simp only [List.setIfInBounds_toArray, List.set_cons_zero, List.set_cons_succ]))
            refine wpAnyH_ready (rs := [4]) (by kernel_rfl) (by simp) ?_
            refine AllReadyH.cons (o := { dst := some 13, op := Op.call { callee := Callee.value (Operand.func 12), args := #[Operand.tmp 12], argTypes := #[24] }, type := 4, pos := "ref.go:52", after := #[{ on := 3, ground := Ground.data }, { on := 2, ground := Ground.chain }, { on := 2, ground := Ground.guard }], guard := some (2, true) }) rfl (fun K hK => ?_) AllReadyH.nil
            go_simp
            (go_at_call 12; ((with_reducible refine (HC1.out _ ?hq).mono ?_); (case hq => exact ((Kp.refl wn).drew.step hbS_0)); rintro x wS_1 ⟨rfl, hbS_1⟩))
            go_wp2_with fail
            refine hK.out _ _ ?_ (fun hH2 => ?_)
            · with_reducible exact ⟨keep_cell (((Kp.refl wn).drew.step hbS_0).step hbS_1).out a0, keep_cell (((Kp.refl wn).drew.step hbS_0).step hbS_1).out a1, keep_cell (((Kp.refl wn).drew.step hbS_0).step hbS_1).out b0, keep_cell (((Kp.refl wn).drew.step hbS_0).step hbS_1).out b1, keep_cell (((Kp.refl wn).drew.step hbS_0).step hbS_1).out c0, keep_cell (((Kp.refl wn).drew.step hbS_0).step hbS_1).out c1, keep_cell (((Kp.refl wn).drew.step hbS_0).step hbS_1).out d0, keep_cell (((Kp.refl wn).drew.step hbS_0).step hbS_1).out d1, (((Kp.refl wn).drew.step hbS_0).step hbS_1)⟩
            clear hK K hH1
            ((try simp only [Act.put]); (try simp only [List.setIfInBounds_toArray, List.set_cons_zero, List.set_cons_succ]))
            refine wpAnyH_take (i := 5) (oi := { dst := some 14, op := Op.pick (Operand.tmp 11) (Operand.tmp 13) (Operand.const (Value.bool false)), type := 4, pos := "ref.go:52", after := #[{ on := 2, ground := Ground.data }, { on := 4, ground := Ground.data }], guard := none }) (v := ?_) rfl (by kernel_rfl) (by kernel_rfl) (by kernel_rfl) (fun _ _ _ h => h) (Or.inl ⟨by rfl, ?_⟩) (by assumption) ?_
            rotate_left
            · (intro w hSw; (try dsimp only at hSw); go_simp; (try with_reducible rfl))
            ((try simp only [Act.put]); (try simp only [List.setIfInBounds_toArray, List.set_cons_zero, List.set_cons_succ]))
            refine wpAnyH_take (i := 6) (oi := { dst := some 15, op := Op.move (Operand.tmp 14), type := 4, pos := "ref.go:52", after := #[{ on := 5, ground := Ground.data }, { on := 4, ground := Ground.chain }], guard := none }) (v := ?_) rfl (by kernel_rfl) (by kernel_rfl) (by kernel_rfl) (fun _ _ _ h => h) (Or.inl ⟨by rfl, ?_⟩) (by assumption) ?_
            rotate_left
            · (intro w hSw; (try dsimp only at hSw); go_simp; (try with_reducible rfl))
            ((try simp only [Act.put]); (try simp only [List.setIfInBounds_toArray, List.set_cons_zero, List.set_cons_succ]))
            refine wpAnyH_take (i := 7) (oi := { dst := some 16, op := Op.load 24 (Operand.tmp 6), type := 24, pos := "ref.go:52", after := #[{ on := 6, ground := Ground.guard }], guard := some (6, true) }) (v := ?_) rfl (by kernel_rfl) (by kernel_rfl) (by kernel_rfl) (fun _ _ _ h => h) (Or.inl ⟨by rfl, ?_⟩) (by assumption) ?_
            rotate_left
            · (intro w hSw; (try dsimp only at hSw); go_simp; (try with_reducible rfl))
            ((try simp only [Act.put]); (try simp only [List.setIfInBounds_toArray, List.set_cons_zero, List.set_cons_succ]))
            refine wpAnyH_ready (rs := [8]) (by kernel_rfl) (by simp) ?_
            refine AllReadyH.cons (o := { dst := some 17, op := Op.call { callee := Callee.value (Operand.func 12), args := #[Operand.tmp 16], argTypes := #[24] }, type := 4, pos := "ref.go:52", after := #[{ on := 7, ground := Ground.data }, { on := 6, ground := Ground.chain }, { on := 6, ground := Ground.guard }], guard := some (6, true) }) rfl (fun K hK => ?_) AllReadyH.nil
            go_simp
            (go_at_call 12; ((with_reducible refine (HC2.out _ ?hq).mono ?_); (case hq => exact (((Kp.refl wn).drew.step hbS_0).step hbS_1)); rintro x wS_2 ⟨rfl, hbS_2⟩))
            go_wp2_with fail
            refine hK.out _ _ ?_ (fun hH3 => ?_)
            · with_reducible exact ⟨keep_cell ((((Kp.refl wn).drew.step hbS_0).step hbS_1).step hbS_2).out a0, keep_cell ((((Kp.refl wn).drew.step hbS_0).step hbS_1).step hbS_2).out a1, keep_cell ((((Kp.refl wn).drew.step hbS_0).step hbS_1).step hbS_2).out b0, keep_cell ((((Kp.refl wn).drew.step hbS_0).step hbS_1).step hbS_2).out b1, keep_cell ((((Kp.refl wn).drew.step hbS_0).step hbS_1).step hbS_2).out c0, keep_cell ((((Kp.refl wn).drew.step hbS_0).step hbS_1).step hbS_2).out c1, keep_cell ((((Kp.refl wn).drew.step hbS_0).step hbS_1).step hbS_2).out d0, keep_cell ((((Kp.refl wn).drew.step hbS_0).step hbS_1).step hbS_2).out d1, ((((Kp.refl wn).drew.step hbS_0).step hbS_1).step hbS_2)⟩
            clear hK K hH2
            ((try simp only [Act.put]); (try simp only [List.setIfInBounds_toArray, List.set_cons_zero, List.set_cons_succ]))
            refine wpAnyH_take (i := 9) (oi := { dst := some 18, op := Op.pick (Operand.tmp 15) (Operand.tmp 17) (Operand.const (Value.bool false)), type := 4, pos := "ref.go:52", after := #[{ on := 6, ground := Ground.data }, { on := 8, ground := Ground.data }], guard := none }) (v := ?_) rfl (by kernel_rfl) (by kernel_rfl) (by kernel_rfl) (fun _ _ _ h => h) (Or.inl ⟨by rfl, ?_⟩) (by assumption) ?_
            rotate_left
            · (intro w hSw; (try dsimp only at hSw); go_simp; (try with_reducible rfl))
            ((try simp only [Act.put]); (try simp only [List.setIfInBounds_toArray, List.set_cons_zero, List.set_cons_succ]))
            refine wpAnyH_take (i := 10) (oi := { dst := some 19, op := Op.move (Operand.tmp 18), type := 4, pos := "ref.go:52", after := #[{ on := 9, ground := Ground.data }, { on := 8, ground := Ground.chain }], guard := none }) (v := ?_) rfl (by kernel_rfl) (by kernel_rfl) (by kernel_rfl) (fun _ _ _ h => h) (Or.inl ⟨by rfl, ?_⟩) (by assumption) ?_
            rotate_left
            · (intro w hSw; (try dsimp only at hSw); go_simp; (try with_reducible rfl))
            ((try simp only [Act.put]); (try simp only [List.setIfInBounds_toArray, List.set_cons_zero, List.set_cons_succ]))
            refine wpAnyH_take (i := 11) (oi := { dst := some 20, op := Op.load 24 (Operand.tmp 7), type := 24, pos := "ref.go:52", after := #[{ on := 10, ground := Ground.guard }], guard := some (10, true) }) (v := ?_) rfl (by kernel_rfl) (by kernel_rfl) (by kernel_rfl) (fun _ _ _ h => h) (Or.inl ⟨by rfl, ?_⟩) (by assumption) ?_
            rotate_left
            · (intro w hSw; (try dsimp only at hSw); go_simp; (try with_reducible rfl))
            ((try simp only [Act.put]); (try simp only [List.setIfInBounds_toArray, List.set_cons_zero, List.set_cons_succ]))
            refine wpAnyH_ready (rs := [12]) (by kernel_rfl) (by simp) ?_
            refine AllReadyH.cons (o := { dst := some 21, op := Op.call { callee := Callee.value (Operand.func 12), args := #[Operand.tmp 20], argTypes := #[24] }, type := 4, pos := "ref.go:52", after := #[{ on := 11, ground := Ground.data }, { on := 10, ground := Ground.chain }, { on := 10, ground := Ground.guard }], guard := some (10, true) }) rfl (fun K hK => ?_) AllReadyH.nil
            go_simp
            (go_at_call 12; ((with_reducible refine (HC3.out _ ?hq).mono ?_); (case hq => exact ((((Kp.refl wn).drew.step hbS_0).step hbS_1).step hbS_2)); rintro x wS_3 ⟨rfl, hbS_3⟩))
            go_wp2_with fail
            refine hK.out _ _ ?_ (fun hH4 => ?_)
            · with_reducible exact ⟨keep_cell (((((Kp.refl wn).drew.step hbS_0).step hbS_1).step hbS_2).step hbS_3).out a0, keep_cell (((((Kp.refl wn).drew.step hbS_0).step hbS_1).step hbS_2).step hbS_3).out a1, keep_cell (((((Kp.refl wn).drew.step hbS_0).step hbS_1).step hbS_2).step hbS_3).out b0, keep_cell (((((Kp.refl wn).drew.step hbS_0).step hbS_1).step hbS_2).step hbS_3).out b1, keep_cell (((((Kp.refl wn).drew.step hbS_0).step hbS_1).step hbS_2).step hbS_3).out c0, keep_cell (((((Kp.refl wn).drew.step hbS_0).step hbS_1).step hbS_2).step hbS_3).out c1, keep_cell (((((Kp.refl wn).drew.step hbS_0).step hbS_1).step hbS_2).step hbS_3).out d0, keep_cell (((((Kp.refl wn).drew.step hbS_0).step hbS_1).step hbS_2).step hbS_3).out d1, (((((Kp.refl wn).drew.step hbS_0).step hbS_1).step hbS_2).step hbS_3)⟩
            clear hK K hH3
            ((try simp only [Act.put]); (try simp only [List.setIfInBounds_toArray, List.set_cons_zero, List.set_cons_succ]))
            refine wpAnyH_take (i := 13) (oi := { dst := some 22, op := Op.pick (Operand.tmp 19) (Operand.tmp 21) (Operand.const (Value.bool false)), type := 4, pos := "ref.go:52", after := #[{ on := 10, ground := Ground.data }, { on := 12, ground := Ground.data }], guard := none }) (v := ?_) rfl (by kernel_rfl) (by kernel_rfl) (by kernel_rfl) (fun _ _ _ h => h) (Or.inl ⟨by rfl, ?_⟩) (by assumption) ?_
            rotate_left
            · (intro w hSw; (try dsimp only at hSw); go_simp; (try with_reducible rfl))
            ((try simp only [Act.put]); (try simp only [List.setIfInBounds_toArray, List.set_cons_zero, List.set_cons_succ]))
            refine wpAnyH_take (i := 14) (oi := { dst := some 23, op := Op.move (Operand.tmp 22), type := 4, pos := "ref.go:52", after := #[{ on := 13, ground := Ground.data }, { on := 12, ground := Ground.chain }], guard := none }) (v := ?_) rfl (by kernel_rfl) (by kernel_rfl) (by kernel_rfl) (fun _ _ _ h => h) (Or.inl ⟨by rfl, ?_⟩) (by assumption) ?_
            rotate_left
            · (intro w hSw; (try dsimp only at hSw); go_simp; (try with_reducible rfl))
            ((try simp only [Act.put]); (try simp only [List.setIfInBounds_toArray, List.set_cons_zero, List.set_cons_succ]))
            refine wpAnyH_take (i := 15) (oi := { dst := some 24, op := Op.load 24 (Operand.tmp 4), type := 24, pos := "ref.go:52", after := #[{ on := 14, ground := Ground.guard }], guard := some (14, true) }) (v := ?_) rfl (by kernel_rfl) (by kernel_rfl) (by kernel_rfl) (fun _ _ _ h => h) (Or.inl ⟨by rfl, ?_⟩) (by assumption) ?_
            rotate_left
            · (intro w hSw; (try dsimp only at hSw); go_simp; (try with_reducible rfl))
            ((try simp only [Act.put]); (try simp only [List.setIfInBounds_toArray, List.set_cons_zero, List.set_cons_succ]))
            refine wpAnyH_take (i := 16) (oi := { dst := some 25, op := Op.load 24 (Operand.tmp 5), type := 24, pos := "ref.go:52", after := #[{ on := 14, ground := Ground.guard }], guard := some (14, true) }) (v := ?_) rfl (by kernel_rfl) (by kernel_rfl) (by kernel_rfl) (fun _ _ _ h => h) (Or.inl ⟨by rfl, ?_⟩) (by assumption) ?_
            rotate_left
            · (intro w hSw; (try dsimp only at hSw); go_simp; (try with_reducible rfl))
            ((try simp only [Act.put]); (try simp only [List.setIfInBounds_toArray, List.set_cons_zero, List.set_cons_succ]))
            refine wpAnyH_take (i := 17) (oi := { dst := some 26, op := Op.load 24 (Operand.tmp 6), type := 24, pos := "ref.go:52", after := #[{ on := 14, ground := Ground.guard }], guard := some (14, true) }) (v := ?_) rfl (by kernel_rfl) (by kernel_rfl) (by kernel_rfl) (fun _ _ _ h => h) (Or.inl ⟨by rfl, ?_⟩) (by assumption) ?_
            rotate_left
            · (intro w hSw; (try dsimp only at hSw); go_simp; (try with_reducible rfl))
            ((try simp only [Act.put]); (try simp only [List.setIfInBounds_toArray, List.set_cons_zero, List.set_cons_succ]))
            refine wpAnyH_take (i := 19) (oi := { dst := some 28, op := Op.load 24 (Operand.tmp 4), type := 24, pos := "ref.go:52", after := #[{ on := 14, ground := Ground.guard }], guard := some (14, true) }) (v := ?_) rfl (by kernel_rfl) (by kernel_rfl) (by kernel_rfl) (fun _ _ _ h => h) (Or.inl ⟨by rfl, ?_⟩) (by assumption) ?_
            rotate_left
            · (intro w hSw; (try dsimp only at hSw); go_simp; (try with_reducible rfl))
            ((try simp only [Act.put]); (try simp only [List.setIfInBounds_toArray, List.set_cons_zero, List.set_cons_succ]))
            refine wpAnyH_take (i := 20) (oi := { dst := some 29, op := Op.load 24 (Operand.tmp 5), type := 24, pos := "ref.go:52", after := #[{ on := 14, ground := Ground.guard }], guard := some (14, true) }) (v := ?_) rfl (by kernel_rfl) (by kernel_rfl) (by kernel_rfl) (fun _ _ _ h => h) (Or.inl ⟨by rfl, ?_⟩) (by assumption) ?_
            rotate_left
            · (intro w hSw; (try dsimp only at hSw); go_simp; (try with_reducible rfl))
            ((try simp only [Act.put]); (try simp only [List.setIfInBounds_toArray, List.set_cons_zero, List.set_cons_succ]))
            refine wpAnyH_take (i := 21) (oi := { dst := some 30, op := Op.load 24 (Operand.tmp 7), type := 24, pos := "ref.go:52", after := #[{ on := 14, ground := Ground.guard }], guard := some (14, true) }) (v := ?_) rfl (by kernel_rfl) (by kernel_rfl) (by kernel_rfl) (fun _ _ _ h => h) (Or.inl ⟨by rfl, ?_⟩) (by assumption) ?_
            rotate_left
            · (intro w hSw; (try dsimp only at hSw); go_simp; (try with_reducible rfl))
            ((try simp only [Act.put]); (try simp only [List.setIfInBounds_toArray, List.set_cons_zero, List.set_cons_succ]))
            refine wpAnyH_ready (rs := [18]) (by kernel_rfl) (by simp) ?_
            refine AllReadyH.cons (o := { dst := some 27, op := Op.call { callee := Callee.value (Operand.func 9), args := #[Operand.tmp 24, Operand.tmp 25, Operand.tmp 26], argTypes := #[24, 24, 24] }, type := 3, pos := "ref.go:52", after := #[{ on := 15, ground := Ground.data }, { on := 16, ground := Ground.data }, { on := 17, ground := Ground.data }, { on := 14, ground := Ground.chain }, { on := 14, ground := Ground.guard }], guard := some (14, true) }) rfl (fun K hK => ?_) AllReadyH.nil
            go_simp
            (go_at_call 9; ((with_reducible refine (HC4.out _ ?hq).mono ?_); (case hq => exact (((((Kp.refl wn).drew.step hbS_0).step hbS_1).step hbS_2).step hbS_3)); rintro x wS_4 ⟨rfl, hbS_4⟩))
            go_wp2_with fail
            refine hK.out _ _ ?_ (fun hH5 => ?_)
            · with_reducible exact ⟨keep_cell ((((((Kp.refl wn).drew.step hbS_0).step hbS_1).step hbS_2).step hbS_3).step hbS_4).out a0, keep_cell ((((((Kp.refl wn).drew.step hbS_0).step hbS_1).step hbS_2).step hbS_3).step hbS_4).out a1, keep_cell ((((((Kp.refl wn).drew.step hbS_0).step hbS_1).step hbS_2).step hbS_3).step hbS_4).out b0, keep_cell ((((((Kp.refl wn).drew.step hbS_0).step hbS_1).step hbS_2).step hbS_3).step hbS_4).out b1, keep_cell ((((((Kp.refl wn).drew.step hbS_0).step hbS_1).step hbS_2).step hbS_3).step hbS_4).out c0, keep_cell ((((((Kp.refl wn).drew.step hbS_0).step hbS_1).step hbS_2).step hbS_3).step hbS_4).out c1, keep_cell ((((((Kp.refl wn).drew.step hbS_0).step hbS_1).step hbS_2).step hbS_3).step hbS_4).out d0, keep_cell ((((((Kp.refl wn).drew.step hbS_0).step hbS_1).step hbS_2).step hbS_3).step hbS_4).out d1, ((((((Kp.refl wn).drew.step hbS_0).step hbS_1).step hbS_2).step hbS_3).step hbS_4)⟩
            clear hK K hH4
            ((try simp only [Act.put]); (try simp only [List.setIfInBounds_toArray, List.set_cons_zero, List.set_cons_succ]))
            refine wpAnyH_ready (rs := [22]) (by kernel_rfl) (by simp) ?_
            refine AllReadyH.cons (o := { dst := some 31, op := Op.call { callee := Callee.value (Operand.func 9), args := #[Operand.tmp 28, Operand.tmp 29, Operand.tmp 30], argTypes := #[24, 24, 24] }, type := 3, pos := "ref.go:52", after := #[{ on := 19, ground := Ground.data }, { on := 20, ground := Ground.data }, { on := 21, ground := Ground.data }, { on := 18, ground := Ground.chain }, { on := 14, ground := Ground.guard }], guard := some (14, true) }) rfl (fun K hK => ?_) AllReadyH.nil
            go_simp
            (go_at_call 9; ((with_reducible refine (HC5.out _ ?hq).mono ?_); (case hq => exact ((((((Kp.refl wn).drew.step hbS_0).step hbS_1).step hbS_2).step hbS_3).step hbS_4)); rintro x wS_5 ⟨rfl, hbS_5⟩))
            go_wp2_with fail
            refine hK.out _ _ ?_ (fun hH6 => ?_)
            · with_reducible exact ⟨keep_cell (((((((Kp.refl wn).drew.step hbS_0).step hbS_1).step hbS_2).step hbS_3).step hbS_4).step hbS_5).out a0, keep_cell (((((((Kp.refl wn).drew.step hbS_0).step hbS_1).step hbS_2).step hbS_3).step hbS_4).step hbS_5).out a1, keep_cell (((((((Kp.refl wn).drew.step hbS_0).step hbS_1).step hbS_2).step hbS_3).step hbS_4).step hbS_5).out b0, keep_cell (((((((Kp.refl wn).drew.step hbS_0).step hbS_1).step hbS_2).step hbS_3).step hbS_4).step hbS_5).out b1, keep_cell (((((((Kp.refl wn).drew.step hbS_0).step hbS_1).step hbS_2).step hbS_3).step hbS_4).step hbS_5).out c0, keep_cell (((((((Kp.refl wn).drew.step hbS_0).step hbS_1).step hbS_2).step hbS_3).step hbS_4).step hbS_5).out c1, keep_cell (((((((Kp.refl wn).drew.step hbS_0).step hbS_1).step hbS_2).step hbS_3).step hbS_4).step hbS_5).out d0, keep_cell (((((((Kp.refl wn).drew.step hbS_0).step hbS_1).step hbS_2).step hbS_3).step hbS_4).step hbS_5).out d1, (((((((Kp.refl wn).drew.step hbS_0).step hbS_1).step hbS_2).step hbS_3).step hbS_4).step hbS_5)⟩
            clear hK K hH5
            ((try simp only [Act.put]); (try simp only [List.setIfInBounds_toArray, List.set_cons_zero, List.set_cons_succ]))
            refine wpAnyH_take (i := 23) (oi := { dst := some 32, op := Op.binOp BinOp.mul 3 (Operand.tmp 27) (Operand.tmp 31) 3, type := 3, pos := "ref.go:52", after := #[{ on := 18, ground := Ground.data }, { on := 22, ground := Ground.data }, { on := 14, ground := Ground.guard }], guard := some (14, true) }) (v := ?_) rfl (by kernel_rfl) (by kernel_rfl) (by kernel_rfl) (fun _ _ _ h => h) (Or.inl ⟨by rfl, ?_⟩) (by assumption) ?_
            rotate_left
            · (intro w hSw; (try dsimp only at hSw); go_simp; (try with_reducible rfl))
            ((try simp only [Act.put]); (try simp only [List.setIfInBounds_toArray, List.set_cons_zero, List.set_cons_succ]))
            refine wpAnyH_take (i := 24) (oi := { dst := some 33, op := Op.binOp BinOp.lss 3 (Operand.tmp 32) (Operand.const (Value.int IntKind.i64 0)) 3, type := 4, pos := "ref.go:52", after := #[{ on := 23, ground := Ground.data }, { on := 14, ground := Ground.guard }], guard := some (14, true) }) (v := ?_) rfl (by kernel_rfl) (by kernel_rfl) (by kernel_rfl) (fun _ _ _ h => h) (Or.inl ⟨by rfl, ?_⟩) (by assumption) ?_
            rotate_left
            · (intro w hSw; (try dsimp only at hSw); go_simp; (try with_reducible rfl))
            ((try simp only [Act.put]); (try simp only [List.setIfInBounds_toArray, List.set_cons_zero, List.set_cons_succ]))
            refine wpAnyH_take (i := 25) (oi := { dst := some 34, op := Op.pick (Operand.tmp 23) (Operand.tmp 33) (Operand.const (Value.bool false)), type := 4, pos := "ref.go:52", after := #[{ on := 14, ground := Ground.data }, { on := 24, ground := Ground.data }], guard := none }) (v := ?_) rfl (by kernel_rfl) (by kernel_rfl) (by kernel_rfl) (fun _ _ _ h => h) (Or.inl ⟨by rfl, ?_⟩) (by assumption) ?_
            rotate_left
            · (intro w hSw; (try dsimp only at hSw); go_simp; (try with_reducible rfl))
            ((try simp only [Act.put]); (try simp only [List.setIfInBounds_toArray, List.set_cons_zero, List.set_cons_succ]))
            refine wpAnyH_take (i := 26) (oi := { dst := some 35, op := Op.move (Operand.tmp 34), type := 4, pos := "ref.go:52", after := #[{ on := 25, ground := Ground.data }, { on := 22, ground := Ground.chain }], guard := none }) (v := ?_) rfl (by kernel_rfl) (by kernel_rfl) (by kernel_rfl) (fun _ _ _ h => h) (Or.inl ⟨by rfl, ?_⟩) (by assumption) ?_
            rotate_left
            · (intro w hSw; (try dsimp only at hSw); go_simp; (try with_reducible rfl))
            ((try simp only [Act.put]); (try simp only [List.setIfInBounds_toArray, List.set_cons_zero, List.set_cons_succ]))
            refine wpAnyH_take (i := 27) (oi := { dst := some 36, op := Op.load 24 (Operand.tmp 6), type := 24, pos := "ref.go:52", after := #[{ on := 26, ground := Ground.guard }], guard := some (26, true) }) (v := ?_) rfl (by kernel_rfl) (by kernel_rfl) (by kernel_rfl) (fun _ _ _ h => h) (Or.inl ⟨by rfl, ?_⟩) (by assumption) ?_
            rotate_left
            · (intro w hSw; (try dsimp only at hSw); go_simp; (try with_reducible rfl))
            ((try simp only [Act.put]); (try simp only [List.setIfInBounds_toArray, List.set_cons_zero, List.set_cons_succ]))
            refine wpAnyH_take (i := 28) (oi := { dst := some 37, op := Op.load 24 (Operand.tmp 7), type := 24, pos := "ref.go:52", after := #[{ on := 26, ground := Ground.guard }], guard := some (26, true) }) (v := ?_) rfl (by kernel_rfl) (by kernel_rfl) (by kernel_rfl) (fun _ _ _ h => h) (Or.inl ⟨by rfl, ?_⟩) (by assumption) ?_
            rotate_left
            · (intro w hSw; (try dsimp only at hSw); go_simp; (try with_reducible rfl))
            ((try simp only [Act.put]); (try simp only [List.setIfInBounds_toArray, List.set_cons_zero, List.set_cons_succ]))
            refine wpAnyH_take (i := 29) (oi := { dst := some 38, op := Op.load 24 (Operand.tmp 4), type := 24, pos := "ref.go:52", after := #[{ on := 26, ground := Ground.guard }], guard := some (26, true) }) (v := ?_) rfl (by kernel_rfl) (by kernel_rfl) (by kernel_rfl) (fun _ _ _ h => h) (Or.inl ⟨by rfl, ?_⟩) (by assumption) ?_
            rotate_left
            · (intro w hSw; (try dsimp only at hSw); go_simp; (try with_reducible rfl))
            ((try simp only [Act.put]); (try simp only [List.setIfInBounds_toArray, List.set_cons_zero, List.set_cons_succ]))
            refine wpAnyH_take (i := 31) (oi := { dst := some 40, op := Op.load 24 (Operand.tmp 6), type := 24, pos := "ref.go:52", after := #[{ on := 26, ground := Ground.guard }], guard := some (26, true) }) (v := ?_) rfl (by kernel_rfl) (by kernel_rfl) (by kernel_rfl) (fun _ _ _ h => h) (Or.inl ⟨by rfl, ?_⟩) (by assumption) ?_
            rotate_left
            · (intro w hSw; (try dsimp only at hSw); go_simp; (try with_reducible rfl))
            ((try simp only [Act.put]); (try simp only [List.setIfInBounds_toArray, List.set_cons_zero, List.set_cons_succ]))
            refine wpAnyH_take (i := 32) (oi := { dst := some 41, op := Op.load 24 (Operand.tmp 7), type := 24, pos := "ref.go:52", after := #[{ on := 26, ground := Ground.guard }], guard := some (26, true) }) (v := ?_) rfl (by kernel_rfl) (by kernel_rfl) (by kernel_rfl) (fun _ _ _ h => h) (Or.inl ⟨by rfl, ?_⟩) (by assumption) ?_
            rotate_left
            · (intro w hSw; (try dsimp only at hSw); go_simp; (try with_reducible rfl))
            ((try simp only [Act.put]); (try simp only [List.setIfInBounds_toArray, List.set_cons_zero, List.set_cons_succ]))
            refine wpAnyH_take (i := 33) (oi := { dst := some 42, op := Op.load 24 (Operand.tmp 5), type := 24, pos := "ref.go:52", after := #[{ on := 26, ground := Ground.guard }], guard := some (26, true) }) (v := ?_) rfl (by kernel_rfl) (by kernel_rfl) (by kernel_rfl) (fun _ _ _ h => h) (Or.inl ⟨by rfl, ?_⟩) (by assumption) ?_
            rotate_left
            · (intro w hSw; (try dsimp only at hSw); go_simp; (try with_reducible rfl))
            ((try simp only [Act.put]); (try simp only [List.setIfInBounds_toArray, List.set_cons_zero, List.set_cons_succ]))
            refine wpAnyH_ready (rs := [30]) (by kernel_rfl) (by simp) ?_
            refine AllReadyH.cons (o := { dst := some 39, op := Op.call { callee := Callee.value (Operand.func 9), args := #[Operand.tmp 36, Operand.tmp 37, Operand.tmp 38], argTypes := #[24, 24, 24] }, type := 3, pos := "ref.go:52", after := #[{ on := 27, ground := Ground.data }, { on := 28, ground := Ground.data }, { on := 29, ground := Ground.data }, { on := 26, ground := Ground.chain }, { on := 26, ground := Ground.guard }], guard := some (26, true) }) rfl (fun K hK => ?_) AllReadyH.nil
            go_simp
            (go_at_call 9; ((with_reducible refine (HC6.out _ ?hq).mono ?_); (case hq => exact (((((((Kp.refl wn).drew.step hbS_0).step hbS_1).step hbS_2).step hbS_3).step hbS_4).step hbS_5)); rintro x wS_6 ⟨rfl, hbS_6⟩))
            go_wp2_with fail
            refine hK.out _ _ ?_ (fun hH7 => ?_)
            · with_reducible exact ⟨keep_cell ((((((((Kp.refl wn).drew.step hbS_0).step hbS_1).step hbS_2).step hbS_3).step hbS_4).step hbS_5).step hbS_6).out a0, keep_cell ((((((((Kp.refl wn).drew.step hbS_0).step hbS_1).step hbS_2).step hbS_3).step hbS_4).step hbS_5).step hbS_6).out a1, keep_cell ((((((((Kp.refl wn).drew.step hbS_0).step hbS_1).step hbS_2).step hbS_3).step hbS_4).step hbS_5).step hbS_6).out b0, keep_cell ((((((((Kp.refl wn).drew.step hbS_0).step hbS_1).step hbS_2).step hbS_3).step hbS_4).step hbS_5).step hbS_6).out b1, keep_cell ((((((((Kp.refl wn).drew.step hbS_0).step hbS_1).step hbS_2).step hbS_3).step hbS_4).step hbS_5).step hbS_6).out c0, keep_cell ((((((((Kp.refl wn).drew.step hbS_0).step hbS_1).step hbS_2).step hbS_3).step hbS_4).step hbS_5).step hbS_6).out c1, keep_cell ((((((((Kp.refl wn).drew.step hbS_0).step hbS_1).step hbS_2).step hbS_3).step hbS_4).step hbS_5).step hbS_6).out d0, keep_cell ((((((((Kp.refl wn).drew.step hbS_0).step hbS_1).step hbS_2).step hbS_3).step hbS_4).step hbS_5).step hbS_6).out d1, ((((((((Kp.refl wn).drew.step hbS_0).step hbS_1).step hbS_2).step hbS_3).step hbS_4).step hbS_5).step hbS_6)⟩
            clear hK K hH6
            ((try simp only [Act.put]); (try simp only [List.setIfInBounds_toArray, List.set_cons_zero, List.set_cons_succ]))
            refine wpAnyH_ready (rs := [34]) (by kernel_rfl) (by simp) ?_
            refine AllReadyH.cons (o := { dst := some 43, op := Op.call { callee := Callee.value (Operand.func 9), args := #[Operand.tmp 40, Operand.tmp 41, Operand.tmp 42], argTypes := #[24, 24, 24] }, type := 3, pos := "ref.go:52", after := #[{ on := 31, ground := Ground.data }, { on := 32, ground := Ground.data }, { on := 33, ground := Ground.data }, { on := 30, ground := Ground.chain }, { on := 26, ground := Ground.guard }], guard := some (26, true) }) rfl (fun K hK => ?_) AllReadyH.nil
            go_simp
            (go_at_call 9; ((with_reducible refine (HC7.out _ ?hq).mono ?_); (case hq => exact ((((((((Kp.refl wn).drew.step hbS_0).step hbS_1).step hbS_2).step hbS_3).step hbS_4).step hbS_5).step hbS_6)); rintro x wS_7 ⟨rfl, hbS_7⟩))
            go_wp2_with fail
            refine hK.out _ _ ?_ (fun hH8 => ?_)
            · with_reducible exact ⟨keep_cell (((((((((Kp.refl wn).drew.step hbS_0).step hbS_1).step hbS_2).step hbS_3).step hbS_4).step hbS_5).step hbS_6).step hbS_7).out a0, keep_cell (((((((((Kp.refl wn).drew.step hbS_0).step hbS_1).step hbS_2).step hbS_3).step hbS_4).step hbS_5).step hbS_6).step hbS_7).out a1, keep_cell (((((((((Kp.refl wn).drew.step hbS_0).step hbS_1).step hbS_2).step hbS_3).step hbS_4).step hbS_5).step hbS_6).step hbS_7).out b0, keep_cell (((((((((Kp.refl wn).drew.step hbS_0).step hbS_1).step hbS_2).step hbS_3).step hbS_4).step hbS_5).step hbS_6).step hbS_7).out b1, keep_cell (((((((((Kp.refl wn).drew.step hbS_0).step hbS_1).step hbS_2).step hbS_3).step hbS_4).step hbS_5).step hbS_6).step hbS_7).out c0, keep_cell (((((((((Kp.refl wn).drew.step hbS_0).step hbS_1).step hbS_2).step hbS_3).step hbS_4).step hbS_5).step hbS_6).step hbS_7).out c1, keep_cell (((((((((Kp.refl wn).drew.step hbS_0).step hbS_1).step hbS_2).step hbS_3).step hbS_4).step hbS_5).step hbS_6).step hbS_7).out d0, keep_cell (((((((((Kp.refl wn).drew.step hbS_0).step hbS_1).step hbS_2).step hbS_3).step hbS_4).step hbS_5).step hbS_6).step hbS_7).out d1, (((((((((Kp.refl wn).drew.step hbS_0).step hbS_1).step hbS_2).step hbS_3).step hbS_4).step hbS_5).step hbS_6).step hbS_7)⟩
            clear hK K hH7
            ((try simp only [Act.put]); (try simp only [List.setIfInBounds_toArray, List.set_cons_zero, List.set_cons_succ]))
            refine wpAnyH_take (i := 35) (oi := { dst := some 44, op := Op.binOp BinOp.mul 3 (Operand.tmp 39) (Operand.tmp 43) 3, type := 3, pos := "ref.go:52", after := #[{ on := 30, ground := Ground.data }, { on := 34, ground := Ground.data }, { on := 26, ground := Ground.guard }], guard := some (26, true) }) (v := ?_) rfl (by kernel_rfl) (by kernel_rfl) (by kernel_rfl) (fun _ _ _ h => h) (Or.inl ⟨by rfl, ?_⟩) (by assumption) ?_
            rotate_left
            · (intro w hSw; (try dsimp only at hSw); go_simp; (try with_reducible rfl))
            ((try simp only [Act.put]); (try simp only [List.setIfInBounds_toArray, List.set_cons_zero, List.set_cons_succ]))
            refine wpAnyH_take (i := 36) (oi := { dst := some 45, op := Op.binOp BinOp.lss 3 (Operand.tmp 44) (Operand.const (Value.int IntKind.i64 0)) 3, type := 4, pos := "ref.go:52", after := #[{ on := 35, ground := Ground.data }, { on := 26, ground := Ground.guard }], guard := some (26, true) }) (v := ?_) rfl (by kernel_rfl) (by kernel_rfl) (by kernel_rfl) (fun _ _ _ h => h) (Or.inl ⟨by rfl, ?_⟩) (by assumption) ?_
            rotate_left
            · (intro w hSw; (try dsimp only at hSw); go_simp; (try with_reducible rfl))
            ((try simp only [Act.put]); (try simp only [List.setIfInBounds_toArray, List.set_cons_zero, List.set_cons_succ]))
            refine wpAnyH_take (i := 37) (oi := { dst := some 46, op := Op.pick (Operand.tmp 35) (Operand.tmp 45) (Operand.const (Value.bool false)), type := 4, pos := "ref.go:52", after := #[{ on := 26, ground := Ground.data }, { on := 36, ground := Ground.data }], guard := none }) (v := ?_) rfl (by kernel_rfl) (by kernel_rfl) (by kernel_rfl) (fun _ _ _ h => h) (Or.inl ⟨by rfl, ?_⟩) (by assumption) ?_
            rotate_left
            · (intro w hSw; (try dsimp only at hSw); go_simp; (try with_reducible rfl))
            ((try simp only [Act.put]); (try simp only [List.setIfInBounds_toArray, List.set_cons_zero, List.set_cons_succ]))
            refine wpAnyH_take (i := 38) (oi := { dst := some 8, op := Op.assign (Operand.tmp 46), type := 4, pos := "ref.go:52", after := #[{ on := 37, ground := Ground.data }, { on := 34, ground := Ground.chain }, { on := 0, ground := Ground.phase }, { on := 1, ground := Ground.phase }, { on := 2, ground := Ground.phase }, { on := 3, ground := Ground.phase }, { on := 4, ground := Ground.phase }, { on := 5, ground := Ground.phase }, { on := 6, ground := Ground.phase }, { on := 7, ground := Ground.phase }, { on := 8, ground := Ground.phase }, { on := 9, ground := Ground.phase }, { on := 10, ground := Ground.phase }, { on := 11, ground := Ground.phase }, { on := 12, ground := Ground.phase }, { on := 13, ground := Ground.phase }, { on := 14, ground := Ground.phase }, { on := 15, ground := Ground.phase }, { on := 16, ground := Ground.phase }, { on := 17, ground := Ground.phase }, { on := 18, ground := Ground.phase }, { on := 19, ground := Ground.phase }, { on := 20, ground := Ground.phase }, { on := 21, ground := Ground.phase }, { on := 22, ground := Ground.phase }, { on := 23, ground := Ground.phase }, { on := 24, ground := Ground.phase }, { on := 25, ground := Ground.phase }, { on := 26, ground := Ground.phase }, { on := 27, ground := Ground.phase }, { on := 28, ground := Ground.phase }, { on := 29, ground := Ground.phase }, { on := 30, ground := Ground.phase }, { on := 31, ground := Ground.phase }, { on := 32, ground := Ground.phase }, { on := 33, ground := Ground.phase }, { on := 34, ground := Ground.phase }, { on := 35, ground := Ground.phase }, { on := 36, ground := Ground.phase }, { on := 37, ground := Ground.phase }], guard := none }) (v := ?_) rfl (by kernel_rfl) (by kernel_rfl) (by kernel_rfl) (fun _ _ _ h => h) (Or.inl ⟨by rfl, ?_⟩) (by assumption) ?_
            rotate_left
            · (intro w hSw; (try dsimp only at hSw); go_simp; (try with_reducible rfl))
            ((try simp only [Act.put]); (try simp only [List.setIfInBounds_toArray, List.set_cons_zero, List.set_cons_succ]))
            refine wpAnyH_done (by kernel_rfl) ?_ _
            clear hH8
            go_wp2_with fail
            go_ret
            exact ⟨ret_bool (by rw [HT1.out]; simp), bl_pack HW.out HW.out.size (((((((((Kp.refl wn).drew.step hbS_0).step hbS_1).step hbS_2).step hbS_3).step hbS_4).step hbS_5).step hbS_6).step hbS_7).out⟩
set_option maxRecDepth 100000 in
set_option maxHeartbeats 8000000 in
theorem meets_walk {w : World} (ht : TabOk w) (ax ay bx bY cx cy dx dy : Nat) (hax : ax < 18446744073709551616) (hay : ay < 18446744073709551616) (hbx : bx < 18446744073709551616) (hby : bY < 18446744073709551616) (hcx : cx < 18446744073709551616) (hcy : cy < 18446744073709551616) (hdx : dx < 18446744073709551616) (hdy : dy < 18446744073709551616) :
    Calls Tryd.prog 5 #[.agg #[.float .f64 ax, .float .f64 ay], .agg #[.float .f64 bx, .float .f64 bY], .agg #[.float .f64 cx, .float .f64 cy], .agg #[.float .f64 dx, .float .f64 dy]] w fun e w' => e = .returned (.bool true) ∧ Below w.heap.size w w' := by
  obtain ⟨wn, hwn, HW0, hsz, k0, k1, k2, k3⟩ := four_cellsO w (.cells #[.float .f64 ax, .float .f64 ay] 24) (.cells #[.float .f64 bx, .float .f64 bY] 24) (.cells #[.float .f64 cx, .float .f64 cy] 24) (.cells #[.float .f64 dx, .float .f64 dy] 24)
  have a0 : wn.cell? ⟨w.heap.size, 0, none⟩ = some (.float .f64 ax) := cell_of_block k0 0
  have a1 : wn.cell? ⟨w.heap.size, 1, none⟩ = some (.float .f64 ay) := cell_of_block k0 1
  have b0 : wn.cell? ⟨w.heap.size + 1, 0, none⟩ = some (.float .f64 bx) := cell_of_block k1 0
  have b1 : wn.cell? ⟨w.heap.size + 1, 1, none⟩ = some (.float .f64 bY) := cell_of_block k1 1
  have c0 : wn.cell? ⟨w.heap.size + 1 + 1, 0, none⟩ = some (.float .f64 cx) := cell_of_block k2 0
  have c1 : wn.cell? ⟨w.heap.size + 1 + 1, 1, none⟩ = some (.float .f64 cy) := cell_of_block k2 1
  have d0 : wn.cell? ⟨w.heap.size + 1 + 1 + 1, 0, none⟩ = some (.float .f64 dx) := cell_of_block k3 0
  have d1 : wn.cell? ⟨w.heap.size + 1 + 1 + 1, 1, none⟩ = some (.float .f64 dy) := cell_of_block k3 1
  have HW := Lib.hid HW0
  have HT := Lib.hid (ht.keep HW0)
  have H1 := Lib.hid (fun (W : World) (hT : TabOk W) => oon_calls hT ax ay bx bY cx cy hax hay hbx hby hcx hcy)
  have H2 := Lib.hid (fun (W : World) => ron_calls ax ay bx bY cx cy hax hay hbx hby hcx hcy W)
  have H3 := Lib.hid (fun (W : World) (hT : TabOk W) => ocross_calls hT ax ay bx bY cx cy dx dy hax hay hbx hby hcx hcy hdx hdy)
  have H4 := Lib.hid (fun (W : World) => rcross_calls ax ay bx bY cx cy dx dy hax hay hbx hby hcx hcy hdx hdy W)
  have H5 := Lib.hid (fun (W : World) (hT : TabOk W) => awake_calls hT)
  obtain ⟨O, hO⟩ : ∃ O, O = onB ax ay bx bY cx cy := ⟨_, rfl⟩
  obtain ⟨X, hX⟩ : ∃ X, X = crossB ax ay bx bY cx cy dx dy := ⟨_, rfl⟩
  rw [← hO] at H1 H2
  rw [← hX] at H3 H4
  clear hO hX k0 k1 k2 k3 HW0 hsz ht hax hay hbx hby hcx hcy hdx hdy
  cases O <;> cases X
  all_goals
    go_enter Tryd.func5, Tryd.ntmps5
    go_wp2_with fail
    rw [← hwn]
    clear hwn
    have HC0 := Lib.hid (fun (Y : World) (h' : Kp wn Y) => H1.out Y (HT.out.keep h'.out))
    have HC1 := Lib.hid (fun (Y : World) (h' : Kp wn Y) => H2.out Y)
    have HC2 := Lib.hid (fun (Y : World) (h' : Kp wn Y) => H3.out Y (HT.out.keep h'.out))
    have HC3 := Lib.hid (fun (Y : World) (h' : Kp wn Y) => H4.out Y)
    have HC4 := Lib.hid (fun (Y : World) (h' : Kp wn Y) => H5.out Y (HT.out.keep h'.out))
    refine wp_region_held_drew (S := fun w' => w'.cell? ⟨w.heap.size, 0, none⟩ = some (.float .f64 ax) ∧ w'.cell? ⟨w.heap.size, 1, none⟩ = some (.float .f64 ay) ∧ w'.cell? ⟨w.heap.size + 1, 0, none⟩ = some (.float .f64 bx) ∧ w'.cell? ⟨w.heap.size + 1, 1, none⟩ = some (.float .f64 bY) ∧ w'.cell? ⟨w.heap.size + 1 + 1, 0, none⟩ = some (.float .f64 cx) ∧ w'.cell? ⟨w.heap.size + 1 + 1, 1, none⟩ = some (.float .f64 cy) ∧ w'.cell? ⟨w.heap.size + 1 + 1 + 1, 0, none⟩ = some (.float .f64 dx) ∧ w'.cell? ⟨w.heap.size + 1 + 1 + 1, 1, none⟩ = some (.float .f64 dy) ∧ Kp wn w') (by kernel_rfl) ?_ (fun hH0 => ?_)
    · with_reducible exact ⟨keep_cell (Kp.refl wn).drew.out a0, keep_cell (Kp.refl wn).drew.out a1, keep_cell (Kp.refl wn).drew.out b0, keep_cell (Kp.refl wn).drew.out b1, keep_cell (Kp.refl wn).drew.out c0, keep_cell (Kp.refl wn).drew.out c1, keep_cell (Kp.refl wn).drew.out d0, keep_cell (Kp.refl wn).drew.out d1, (Kp.refl wn).drew⟩
    show wpAnyH _ _ _ _ _ _ (#[false, false, false, false, false, false, false, false, false, false, false, false, false, false, false, false, false, false, false, false, false, false, false, false, false, false] : Array Bool) _ _
    refine wpAnyH_take (i := 0) (oi := { dst := some 9, op := Op.load 24 (Operand.tmp 4), type := 24, pos := "law.go:31", after := #[], guard := none }) (v := ?_) rfl (by kernel_rfl) (by kernel_rfl) (by kernel_rfl) (fun _ _ _ h => h) (Or.inl ⟨by rfl, ?_⟩) (by assumption) ?_
    rotate_left
    · (intro w hSw; (try dsimp only at hSw); go_simp; (try with_reducible rfl))
    ((try simp only [Act.put]); (try simp only [List.setIfInBounds_toArray, List.set_cons_zero, List.set_cons_succ]))
    refine wpAnyH_take (i := 1) (oi := { dst := some 10, op := Op.load 24 (Operand.tmp 5), type := 24, pos := "law.go:31", after := #[], guard := none }) (v := ?_) rfl (by kernel_rfl) (by kernel_rfl) (by kernel_rfl) (fun _ _ _ h => h) (Or.inl ⟨by rfl, ?_⟩) (by assumption) ?_
    rotate_left
    · (intro w hSw; (try dsimp only at hSw); go_simp; (try with_reducible rfl))
    ((try simp only [Act.put]); (try simp only [List.setIfInBounds_toArray, List.set_cons_zero, List.set_cons_succ]))
    refine wpAnyH_take (i := 2) (oi := { dst := some 11, op := Op.load 24 (Operand.tmp 6), type := 24, pos := "law.go:31", after := #[], guard := none }) (v := ?_) rfl (by kernel_rfl) (by kernel_rfl) (by kernel_rfl) (fun _ _ _ h => h) (Or.inl ⟨by rfl, ?_⟩) (by assumption) ?_
    rotate_left
    · (intro w hSw; (try dsimp only at hSw); go_simp; (try with_reducible rfl))
    ((try simp only [Act.put]); (try simp only [List.setIfInBounds_toArray, List.set_cons_zero, List.set_cons_succ]))
    refine wpAnyH_take (i := 4) (oi := { dst := some 13, op := Op.load 24 (Operand.tmp 4), type := 24, pos := "law.go:31", after := #[], guard := none }) (v := ?_) rfl (by kernel_rfl) (by kernel_rfl) (by kernel_rfl) (fun _ _ _ h => h) (Or.inl ⟨by rfl, ?_⟩) (by assumption) ?_
    rotate_left
    · (intro w hSw; (try dsimp only at hSw); go_simp; (try with_reducible rfl))
    ((try simp only [Act.put]); (try simp only [List.setIfInBounds_toArray, List.set_cons_zero, List.set_cons_succ]))
    refine wpAnyH_take (i := 5) (oi := { dst := some 14, op := Op.load 24 (Operand.tmp 5), type := 24, pos := "law.go:31", after := #[], guard := none }) (v := ?_) rfl (by kernel_rfl) (by kernel_rfl) (by kernel_rfl) (fun _ _ _ h => h) (Or.inl ⟨by rfl, ?_⟩) (by assumption) ?_
    rotate_left
    · (intro w hSw; (try dsimp only at hSw); go_simp; (try with_reducible rfl))
    ((try simp only [Act.put]); (try simp only [List.setIfInBounds_toArray, List.set_cons_zero, List.set_cons_succ]))
    refine wpAnyH_take (i := 6) (oi := { dst := some 15, op := Op.load 24 (Operand.tmp 6), type := 24, pos := "law.go:31", after := #[], guard := none }) (v := ?_) rfl (by kernel_rfl) (by kernel_rfl) (by kernel_rfl) (fun _ _ _ h => h) (Or.inl ⟨by rfl, ?_⟩) (by assumption) ?_
    rotate_left
    · (intro w hSw; (try dsimp only at hSw); go_simp; (try with_reducible rfl))
    ((try simp only [Act.put]); (try simp only [List.setIfInBounds_toArray, List.set_cons_zero, List.set_cons_succ]))
    refine wpAnyH_ready (rs := [3]) (by kernel_rfl) (by simp) ?_
    refine AllReadyH.cons (o := { dst := some 12, op := Op.call { callee := Callee.value (Operand.func 15), args := #[Operand.tmp 9, Operand.tmp 10, Operand.tmp 11], argTypes := #[24, 24, 24] }, type := 4, pos := "law.go:31", after := #[{ on := 0, ground := Ground.data }, { on := 1, ground := Ground.data }, { on := 2, ground := Ground.data }], guard := none }) rfl (fun K hK => ?_) AllReadyH.nil
    go_simp
    (go_at_call 15; ((with_reducible refine (HC0.out _ ?hq).mono ?_); (case hq => exact (Kp.refl wn).drew); rintro x wS_0 ⟨rfl, hbS_0⟩))
    go_wp2_with fail
    refine hK.out _ _ ?_ (fun hH1 => ?_)
    · with_reducible exact ⟨keep_cell ((Kp.refl wn).drew.step hbS_0).out a0, keep_cell ((Kp.refl wn).drew.step hbS_0).out a1, keep_cell ((Kp.refl wn).drew.step hbS_0).out b0, keep_cell ((Kp.refl wn).drew.step hbS_0).out b1, keep_cell ((Kp.refl wn).drew.step hbS_0).out c0, keep_cell ((Kp.refl wn).drew.step hbS_0).out c1, keep_cell ((Kp.refl wn).drew.step hbS_0).out d0, keep_cell ((Kp.refl wn).drew.step hbS_0).out d1, ((Kp.refl wn).drew.step hbS_0)⟩
    clear hK K hH0
    ((try simp only [Act.put]); (try simp only [List.setIfInBounds_toArray, List.set_cons_zero, List.set_cons_succ]))
    refine wpAnyH_ready (rs := [7]) (by kernel_rfl) (by simp) ?_
    refine AllReadyH.cons (o := { dst := some 16, op := Op.call { callee := Callee.value (Operand.func 16), args := #[Operand.tmp 13, Operand.tmp 14, Operand.tmp 15], argTypes := #[24, 24, 24] }, type := 4, pos := "law.go:31", after := #[{ on := 4, ground := Ground.data }, { on := 5, ground := Ground.data }, { on := 6, ground := Ground.data }, { on := 3, ground := Ground.chain }], guard := none }) rfl (fun K hK => ?_) AllReadyH.nil
    go_simp
    (go_at_call 16; ((with_reducible refine (HC1.out _ ?hq).mono ?_); (case hq => exact ((Kp.refl wn).drew.step hbS_0)); rintro x wS_1 ⟨rfl, hbS_1⟩))
    go_wp2_with fail
    refine hK.out _ _ ?_ (fun hH2 => ?_)
    · with_reducible exact ⟨keep_cell (((Kp.refl wn).drew.step hbS_0).step hbS_1).out a0, keep_cell (((Kp.refl wn).drew.step hbS_0).step hbS_1).out a1, keep_cell (((Kp.refl wn).drew.step hbS_0).step hbS_1).out b0, keep_cell (((Kp.refl wn).drew.step hbS_0).step hbS_1).out b1, keep_cell (((Kp.refl wn).drew.step hbS_0).step hbS_1).out c0, keep_cell (((Kp.refl wn).drew.step hbS_0).step hbS_1).out c1, keep_cell (((Kp.refl wn).drew.step hbS_0).step hbS_1).out d0, keep_cell (((Kp.refl wn).drew.step hbS_0).step hbS_1).out d1, (((Kp.refl wn).drew.step hbS_0).step hbS_1)⟩
    clear hK K hH1
    ((try simp only [Act.put]); (try simp only [List.setIfInBounds_toArray, List.set_cons_zero, List.set_cons_succ]))
    refine wpAnyH_take (i := 8) (oi := { dst := some 17, op := Op.binOp BinOp.eql 4 (Operand.tmp 12) (Operand.tmp 16) 4, type := 4, pos := "law.go:31", after := #[{ on := 3, ground := Ground.data }, { on := 7, ground := Ground.data }], guard := none }) (v := ?_) rfl (by kernel_rfl) (by kernel_rfl) (by kernel_rfl) (fun _ _ _ h => h) (Or.inl ⟨by rfl, ?_⟩) (by assumption) ?_
    rotate_left
    · (intro w hSw; (try dsimp only at hSw); go_simp; (try with_reducible rfl))
    ((try simp only [Act.put]); (try simp only [List.setIfInBounds_toArray, List.set_cons_zero, List.set_cons_succ]))
    refine wpAnyH_take (i := 9) (oi := { dst := some 18, op := Op.move (Operand.tmp 17), type := 4, pos := "law.go:31", after := #[{ on := 8, ground := Ground.data }, { on := 7, ground := Ground.chain }], guard := none }) (v := ?_) rfl (by kernel_rfl) (by kernel_rfl) (by kernel_rfl) (fun _ _ _ h => h) (Or.inl ⟨by rfl, ?_⟩) (by assumption) ?_
    rotate_left
    · (intro w hSw; (try dsimp only at hSw); go_simp; (try with_reducible rfl))
    ((try simp only [Act.put]); (try simp only [List.setIfInBounds_toArray, List.set_cons_zero, List.set_cons_succ]))
    refine wpAnyH_take (i := 10) (oi := { dst := some 19, op := Op.load 24 (Operand.tmp 4), type := 24, pos := "law.go:31", after := #[{ on := 9, ground := Ground.guard }], guard := some (9, true) }) (v := ?_) rfl (by kernel_rfl) (by kernel_rfl) (by kernel_rfl) (fun _ _ _ h => h) (Or.inl ⟨by rfl, ?_⟩) (by assumption) ?_
    rotate_left
    · (intro w hSw; (try dsimp only at hSw); go_simp; (try with_reducible rfl))
    ((try simp only [Act.put]); (try simp only [List.setIfInBounds_toArray, List.set_cons_zero, List.set_cons_succ]))
    refine wpAnyH_take (i := 11) (oi := { dst := some 20, op := Op.load 24 (Operand.tmp 5), type := 24, pos := "law.go:31", after := #[{ on := 9, ground := Ground.guard }], guard := some (9, true) }) (v := ?_) rfl (by kernel_rfl) (by kernel_rfl) (by kernel_rfl) (fun _ _ _ h => h) (Or.inl ⟨by rfl, ?_⟩) (by assumption) ?_
    rotate_left
    · (intro w hSw; (try dsimp only at hSw); go_simp; (try with_reducible rfl))
    ((try simp only [Act.put]); (try simp only [List.setIfInBounds_toArray, List.set_cons_zero, List.set_cons_succ]))
    refine wpAnyH_take (i := 12) (oi := { dst := some 21, op := Op.load 24 (Operand.tmp 6), type := 24, pos := "law.go:31", after := #[{ on := 9, ground := Ground.guard }], guard := some (9, true) }) (v := ?_) rfl (by kernel_rfl) (by kernel_rfl) (by kernel_rfl) (fun _ _ _ h => h) (Or.inl ⟨by rfl, ?_⟩) (by assumption) ?_
    rotate_left
    · (intro w hSw; (try dsimp only at hSw); go_simp; (try with_reducible rfl))
    ((try simp only [Act.put]); (try simp only [List.setIfInBounds_toArray, List.set_cons_zero, List.set_cons_succ]))
    refine wpAnyH_take (i := 13) (oi := { dst := some 22, op := Op.load 24 (Operand.tmp 7), type := 24, pos := "law.go:31", after := #[{ on := 9, ground := Ground.guard }], guard := some (9, true) }) (v := ?_) rfl (by kernel_rfl) (by kernel_rfl) (by kernel_rfl) (fun _ _ _ h => h) (Or.inl ⟨by rfl, ?_⟩) (by assumption) ?_
    rotate_left
    · (intro w hSw; (try dsimp only at hSw); go_simp; (try with_reducible rfl))
    ((try simp only [Act.put]); (try simp only [List.setIfInBounds_toArray, List.set_cons_zero, List.set_cons_succ]))
    refine wpAnyH_take (i := 15) (oi := { dst := some 24, op := Op.load 24 (Operand.tmp 4), type := 24, pos := "law.go:31", after := #[{ on := 9, ground := Ground.guard }], guard := some (9, true) }) (v := ?_) rfl (by kernel_rfl) (by kernel_rfl) (by kernel_rfl) (fun _ _ _ h => h) (Or.inl ⟨by rfl, ?_⟩) (by assumption) ?_
    rotate_left
    · (intro w hSw; (try dsimp only at hSw); go_simp; (try with_reducible rfl))
    ((try simp only [Act.put]); (try simp only [List.setIfInBounds_toArray, List.set_cons_zero, List.set_cons_succ]))
    refine wpAnyH_take (i := 16) (oi := { dst := some 25, op := Op.load 24 (Operand.tmp 5), type := 24, pos := "law.go:31", after := #[{ on := 9, ground := Ground.guard }], guard := some (9, true) }) (v := ?_) rfl (by kernel_rfl) (by kernel_rfl) (by kernel_rfl) (fun _ _ _ h => h) (Or.inl ⟨by rfl, ?_⟩) (by assumption) ?_
    rotate_left
    · (intro w hSw; (try dsimp only at hSw); go_simp; (try with_reducible rfl))
    ((try simp only [Act.put]); (try simp only [List.setIfInBounds_toArray, List.set_cons_zero, List.set_cons_succ]))
    refine wpAnyH_take (i := 17) (oi := { dst := some 26, op := Op.load 24 (Operand.tmp 6), type := 24, pos := "law.go:31", after := #[{ on := 9, ground := Ground.guard }], guard := some (9, true) }) (v := ?_) rfl (by kernel_rfl) (by kernel_rfl) (by kernel_rfl) (fun _ _ _ h => h) (Or.inl ⟨by rfl, ?_⟩) (by assumption) ?_
    rotate_left
    · (intro w hSw; (try dsimp only at hSw); go_simp; (try with_reducible rfl))
    ((try simp only [Act.put]); (try simp only [List.setIfInBounds_toArray, List.set_cons_zero, List.set_cons_succ]))
    refine wpAnyH_take (i := 18) (oi := { dst := some 27, op := Op.load 24 (Operand.tmp 7), type := 24, pos := "law.go:31", after := #[{ on := 9, ground := Ground.guard }], guard := some (9, true) }) (v := ?_) rfl (by kernel_rfl) (by kernel_rfl) (by kernel_rfl) (fun _ _ _ h => h) (Or.inl ⟨by rfl, ?_⟩) (by assumption) ?_
    rotate_left
    · (intro w hSw; (try dsimp only at hSw); go_simp; (try with_reducible rfl))
    ((try simp only [Act.put]); (try simp only [List.setIfInBounds_toArray, List.set_cons_zero, List.set_cons_succ]))
    refine wpAnyH_ready (rs := [14]) (by kernel_rfl) (by simp) ?_
    refine AllReadyH.cons (o := { dst := some 23, op := Op.call { callee := Callee.value (Operand.func 17), args := #[Operand.tmp 19, Operand.tmp 20, Operand.tmp 21, Operand.tmp 22], argTypes := #[24, 24, 24, 24] }, type := 4, pos := "law.go:31", after := #[{ on := 10, ground := Ground.data }, { on := 11, ground := Ground.data }, { on := 12, ground := Ground.data }, { on := 13, ground := Ground.data }, { on := 9, ground := Ground.chain }, { on := 9, ground := Ground.guard }], guard := some (9, true) }) rfl (fun K hK => ?_) AllReadyH.nil
    go_simp
    (go_at_call 17; ((with_reducible refine (HC2.out _ ?hq).mono ?_); (case hq => exact (((Kp.refl wn).drew.step hbS_0).step hbS_1)); rintro x wS_2 ⟨rfl, hbS_2⟩))
    go_wp2_with fail
    refine hK.out _ _ ?_ (fun hH3 => ?_)
    · with_reducible exact ⟨keep_cell ((((Kp.refl wn).drew.step hbS_0).step hbS_1).step hbS_2).out a0, keep_cell ((((Kp.refl wn).drew.step hbS_0).step hbS_1).step hbS_2).out a1, keep_cell ((((Kp.refl wn).drew.step hbS_0).step hbS_1).step hbS_2).out b0, keep_cell ((((Kp.refl wn).drew.step hbS_0).step hbS_1).step hbS_2).out b1, keep_cell ((((Kp.refl wn).drew.step hbS_0).step hbS_1).step hbS_2).out c0, keep_cell ((((Kp.refl wn).drew.step hbS_0).step hbS_1).step hbS_2).out c1, keep_cell ((((Kp.refl wn).drew.step hbS_0).step hbS_1).step hbS_2).out d0, keep_cell ((((Kp.refl wn).drew.step hbS_0).step hbS_1).step hbS_2).out d1, ((((Kp.refl wn).drew.step hbS_0).step hbS_1).step hbS_2)⟩
    clear hK K hH2
    ((try simp only [Act.put]); (try simp only [List.setIfInBounds_toArray, List.set_cons_zero, List.set_cons_succ]))
    refine wpAnyH_ready (rs := [19]) (by kernel_rfl) (by simp) ?_
    refine AllReadyH.cons (o := { dst := some 28, op := Op.call { callee := Callee.value (Operand.func 18), args := #[Operand.tmp 24, Operand.tmp 25, Operand.tmp 26, Operand.tmp 27], argTypes := #[24, 24, 24, 24] }, type := 4, pos := "law.go:31", after := #[{ on := 15, ground := Ground.data }, { on := 16, ground := Ground.data }, { on := 17, ground := Ground.data }, { on := 18, ground := Ground.data }, { on := 14, ground := Ground.chain }, { on := 9, ground := Ground.guard }], guard := some (9, true) }) rfl (fun K hK => ?_) AllReadyH.nil
    go_simp
    (go_at_call 18; ((with_reducible refine (HC3.out _ ?hq).mono ?_); (case hq => exact ((((Kp.refl wn).drew.step hbS_0).step hbS_1).step hbS_2)); rintro x wS_3 ⟨rfl, hbS_3⟩))
    go_wp2_with fail
    refine hK.out _ _ ?_ (fun hH4 => ?_)
    · with_reducible exact ⟨keep_cell (((((Kp.refl wn).drew.step hbS_0).step hbS_1).step hbS_2).step hbS_3).out a0, keep_cell (((((Kp.refl wn).drew.step hbS_0).step hbS_1).step hbS_2).step hbS_3).out a1, keep_cell (((((Kp.refl wn).drew.step hbS_0).step hbS_1).step hbS_2).step hbS_3).out b0, keep_cell (((((Kp.refl wn).drew.step hbS_0).step hbS_1).step hbS_2).step hbS_3).out b1, keep_cell (((((Kp.refl wn).drew.step hbS_0).step hbS_1).step hbS_2).step hbS_3).out c0, keep_cell (((((Kp.refl wn).drew.step hbS_0).step hbS_1).step hbS_2).step hbS_3).out c1, keep_cell (((((Kp.refl wn).drew.step hbS_0).step hbS_1).step hbS_2).step hbS_3).out d0, keep_cell (((((Kp.refl wn).drew.step hbS_0).step hbS_1).step hbS_2).step hbS_3).out d1, (((((Kp.refl wn).drew.step hbS_0).step hbS_1).step hbS_2).step hbS_3)⟩
    clear hK K hH3
    ((try simp only [Act.put]); (try simp only [List.setIfInBounds_toArray, List.set_cons_zero, List.set_cons_succ]))
    refine wpAnyH_take (i := 20) (oi := { dst := some 29, op := Op.binOp BinOp.eql 4 (Operand.tmp 23) (Operand.tmp 28) 4, type := 4, pos := "law.go:31", after := #[{ on := 14, ground := Ground.data }, { on := 19, ground := Ground.data }, { on := 9, ground := Ground.guard }], guard := some (9, true) }) (v := ?_) rfl (by kernel_rfl) (by kernel_rfl) (by kernel_rfl) (fun _ _ _ h => h) (Or.inl ⟨by rfl, ?_⟩) (by assumption) ?_
    rotate_left
    · (intro w hSw; (try dsimp only at hSw); go_simp; (try with_reducible rfl))
    ((try simp only [Act.put]); (try simp only [List.setIfInBounds_toArray, List.set_cons_zero, List.set_cons_succ]))
    refine wpAnyH_take (i := 21) (oi := { dst := some 30, op := Op.pick (Operand.tmp 18) (Operand.tmp 29) (Operand.const (Value.bool false)), type := 4, pos := "law.go:31", after := #[{ on := 9, ground := Ground.data }, { on := 20, ground := Ground.data }], guard := none }) (v := ?_) rfl (by kernel_rfl) (by kernel_rfl) (by kernel_rfl) (fun _ _ _ h => h) (Or.inl ⟨by rfl, ?_⟩) (by assumption) ?_
    rotate_left
    · (intro w hSw; (try dsimp only at hSw); go_simp; (try with_reducible rfl))
    ((try simp only [Act.put]); (try simp only [List.setIfInBounds_toArray, List.set_cons_zero, List.set_cons_succ]))
    refine wpAnyH_take (i := 22) (oi := { dst := some 31, op := Op.move (Operand.tmp 30), type := 4, pos := "law.go:31", after := #[{ on := 21, ground := Ground.data }, { on := 19, ground := Ground.chain }], guard := none }) (v := ?_) rfl (by kernel_rfl) (by kernel_rfl) (by kernel_rfl) (fun _ _ _ h => h) (Or.inl ⟨by rfl, ?_⟩) (by assumption) ?_
    rotate_left
    · (intro w hSw; (try dsimp only at hSw); go_simp; (try with_reducible rfl))
    ((try simp only [Act.put]); (try simp only [List.setIfInBounds_toArray, List.set_cons_zero, List.set_cons_succ]))
    refine wpAnyH_ready (rs := [23]) (by kernel_rfl) (by simp) ?_
    refine AllReadyH.cons (o := { dst := some 32, op := Op.call { callee := Callee.value (Operand.func 13), args := #[], argTypes := #[] }, type := 4, pos := "law.go:31", after := #[{ on := 22, ground := Ground.chain }, { on := 22, ground := Ground.guard }], guard := some (22, true) }) rfl (fun K hK => ?_) AllReadyH.nil
    go_simp
    (go_at_call 13; ((with_reducible refine (HC4.out _ ?hq).mono ?_); (case hq => exact (((((Kp.refl wn).drew.step hbS_0).step hbS_1).step hbS_2).step hbS_3)); rintro x wS_4 ⟨rfl, hbS_4⟩))
    go_wp2_with fail
    refine hK.out _ _ ?_ (fun hH5 => ?_)
    · with_reducible exact ⟨keep_cell ((((((Kp.refl wn).drew.step hbS_0).step hbS_1).step hbS_2).step hbS_3).step hbS_4).out a0, keep_cell ((((((Kp.refl wn).drew.step hbS_0).step hbS_1).step hbS_2).step hbS_3).step hbS_4).out a1, keep_cell ((((((Kp.refl wn).drew.step hbS_0).step hbS_1).step hbS_2).step hbS_3).step hbS_4).out b0, keep_cell ((((((Kp.refl wn).drew.step hbS_0).step hbS_1).step hbS_2).step hbS_3).step hbS_4).out b1, keep_cell ((((((Kp.refl wn).drew.step hbS_0).step hbS_1).step hbS_2).step hbS_3).step hbS_4).out c0, keep_cell ((((((Kp.refl wn).drew.step hbS_0).step hbS_1).step hbS_2).step hbS_3).step hbS_4).out c1, keep_cell ((((((Kp.refl wn).drew.step hbS_0).step hbS_1).step hbS_2).step hbS_3).step hbS_4).out d0, keep_cell ((((((Kp.refl wn).drew.step hbS_0).step hbS_1).step hbS_2).step hbS_3).step hbS_4).out d1, ((((((Kp.refl wn).drew.step hbS_0).step hbS_1).step hbS_2).step hbS_3).step hbS_4)⟩
    clear hK K hH4
    ((try simp only [Act.put]); (try simp only [List.setIfInBounds_toArray, List.set_cons_zero, List.set_cons_succ]))
    refine wpAnyH_take (i := 24) (oi := { dst := some 33, op := Op.pick (Operand.tmp 31) (Operand.tmp 32) (Operand.const (Value.bool false)), type := 4, pos := "law.go:31", after := #[{ on := 22, ground := Ground.data }, { on := 23, ground := Ground.data }], guard := none }) (v := ?_) rfl (by kernel_rfl) (by kernel_rfl) (by kernel_rfl) (fun _ _ _ h => h) (Or.inl ⟨by rfl, ?_⟩) (by assumption) ?_
    rotate_left
    · (intro w hSw; (try dsimp only at hSw); go_simp; (try with_reducible rfl))
    ((try simp only [Act.put]); (try simp only [List.setIfInBounds_toArray, List.set_cons_zero, List.set_cons_succ]))
    refine wpAnyH_take (i := 25) (oi := { dst := some 8, op := Op.assign (Operand.tmp 33), type := 4, pos := "law.go:31", after := #[{ on := 24, ground := Ground.data }, { on := 23, ground := Ground.chain }, { on := 0, ground := Ground.phase }, { on := 1, ground := Ground.phase }, { on := 2, ground := Ground.phase }, { on := 3, ground := Ground.phase }, { on := 4, ground := Ground.phase }, { on := 5, ground := Ground.phase }, { on := 6, ground := Ground.phase }, { on := 7, ground := Ground.phase }, { on := 8, ground := Ground.phase }, { on := 9, ground := Ground.phase }, { on := 10, ground := Ground.phase }, { on := 11, ground := Ground.phase }, { on := 12, ground := Ground.phase }, { on := 13, ground := Ground.phase }, { on := 14, ground := Ground.phase }, { on := 15, ground := Ground.phase }, { on := 16, ground := Ground.phase }, { on := 17, ground := Ground.phase }, { on := 18, ground := Ground.phase }, { on := 19, ground := Ground.phase }, { on := 20, ground := Ground.phase }, { on := 21, ground := Ground.phase }, { on := 22, ground := Ground.phase }, { on := 23, ground := Ground.phase }, { on := 24, ground := Ground.phase }], guard := none }) (v := ?_) rfl (by kernel_rfl) (by kernel_rfl) (by kernel_rfl) (fun _ _ _ h => h) (Or.inl ⟨by rfl, ?_⟩) (by assumption) ?_
    rotate_left
    · (intro w hSw; (try dsimp only at hSw); go_simp; (try with_reducible rfl))
    ((try simp only [Act.put]); (try simp only [List.setIfInBounds_toArray, List.set_cons_zero, List.set_cons_succ]))
    refine wpAnyH_done (by kernel_rfl) ?_ _
    clear hH5
    go_wp2_with fail
    go_ret
    exact ⟨rfl, bl_pack HW.out HW.out.size ((((((Kp.refl wn).drew.step hbS_0).step hbS_1).step hbS_2).step hbS_3).step hbS_4).out⟩
end Go.Proofs.YtiihokgjplpceaaDoor
