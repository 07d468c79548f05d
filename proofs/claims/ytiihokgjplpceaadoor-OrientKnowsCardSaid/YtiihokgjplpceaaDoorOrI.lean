/- Package orient, walked: Cross. (Printed by gen_OrI.py.) -/
import Derived.Test.YtiihokgjplpceaaDoorOrH
namespace Go.Proofs.YtiihokgjplpceaaDoor
open Go.RowKit TV
set_option linter.unusedVariables false

theorem four_cellsO (w : World) (o0 o1 o2 o3 : Obj) : ∃ wn, wn = (((w.alloc o0).alloc o1).alloc o2).alloc o3 ∧ Below w.heap.size w wn ∧ wn.heap.size = w.heap.size + 4 ∧
    wn.heap[w.heap.size]? = some o0 ∧ wn.heap[w.heap.size + 1]? = some o1 ∧ wn.heap[w.heap.size + 1 + 1]? = some o2 ∧ wn.heap[w.heap.size + 1 + 1 + 1]? = some o3 := by
  have a0 := heap_alloc_new w o0
  have a1 := heap_alloc_new (w.alloc o0) o1
  have a2 := heap_alloc_new ((w.alloc o0).alloc o1) o2
  have a3 := heap_alloc_new (((w.alloc o0).alloc o1).alloc o2) o3
  simp only [World.size_alloc] at a1 a2 a3
  refine ⟨_, rfl, ((((Below.refl w.heap.size w).alloc (Nat.le_refl _) _).alloc (by simp) _).alloc (by simp <;> omega) _).alloc (by simp <;> omega) _, by simp, ?_, ?_, ?_, a3⟩
  · exact (((Below.heap_alloc _ _ _ (by simp <;> omega)).trans (Below.heap_alloc _ _ _ (by simp <;> omega))).trans (Below.heap_alloc _ _ _ (by simp))).trans a0
  · exact ((Below.heap_alloc _ _ _ (by simp <;> omega)).trans (Below.heap_alloc _ _ _ (by simp))).trans a1
  · exact (Below.heap_alloc _ _ _ (by simp)).trans a2
/-- Do two segments cross? -/
def crossB (ax ay bx bY cx cy dx dy : Nat) : Bool := decide (osg ax ay bx bY cx cy * osg ax ay bx bY dx dy < 0) && decide (osg cx cy dx dy ax ay * osg cx cy dx dy bx bY < 0)
theorem sg_prod {a b : Int} (ha : -1 ≤ a ∧ a ≤ 1) (hb : -1 ≤ b ∧ b ≤ 1) : IntKind.i64.wrap (a * b) = a * b := by
  have : a = -1 ∨ a = 0 ∨ a = 1 := by omega
  rcases this with rfl | rfl | rfl
  · exact IntWalk.i64_in _ (by omega)
  · exact IntWalk.i64_in _ (by omega)
  · exact IntWalk.i64_in _ (by omega)
set_option maxRecDepth 100000 in
set_option maxHeartbeats 4000000 in
theorem ocross_calls {w : World} (ht : TabOk w) (ax ay bx bY cx cy dx dy : Nat) (hax : ax < 18446744073709551616) (hay : ay < 18446744073709551616) (hbx : bx < 18446744073709551616) (hby : bY < 18446744073709551616) (hcx : cx < 18446744073709551616) (hcy : cy < 18446744073709551616) (hdx : dx < 18446744073709551616) (hdy : dy < 18446744073709551616) :
    Calls Tryd.prog 17 #[.agg #[.float .f64 ax, .float .f64 ay], .agg #[.float .f64 bx, .float .f64 bY], .agg #[.float .f64 cx, .float .f64 cy], .agg #[.float .f64 dx, .float .f64 dy]] w fun e w' => e = .returned (.bool (crossB ax ay bx bY cx cy dx dy)) ∧ Below w.heap.size w w' := by
  obtain ⟨wn, hwn, HW0, hsz, k0, k1, k2, k3⟩ := four_cellsO w (.cells #[.float .f64 ax, .float .f64 ay] 24) (.cells #[.float .f64 bx, .float .f64 bY] 24) (.cells #[.float .f64 cx, .float .f64 cy] 24) (.cells #[.float .f64 dx, .float .f64 dy] 24)
  have a0 : wn.cell? ⟨w.heap.size, 0, none⟩ = some (.float .f64 ax) := cell_of_block k0 0
  have a1 : wn.cell? ⟨w.heap.size, 1, none⟩ = some (.float .f64 ay) := cell_of_block k0 1
  have b0 : wn.cell? ⟨w.heap.size + 1, 0, none⟩ = some (.float .f64 bx) := cell_of_block k1 0
  have b1 : wn.cell? ⟨w.heap.size + 1, 1, none⟩ = some (.float .f64 bY) := cell_of_block k1 1
  have c0 : wn.cell? ⟨w.heap.size + 1 + 1, 0, none⟩ = some (.float .f64 cx) := cell_of_block k2 0
  have c1 : wn.cell? ⟨w.heap.size + 1 + 1, 1, none⟩ = some (.float .f64 cy) := cell_of_block k2 1
  have d0 : wn.cell? ⟨w.heap.size + 1 + 1 + 1, 0, none⟩ = some (.float .f64 dx) := cell_of_block k3 0
  have d1 : wn.cell? ⟨w.heap.size + 1 + 1 + 1, 1, none⟩ = some (.float .f64 dy) := cell_of_block k3 1
  have HW := Lib.hid HW0
  have HT := Lib.hid (ht.keep HW0)
  have g1 := osg_bound ax ay bx bY cx cy
  have g2 := osg_bound ax ay bx bY dx dy
  have g3 := osg_bound cx cy dx dy ax ay
  have g4 := osg_bound cx cy dx dy bx bY
  have H1 := Lib.hid (fun (W : World) (hT : TabOk W) => osign_calls hT ax ay bx bY cx cy hax hay hbx hby hcx hcy)
  have H2 := Lib.hid (fun (W : World) (hT : TabOk W) => osign_calls hT ax ay bx bY dx dy hax hay hbx hby hdx hdy)
  have H3 := Lib.hid (fun (W : World) (hT : TabOk W) => osign_calls hT cx cy dx dy ax ay hcx hcy hdx hdy hax hay)
  have H4 := Lib.hid (fun (W : World) (hT : TabOk W) => osign_calls hT cx cy dx dy bx bY hcx hcy hdx hdy hbx hby)
  unfold crossB
  obtain ⟨S1, hS1⟩ : ∃ S, S = osg ax ay bx bY cx cy := ⟨_, rfl⟩
  obtain ⟨S2, hS2⟩ : ∃ S, S = osg ax ay bx bY dx dy := ⟨_, rfl⟩
  obtain ⟨S3, hS3⟩ : ∃ S, S = osg cx cy dx dy ax ay := ⟨_, rfl⟩
  obtain ⟨S4, hS4⟩ : ∃ S, S = osg cx cy dx dy bx bY := ⟨_, rfl⟩
  rw [← hS1] at g1 H1
  rw [← hS2] at g2 H2
  rw [← hS3] at g3 H3
  rw [← hS4] at g4 H4
  rw [← hS1, ← hS2, ← hS3, ← hS4]
  have m1 := sg_prod g1 g2
  have m2 := sg_prod g3 g4
  clear hS1 hS2 hS3 hS4 g1 g2 g3 g4 k0 k1 k2 k3 HW0 hsz ht
  obtain ⟨T1, hT1⟩ : ∃ T, decide (S1 * S2 < 0) = T := ⟨_, rfl⟩
  have HT1 := Lib.hid hT1
  cases T1 with
  | false =>
    go_enter Tryd.func17, Tryd.ntmps17
    go_wp2_with fail
    rw [← hwn]
    clear hwn
    have HC0 := Lib.hid (fun (Y : World) (h' : Kp wn Y) => H1.out Y (HT.out.keep h'.out))
    have HC1 := Lib.hid (fun (Y : World) (h' : Kp wn Y) => H2.out Y (HT.out.keep h'.out))
    refine wp_region_held_drew (S := fun w' => w'.cell? ⟨w.heap.size, 0, none⟩ = some (.float .f64 ax) ∧ w'.cell? ⟨w.heap.size, 1, none⟩ = some (.float .f64 ay) ∧ w'.cell? ⟨w.heap.size + 1, 0, none⟩ = some (.float .f64 bx) ∧ w'.cell? ⟨w.heap.size + 1, 1, none⟩ = some (.float .f64 bY) ∧ w'.cell? ⟨w.heap.size + 1 + 1, 0, none⟩ = some (.float .f64 cx) ∧ w'.cell? ⟨w.heap.size + 1 + 1, 1, none⟩ = some (.float .f64 cy) ∧ w'.cell? ⟨w.heap.size + 1 + 1 + 1, 0, none⟩ = some (.float .f64 dx) ∧ w'.cell? ⟨w.heap.size + 1 + 1 + 1, 1, none⟩ = some (.float .f64 dy) ∧ Kp wn w') (by kernel_rfl) ?_ (fun hH0 => ?_)
    · with_reducible exact ⟨keep_cell (Kp.refl wn).drew.out a0, keep_cell (Kp.refl wn).drew.out a1, keep_cell (Kp.refl wn).drew.out b0, keep_cell (Kp.refl wn).drew.out b1, keep_cell (Kp.refl wn).drew.out c0, keep_cell (Kp.refl wn).drew.out c1, keep_cell (Kp.refl wn).drew.out d0, keep_cell (Kp.refl wn).drew.out d1, (Kp.refl wn).drew⟩
    show wpAnyH _ _ _ _ _ _ (#[false, false, false, false, false, false, false, false, false, false, false, false, false, false, false, false, false, false, false, false, false, false, false] : Array Bool) _ _
    refine wpAnyH_take (i := 0) (oi := { dst := some 9, op := Op.load 24 (Operand.tmp 4), type := 24, pos := "orient.go:97", after := #[], guard := none }) (v := ?_) rfl (by kernel_rfl) (by kernel_rfl) (by kernel_rfl) (fun _ _ _ h => h) (Or.inl ⟨by rfl, ?_⟩) (by assumption) ?_
    rotate_left
    · (intro w hSw; (try dsimp only at hSw); go_simp; (try with_reducible rfl))
    ((try simp only [Act.put]); (try simp only [List.setIfInBounds_toArray, List.set_cons_zero, List.set_cons_succ]))
    refine wpAnyH_take (i := 1) (oi := { dst := some 10, op := Op.load 24 (Operand.tmp 5), type := 24, pos := "orient.go:97", after := #[], guard := none }) (v := ?_) rfl (by kernel_rfl) (by kernel_rfl) (by kernel_rfl) (fun _ _ _ h => h) (Or.inl ⟨by rfl, ?_⟩) (by assumption) ?_
    rotate_left
    · (intro w hSw; (try dsimp only at hSw); go_simp; (try with_reducible rfl))
    ((try simp only [Act.put]); (try simp only [List.setIfInBounds_toArray, List.set_cons_zero, List.set_cons_succ]))
    refine wpAnyH_take (i := 2) (oi := { dst := some 11, op := Op.load 24 (Operand.tmp 6), type := 24, pos := "orient.go:97", after := #[], guard := none }) (v := ?_) rfl (by kernel_rfl) (by kernel_rfl) (by kernel_rfl) (fun _ _ _ h => h) (Or.inl ⟨by rfl, ?_⟩) (by assumption) ?_
    rotate_left
    · (intro w hSw; (try dsimp only at hSw); go_simp; (try with_reducible rfl))
    ((try simp only [Act.put]); (try simp only [List.setIfInBounds_toArray, List.set_cons_zero, List.set_cons_succ]))
    refine wpAnyH_take (i := 4) (oi := { dst := some 13, op := Op.load 24 (Operand.tmp 4), type := 24, pos := "orient.go:97", after := #[], guard := none }) (v := ?_) rfl (by kernel_rfl) (by kernel_rfl) (by kernel_rfl) (fun _ _ _ h => h) (Or.inl ⟨by rfl, ?_⟩) (by assumption) ?_
    rotate_left
    · (intro w hSw; (try dsimp only at hSw); go_simp; (try with_reducible rfl))
    ((try simp only [Act.put]); (try simp only [List.setIfInBounds_toArray, List.set_cons_zero, List.set_cons_succ]))
    refine wpAnyH_take (i := 5) (oi := { dst := some 14, op := Op.load 24 (Operand.tmp 5), type := 24, pos := "orient.go:97", after := #[], guard := none }) (v := ?_) rfl (by kernel_rfl) (by kernel_rfl) (by kernel_rfl) (fun _ _ _ h => h) (Or.inl ⟨by rfl, ?_⟩) (by assumption) ?_
    rotate_left
    · (intro w hSw; (try dsimp only at hSw); go_simp; (try with_reducible rfl))
    ((try simp only [Act.put]); (try simp only [List.setIfInBounds_toArray, List.set_cons_zero, List.set_cons_succ]))
    refine wpAnyH_take (i := 6) (oi := { dst := some 15, op := Op.load 24 (Operand.tmp 7), type := 24, pos := "orient.go:97", after := #[], guard := none }) (v := ?_) rfl (by kernel_rfl) (by kernel_rfl) (by kernel_rfl) (fun _ _ _ h => h) (Or.inl ⟨by rfl, ?_⟩) (by assumption) ?_
    rotate_left
    · (intro w hSw; (try dsimp only at hSw); go_simp; (try with_reducible rfl))
    ((try simp only [Act.put]); (try simp only [List.setIfInBounds_toArray, List.set_cons_zero, List.set_cons_succ]))
    refine wpAnyH_ready (rs := [3]) (by kernel_rfl) (by simp) ?_
    refine AllReadyH.cons (o := { dst := some 12, op := Op.call { callee := Callee.value (Operand.func 11), args := #[Operand.tmp 9, Operand.tmp 10, Operand.tmp 11], argTypes := #[24, 24, 24] }, type := 3, pos := "orient.go:97", after := #[{ on := 0, ground := Ground.data }, { on := 1, ground := Ground.data }, { on := 2, ground := Ground.data }], guard := none }) rfl (fun K hK => ?_) AllReadyH.nil
    go_simp
    (go_at_call 11; ((with_reducible refine (HC0.out _ ?hq).mono ?_); (case hq => exact (Kp.refl wn).drew); rintro x wS_0 ⟨rfl, hbS_0⟩))
    go_wp2_with fail
    refine hK.out _ _ ?_ (fun hH1 => ?_)
    · with_reducible exact ⟨keep_cell ((Kp.refl wn).drew.step hbS_0).out a0, keep_cell ((Kp.refl wn).drew.step hbS_0).out a1, keep_cell ((Kp.refl wn).drew.step hbS_0).out b0, keep_cell ((Kp.refl wn).drew.step hbS_0).out b1, keep_cell ((Kp.refl wn).drew.step hbS_0).out c0, keep_cell ((Kp.refl wn).drew.step hbS_0).out c1, keep_cell ((Kp.refl wn).drew.step hbS_0).out d0, keep_cell ((Kp.refl wn).drew.step hbS_0).out d1, ((Kp.refl wn).drew.step hbS_0)⟩
    clear hK K hH0
    ((try simp only [Act.put]); (try simp only [List.setIfInBounds_toArray, List.set_cons_zero, List.set_cons_succ]))
    refine wpAnyH_ready (rs := [7]) (by kernel_rfl) (by simp) ?_
    refine AllReadyH.cons (o := { dst := some 16, op := Op.call { callee := Callee.value (Operand.func 11), args := #[Operand.tmp 13, Operand.tmp 14, Operand.tmp 15], argTypes := #[24, 24, 24] }, type := 3, pos := "orient.go:97", after := #[{ on := 4, ground := Ground.data }, { on := 5, ground := Ground.data }, { on := 6, ground := Ground.data }, { on := 3, ground := Ground.chain }], guard := none }) rfl (fun K hK => ?_) AllReadyH.nil
    go_simp
    (go_at_call 11; ((with_reducible refine (HC1.out _ ?hq).mono ?_); (case hq => exact ((Kp.refl wn).drew.step hbS_0)); rintro x wS_1 ⟨rfl, hbS_1⟩))
    go_wp2_with fail
    refine hK.out _ _ ?_ (fun hH2 => ?_)
    · with_reducible exact ⟨keep_cell (((Kp.refl wn).drew.step hbS_0).step hbS_1).out a0, keep_cell (((Kp.refl wn).drew.step hbS_0).step hbS_1).out a1, keep_cell (((Kp.refl wn).drew.step hbS_0).step hbS_1).out b0, keep_cell (((Kp.refl wn).drew.step hbS_0).step hbS_1).out b1, keep_cell (((Kp.refl wn).drew.step hbS_0).step hbS_1).out c0, keep_cell (((Kp.refl wn).drew.step hbS_0).step hbS_1).out c1, keep_cell (((Kp.refl wn).drew.step hbS_0).step hbS_1).out d0, keep_cell (((Kp.refl wn).drew.step hbS_0).step hbS_1).out d1, (((Kp.refl wn).drew.step hbS_0).step hbS_1)⟩
    clear hK K hH1
    ((try simp only [Act.put]); (try simp only [List.setIfInBounds_toArray, List.set_cons_zero, List.set_cons_succ]))
    refine wpAnyH_take (i := 8) (oi := { dst := some 17, op := Op.binOp BinOp.mul 3 (Operand.tmp 12) (Operand.tmp 16) 3, type := 3, pos := "orient.go:97", after := #[{ on := 3, ground := Ground.data }, { on := 7, ground := Ground.data }], guard := none }) (v := ?_) rfl (by kernel_rfl) (by kernel_rfl) (by kernel_rfl) (fun _ _ _ h => h) (Or.inl ⟨by rfl, ?_⟩) (by assumption) ?_
    rotate_left
    · (intro w hSw; (try dsimp only at hSw); go_simp; (try with_reducible rfl))
    ((try simp only [Act.put]); (try simp only [List.setIfInBounds_toArray, List.set_cons_zero, List.set_cons_succ]))
    refine wpAnyH_take (i := 9) (oi := { dst := some 18, op := Op.binOp BinOp.lss 3 (Operand.tmp 17) (Operand.const (Value.int IntKind.i64 0)) 3, type := 4, pos := "orient.go:97", after := #[{ on := 8, ground := Ground.data }], guard := none }) (v := ?_) rfl (by kernel_rfl) (by kernel_rfl) (by kernel_rfl) (fun _ _ _ h => h) (Or.inl ⟨by rfl, ?_⟩) (by assumption) ?_
    rotate_left
    · (intro w hSw; (try dsimp only at hSw); go_simp; (try with_reducible rfl))
    ((try simp only [Act.put]); (try simp only [List.setIfInBounds_toArray, List.set_cons_zero, List.set_cons_succ]))
    refine wpAnyH_take (i := 10) (oi := { dst := some 19, op := Op.move (Operand.tmp 18), type := 4, pos := "orient.go:97", after := #[{ on := 9, ground := Ground.data }, { on := 7, ground := Ground.chain }], guard := none }) (v := ?_) rfl (by kernel_rfl) (by kernel_rfl) (by kernel_rfl) (fun _ _ _ h => h) (Or.inl ⟨by rfl, ?_⟩) (by assumption) ?_
    rotate_left
    · (intro w hSw; (try dsimp only at hSw); go_simp; (try with_reducible rfl))
    ((try simp only [Act.put]); (try simp only [List.setIfInBounds_toArray, List.set_cons_zero, List.set_cons_succ]))
    refine wpAnyH_take (i := 11) (oi := { dst := some 20, op := Op.load 24 (Operand.tmp 6), type := 24, pos := "orient.go:97", after := #[{ on := 10, ground := Ground.guard }], guard := some (10, true) }) (v := undef) rfl (by kernel_rfl) (by kernel_rfl) (by kernel_rfl) (fun _ _ _ h => h) (Or.inr ⟨by rfl, rfl⟩) (by assumption) ?_
    ((try simp only [Act.put]); (try simp only [List.setIfInBounds_toArray, List.set_cons_zero, List.set_cons_succ]))
    refine wpAnyH_take (i := 12) (oi := { dst := some 21, op := Op.load 24 (Operand.tmp 7), type := 24, pos := "orient.go:97", after := #[{ on := 10, ground := Ground.guard }], guard := some (10, true) }) (v := undef) rfl (by kernel_rfl) (by kernel_rfl) (by kernel_rfl) (fun _ _ _ h => h) (Or.inr ⟨by rfl, rfl⟩) (by assumption) ?_
    ((try simp only [Act.put]); (try simp only [List.setIfInBounds_toArray, List.set_cons_zero, List.set_cons_succ]))
    refine wpAnyH_take (i := 13) (oi := { dst := some 22, op := Op.load 24 (Operand.tmp 4), type := 24, pos := "orient.go:97", after := #[{ on := 10, ground := Ground.guard }], guard := some (10, true) }) (v := undef) rfl (by kernel_rfl) (by kernel_rfl) (by kernel_rfl) (fun _ _ _ h => h) (Or.inr ⟨by rfl, rfl⟩) (by assumption) ?_
    ((try simp only [Act.put]); (try simp only [List.setIfInBounds_toArray, List.set_cons_zero, List.set_cons_succ]))
    refine wpAnyH_take (i := 14) (oi := { dst := some 23, op := Op.call { callee := Callee.value (Operand.func 11), args := #[Operand.tmp 20, Operand.tmp 21, Operand.tmp 22], argTypes := #[24, 24, 24] }, type := 3, pos := "orient.go:97", after := #[{ on := 11, ground := Ground.data }, { on := 12, ground := Ground.data }, { on := 13, ground := Ground.data }, { on := 10, ground := Ground.chain }, { on := 10, ground := Ground.guard }], guard := some (10, true) }) (v := undef) rfl (by kernel_rfl) (by kernel_rfl) (by kernel_rfl) (fun _ _ _ h => h) (Or.inr ⟨by rfl, rfl⟩) (by assumption) ?_
    ((try simp only [Act.put]); (try simp only [List.setIfInBounds_toArray, List.set_cons_zero, List.set_cons_succ]))
    refine wpAnyH_take (i := 15) (oi := { dst := some 24, op := Op.load 24 (Operand.tmp 6), type := 24, pos := "orient.go:97", after := #[{ on := 10, ground := Ground.guard }], guard := some (10, true) }) (v := undef) rfl (by kernel_rfl) (by kernel_rfl) (by kernel_rfl) (fun _ _ _ h => h) (Or.inr ⟨by rfl, rfl⟩) (by assumption) ?_
    ((try simp only [Act.put]); (try simp only [List.setIfInBounds_toArray, List.set_cons_zero, List.set_cons_succ]))
    refine wpAnyH_take (i := 16) (oi := { dst := some 25, op := Op.load 24 (Operand.tmp 7), type := 24, pos := "orient.go:97", after := #[{ on := 10, ground := Ground.guard }], guard := some (10, true) }) (v := undef) rfl (by kernel_rfl) (by kernel_rfl) (by kernel_rfl) (fun _ _ _ h => h) (Or.inr ⟨by rfl, rfl⟩) (by assumption) ?_
    ((try simp only [Act.put]); (try simp only [List.setIfInBounds_toArray, List.set_cons_zero, List.set_cons_succ]))
    refine wpAnyH_take (i := 17) (oi := { dst := some 26, op := Op.load 24 (Operand.tmp 5), type := 24, pos := "orient.go:97", after := #[{ on := 10, ground := Ground.guard }], guard := some (10, true) }) (v := undef) rfl (by kernel_rfl) (by kernel_rfl) (by kernel_rfl) (fun _ _ _ h => h) (Or.inr ⟨by rfl, rfl⟩) (by assumption) ?_
    ((try simp only [Act.put]); (try simp only [List.setIfInBounds_toArray, List.set_cons_zero, List.set_cons_succ]))
    refine wpAnyH_take (i := 18) (oi := { dst := some 27, op := Op.call { callee := Callee.value (Operand.func 11), args := #[Operand.tmp 24, Operand.tmp 25, Operand.tmp 26], argTypes := #[24, 24, 24] }, type := 3, pos := "orient.go:97", after := #[{ on := 15, ground := Ground.data }, { on := 16, ground := Ground.data }, { on := 17, ground := Ground.data }, { on := 14, ground := Ground.chain }, { on := 10, ground := Ground.guard }], guard := some (10, true) }) (v := undef) rfl (by kernel_rfl) (by kernel_rfl) (by kernel_rfl) (fun _ _ _ h => h) (Or.inr ⟨by rfl, rfl⟩) (by assumption) ?_
    ((try simp only [Act.put]); (try simp only [List.setIfInBounds_toArray, List.set_cons_zero, List.set_cons_succ]))
    refine wpAnyH_take (i := 19) (oi := { dst := some 28, op := Op.binOp BinOp.mul 3 (Operand.tmp 23) (Operand.tmp 27) 3, type := 3, pos := "orient.go:97", after := #[{ on := 14, ground := Ground.data }, { on := 18, ground := Ground.data }, { on := 10, ground := Ground.guard }], guard := some (10, true) }) (v := undef) rfl (by kernel_rfl) (by kernel_rfl) (by kernel_rfl) (fun _ _ _ h => h) (Or.inr ⟨by rfl, rfl⟩) (by assumption) ?_
    ((try simp only [Act.put]); (try simp only [List.setIfInBounds_toArray, List.set_cons_zero, List.set_cons_succ]))
    refine wpAnyH_take (i := 20) (oi := { dst := some 29, op := Op.binOp BinOp.lss 3 (Operand.tmp 28) (Operand.const (Value.int IntKind.i64 0)) 3, type := 4, pos := "orient.go:97", after := #[{ on := 19, ground := Ground.data }, { on := 10, ground := Ground.guard }], guard := some (10, true) }) (v := undef) rfl (by kernel_rfl) (by kernel_rfl) (by kernel_rfl) (fun _ _ _ h => h) (Or.inr ⟨by rfl, rfl⟩) (by assumption) ?_
    ((try simp only [Act.put]); (try simp only [List.setIfInBounds_toArray, List.set_cons_zero, List.set_cons_succ]))
    refine wpAnyH_take (i := 21) (oi := { dst := some 30, op := Op.pick (Operand.tmp 19) (Operand.tmp 29) (Operand.const (Value.bool false)), type := 4, pos := "orient.go:97", after := #[{ on := 10, ground := Ground.data }, { on := 20, ground := Ground.data }], guard := none }) (v := ?_) rfl (by kernel_rfl) (by kernel_rfl) (by kernel_rfl) (fun _ _ _ h => h) (Or.inl ⟨by rfl, ?_⟩) (by assumption) ?_
    rotate_left
    · (intro w hSw; (try dsimp only at hSw); go_simp; (try with_reducible rfl))
    ((try simp only [Act.put]); (try simp only [List.setIfInBounds_toArray, List.set_cons_zero, List.set_cons_succ]))
    refine wpAnyH_take (i := 22) (oi := { dst := some 8, op := Op.assign (Operand.tmp 30), type := 4, pos := "orient.go:97", after := #[{ on := 21, ground := Ground.data }, { on := 18, ground := Ground.chain }, { on := 0, ground := Ground.phase }, { on := 1, ground := Ground.phase }, { on := 2, ground := Ground.phase }, { on := 3, ground := Ground.phase }, { on := 4, ground := Ground.phase }, { on := 5, ground := Ground.phase }, { on := 6, ground := Ground.phase }, { on := 7, ground := Ground.phase }, { on := 8, ground := Ground.phase }, { on := 9, ground := Ground.phase }, { on := 10, ground := Ground.phase }, { on := 11, ground := Ground.phase }, { on := 12, ground := Ground.phase }, { on := 13, ground := Ground.phase }, { on := 14, ground := Ground.phase }, { on := 15, ground := Ground.phase }, { on := 16, ground := Ground.phase }, { on := 17, ground := Ground.phase }, { on := 18, ground := Ground.phase }, { on := 19, ground := Ground.phase }, { on := 20, ground := Ground.phase }, { on := 21, ground := Ground.phase }], guard := none }) (v := ?_) rfl (by kernel_rfl) (by kernel_rfl) (by kernel_rfl) (fun _ _ _ h => h) (Or.inl ⟨by rfl, ?_⟩) (by assumption) ?_
    rotate_left
    · (intro w hSw; (try dsimp only at hSw); go_simp; (try with_reducible rfl))
    ((try simp only [Act.put]); (try simp only [List.setIfInBounds_toArray, List.set_cons_zero, List.set_cons_succ]))
    refine wpAnyH_done (by kernel_rfl) ?_ _
    clear hH2
    go_wp2_with fail
    go_ret
    exact ⟨ret_bool (by rw [HT1.out]; rfl), bl_pack HW.out HW.out.size (((Kp.refl wn).drew.step hbS_0).step hbS_1).out⟩
  | true =>
    go_enter Tryd.func17, Tryd.ntmps17
    go_wp2_with fail
    rw [← hwn]
    clear hwn
    have HC0 := Lib.hid (fun (Y : World) (h' : Kp wn Y) => H1.out Y (HT.out.keep h'.out))
    have HC1 := Lib.hid (fun (Y : World) (h' : Kp wn Y) => H2.out Y (HT.out.keep h'.out))
    have HC2 := Lib.hid (fun (Y : World) (h' : Kp wn Y) => H3.out Y (HT.out.keep h'.out))
    have HC3 := Lib.hid (fun (Y : World) (h' : Kp wn Y) => H4.out Y (HT.out.keep h'.out))
    refine wp_region_held_drew (S := fun w' => w'.cell? ⟨w.heap.size, 0, none⟩ = some (.float .f64 ax) ∧ w'.cell? ⟨w.heap.size, 1, none⟩ = some (.float .f64 ay) ∧ w'.cell? ⟨w.heap.size + 1, 0, none⟩ = some (.float .f64 bx) ∧ w'.cell? ⟨w.heap.size + 1, 1, none⟩ = some (.float .f64 bY) ∧ w'.cell? ⟨w.heap.size + 1 + 1, 0, none⟩ = some (.float .f64 cx) ∧ w'.cell? ⟨w.heap.size + 1 + 1, 1, none⟩ = some (.float .f64 cy) ∧ w'.cell? ⟨w.heap.size + 1 + 1 + 1, 0, none⟩ = some (.float .f64 dx) ∧ w'.cell? ⟨w.heap.size + 1 + 1 + 1, 1, none⟩ = some (.float .f64 dy) ∧ Kp wn w') (by kernel_rfl) ?_ (fun hH0 => ?_)
    · with_reducible exact ⟨keep_cell (Kp.refl wn).drew.out a0, keep_cell (Kp.refl wn).drew.out a1, keep_cell (Kp.refl wn).drew.out b0, keep_cell (Kp.refl wn).drew.out b1, keep_cell (Kp.refl wn).drew.out c0, keep_cell (Kp.refl wn).drew.out c1, keep_cell (Kp.refl wn).drew.out d0, keep_cell (Kp.refl wn).drew.out d1, (Kp.refl wn).drew⟩
    show wpAnyH _ _ _ _ _ _ (#[false, false, false, false, false, false, false, false, false, false, false, false, false, false, false, false, false, false, false, false, false, false, false] : Array Bool) _ _
    refine wpAnyH_take (i := 0) (oi := { dst := some 9, op := Op.load 24 (Operand.tmp 4), type := 24, pos := "orient.go:97", after := #[], guard := none }) (v := ?_) rfl (by kernel_rfl) (by kernel_rfl) (by kernel_rfl) (fun _ _ _ h => h) (Or.inl ⟨by rfl, ?_⟩) (by assumption) ?_
    rotate_left
    · (intro w hSw; (try dsimp only at hSw); go_simp; (try with_reducible rfl))
    ((try simp only [Act.put]); (try simp only [List.setIfInBounds_toArray, List.set_cons_zero, List.set_cons_succ]))
    refine wpAnyH_take (i := 1) (oi := { dst := some 10, op := Op.load 24 (Operand.tmp 5), type := 24, pos := "orient.go:97", after := #[], guard := none }) (v := ?_) rfl (by kernel_rfl) (by kernel_rfl) (by kernel_rfl) (fun _ _ _ h => h) (Or.inl ⟨by rfl, ?_⟩) (by assumption) ?_
    rotate_left
    · (intro w hSw; (try dsimp only at hSw); go_simp; (try with_reducible rfl))
    ((try simp only [Act.put]); (try simp only [List.setIfInBounds_toArray, List.set_cons_zero, List.set_cons_succ]))
    refine wpAnyH_take (i := 2) (oi := { dst := some 11, op := Op.load 24 (Operand.tmp 6), type := 24, pos := "orient.go:97", after := #[], guard := none }) (v := ?_) rfl (by kernel_rfl) (by kernel_rfl) (by kernel_rfl) (fun _ _ _ h => h) (Or.inl ⟨by rfl, ?_⟩) (by assumption) ?_
    rotate_left
    · (intro w hSw; (try dsimp only at hSw); go_simp; (try with_reducible rfl))
    ((try simp only [Act.put]); (try simp only [List.setIfInBounds_toArray, List.set_cons_zero, List.set_cons_succ]))
    refine wpAnyH_take (i := 4) (oi := { dst := some 13, op := Op.load 24 (Operand.tmp 4), type := 24, pos := "orient.go:97", after := #[], guard := none }) (v := ?_) rfl (by kernel_rfl) (by kernel_rfl) (by kernel_rfl) (fun _ _ _ h => h) (Or.inl ⟨by rfl, ?_⟩) (by assumption) ?_
    rotate_left
    · (intro w hSw; (try dsimp only at hSw); go_simp; (try with_reducible rfl))
    ((try simp only [Act.put]); (try simp only [List.setIfInBounds_toArray, List.set_cons_zero, List.set_cons_succ]))
    refine wpAnyH_take (i := 5) (oi := { dst := some 14, op := Op.load 24 (Operand.tmp 5), type := 24, pos := "orient.go:97", after := #[], guard := none }) (v := ?_) rfl (by kernel_rfl) (by kernel_rfl) (by kernel_rfl) (fun _ _ _ h => h) (Or.inl ⟨by rfl, ?_⟩) (by assumption) ?_
    rotate_left
    · (intro w hSw; (try dsimp only at hSw); go_simp; (try with_reducible rfl))
    ((try simp only [Act.put]); (try simp only [List.setIfInBounds_toArray, List.set_cons_zero, List.set_cons_succ]))
    refine wpAnyH_take (i := 6) (oi := { dst := some 15, op := Op.load 24 (Operand.tmp 7), type := 24, pos := "orient.go:97", after := #[], guard := none }) (v := ?_) rfl (by kernel_rfl) (by kernel_rfl) (by kernel_rfl) (fun _ _ _ h => h) (Or.inl ⟨by rfl, ?_⟩) (by assumption) ?_
    rotate_left
    · (intro w hSw; (try dsimp only at hSw); go_simp; (try with_reducible rfl))
    ((try simp only [Act.put]); (try simp only [List.setIfInBounds_toArray, List.set_cons_zero, List.set_cons_succ]))
    refine wpAnyH_ready (rs := [3]) (by kernel_rfl) (by simp) ?_
    refine AllReadyH.cons (o := { dst := some 12, op := Op.call { callee := Callee.value (Operand.func 11), args := #[Operand.tmp 9, Operand.tmp 10, Operand.tmp 11], argTypes := #[24, 24, 24] }, type := 3, pos := "orient.go:97", after := #[{ on := 0, ground := Ground.data }, { on := 1, ground := Ground.data }, { on := 2, ground := Ground.data }], guard := none }) rfl (fun K hK => ?_) AllReadyH.nil
    go_simp
    (go_at_call 11; ((with_reducible refine (HC0.out _ ?hq).mono ?_); (case hq => exact (Kp.refl wn).drew); rintro x wS_0 ⟨rfl, hbS_0⟩))
    go_wp2_with fail
    refine hK.out _ _ ?_ (fun hH1 => ?_)
    · with_reducible exact ⟨keep_cell ((Kp.refl wn).drew.step hbS_0).out a0, keep_cell ((Kp.refl wn).drew.step hbS_0).out a1, keep_cell ((Kp.refl wn).drew.step hbS_0).out b0, keep_cell ((Kp.refl wn).drew.step hbS_0).out b1, keep_cell ((Kp.refl wn).drew.step hbS_0).out c0, keep_cell ((Kp.refl wn).drew.step hbS_0).out c1, keep_cell ((Kp.refl wn).drew.step hbS_0).out d0, keep_cell ((Kp.refl wn).drew.step hbS_0).out d1, ((Kp.refl wn).drew.step hbS_0)⟩
    clear hK K hH0
    ((try simp only [Act.put]); (try simp only [List.setIfInBounds_toArray, List.set_cons_zero, List.set_cons_succ]))
    refine wpAnyH_ready (rs := [7]) (by kernel_rfl) (by simp) ?_
    refine AllReadyH.cons (o := { dst := some 16, op := Op.call { callee := Callee.value (Operand.func 11), args := #[Operand.tmp 13, Operand.tmp 14, Operand.tmp 15], argTypes := #[24, 24, 24] }, type := 3, pos := "orient.go:97", after := #[{ on := 4, ground := Ground.data }, { on := 5, ground := Ground.data }, { on := 6, ground := Ground.data }, { on := 3, ground := Ground.chain }], guard := none }) rfl (fun K hK => ?_) AllReadyH.nil
    go_simp
    (go_at_call 11; ((with_reducible refine (HC1.out _ ?hq).mono ?_); (case hq => exact ((Kp.refl wn).drew.step hbS_0)); rintro x wS_1 ⟨rfl, hbS_1⟩))
    go_wp2_with fail
    refine hK.out _ _ ?_ (fun hH2 => ?_)
    · with_reducible exact ⟨keep_cell (((Kp.refl wn).drew.step hbS_0).step hbS_1).out a0, keep_cell (((Kp.refl wn).drew.step hbS_0).step hbS_1).out a1, keep_cell (((Kp.refl wn).drew.step hbS_0).step hbS_1).out b0, keep_cell (((Kp.refl wn).drew.step hbS_0).step hbS_1).out b1, keep_cell (((Kp.refl wn).drew.step hbS_0).step hbS_1).out c0, keep_cell (((Kp.refl wn).drew.step hbS_0).step hbS_1).out c1, keep_cell (((Kp.refl wn).drew.step hbS_0).step hbS_1).out d0, keep_cell (((Kp.refl wn).drew.step hbS_0).step hbS_1).out d1, (((Kp.refl wn).drew.step hbS_0).step hbS_1)⟩
    clear hK K hH1
    ((try simp only [Act.put]); (try simp only [List.setIfInBounds_toArray, List.set_cons_zero, List.set_cons_succ]))
    refine wpAnyH_take (i := 8) (oi := { dst := some 17, op := Op.binOp BinOp.mul 3 (Operand.tmp 12) (Operand.tmp 16) 3, type := 3, pos := "orient.go:97", after := #[{ on := 3, ground := Ground.data }, { on := 7, ground := Ground.data }], guard := none }) (v := ?_) rfl (by kernel_rfl) (by kernel_rfl) (by kernel_rfl) (fun _ _ _ h => h) (Or.inl ⟨by rfl, ?_⟩) (by assumption) ?_
    rotate_left
    · (intro w hSw; (try dsimp only at hSw); go_simp; (try with_reducible rfl))
    ((try simp only [Act.put]); (try simp only [List.setIfInBounds_toArray, List.set_cons_zero, List.set_cons_succ]))
    refine wpAnyH_take (i := 9) (oi := { dst := some 18, op := Op.binOp BinOp.lss 3 (Operand.tmp 17) (Operand.const (Value.int IntKind.i64 0)) 3, type := 4, pos := "orient.go:97", after := #[{ on := 8, ground := Ground.data }], guard := none }) (v := ?_) rfl (by kernel_rfl) (by kernel_rfl) (by kernel_rfl) (fun _ _ _ h => h) (Or.inl ⟨by rfl, ?_⟩) (by assumption) ?_
    rotate_left
    · (intro w hSw; (try dsimp only at hSw); go_simp; (try with_reducible rfl))
    ((try simp only [Act.put]); (try simp only [List.setIfInBounds_toArray, List.set_cons_zero, List.set_cons_succ]))
    refine wpAnyH_take (i := 10) (oi := { dst := some 19, op := Op.move (Operand.tmp 18), type := 4, pos := "orient.go:97", after := #[{ on := 9, ground := Ground.data }, { on := 7, ground := Ground.chain }], guard := none }) (v := ?_) rfl (by kernel_rfl) (by kernel_rfl) (by kernel_rfl) (fun _ _ _ h => h) (Or.inl ⟨by rfl, ?_⟩) (by assumption) ?_
    rotate_left
    · (intro w hSw; (try dsimp only at hSw); go_simp; (try with_reducible rfl))
    ((try simp only [Act.put]); (try simp only [List.setIfInBounds_toArray, List.set_cons_zero, List.set_cons_succ]))
    refine wpAnyH_take (i := 11) (oi := { dst := some 20, op := Op.load 24 (Operand.tmp 6), type := 24, pos := "orient.go:97", after := #[{ on := 10, ground := Ground.guard }], guard := some (10, true) }) (v := ?_) rfl (by kernel_rfl) (by kernel_rfl) (by kernel_rfl) (fun _ _ _ h => h) (Or.inl ⟨by rfl, ?_⟩) (by assumption) ?_
    rotate_left
    · (intro w hSw; (try dsimp only at hSw); go_simp; (try with_reducible rfl))
    ((try simp only [Act.put]); (try simp only [List.setIfInBounds_toArray, List.set_cons_zero, List.set_cons_succ]))
    refine wpAnyH_take (i := 12) (oi := { dst := some 21, op := Op.load 24 (Operand.tmp 7), type := 24, pos := "orient.go:97", after := #[{ on := 10, ground := Ground.guard }], guard := some (10, true) }) (v := ?_) rfl (by kernel_rfl) (by kernel_rfl) (by kernel_rfl) (fun _ _ _ h => h) (Or.inl ⟨by rfl, ?_⟩) (by assumption) ?_
    rotate_left
    · (intro w hSw; (try dsimp only at hSw); go_simp; (try with_reducible rfl))
    ((try simp only [Act.put]); (try simp only [List.setIfInBounds_toArray, List.set_cons_zero, List.set_cons_succ]))
    refine wpAnyH_take (i := 13) (oi := { dst := some 22, op := Op.load 24 (Operand.tmp 4), type := 24, pos := "orient.go:97", after := #[{ on := 10, ground := Ground.guard }], guard := some (10, true) }) (v := ?_) rfl (by kernel_rfl) (by kernel_rfl) (by kernel_rfl) (fun _ _ _ h => h) (Or.inl ⟨by rfl, ?_⟩) (by assumption) ?_
    rotate_left
    · (intro w hSw; (try dsimp only at hSw); go_simp; (try with_reducible rfl))
    ((try simp only [Act.put]); (try simp only [List.setIfInBounds_toArray, List.set_cons_zero, List.set_cons_succ]))
    refine wpAnyH_take (i := 15) (oi := { dst := some 24, op := Op.load 24 (Operand.tmp 6), type := 24, pos := "orient.go:97", after := #[{ on := 10, ground := Ground.guard }], guard := some (10, true) }) (v := ?_) rfl (by kernel_rfl) (by kernel_rfl) (by kernel_rfl) (fun _ _ _ h => h) (Or.inl ⟨by rfl, ?_⟩) (by assumption) ?_
    rotate_left
    · (intro w hSw; (try dsimp only at hSw); go_simp; (try with_reducible rfl))
    ((try simp only [Act.put]); (try simp only [List.setIfInBounds_toArray, List.set_cons_zero, List.set_cons_succ]))
    refine wpAnyH_take (i := 16) (oi := { dst := some 25, op := Op.load 24 (Operand.tmp 7), type := 24, pos := "orient.go:97", after := #[{ on := 10, ground := Ground.guard }], guard := some (10, true) }) (v := ?_) rfl (by kernel_rfl) (by kernel_rfl) (by kernel_rfl) (fun _ _ _ h => h) (Or.inl ⟨by rfl, ?_⟩) (by assumption) ?_
    rotate_left
    · (intro w hSw; (try dsimp only at hSw); go_simp; (try with_reducible rfl))
    ((try simp only [Act.put]); (try simp only [List.setIfInBounds_toArray, List.set_cons_zero, List.set_cons_succ]))
    refine wpAnyH_take (i := 17) (oi := { dst := some 26, op := Op.load 24 (Operand.tmp 5), type := 24, pos := "orient.go:97", after := #[{ on := 10, ground := Ground.guard }], guard := some (10, true) }) (v := ?_) rfl (by kernel_rfl) (by kernel_rfl) (by kernel_rfl) (fun _ _ _ h => h) (Or.inl ⟨by rfl, ?_⟩) (by assumption) ?_
    rotate_left
    · (intro w hSw; (try dsimp only at hSw); go_simp; (try with_reducible rfl))
    ((try simp only [Act.put]); (try simp only [List.setIfInBounds_toArray, List.set_cons_zero, List.set_cons_succ]))
    refine wpAnyH_ready (rs := [14]) (by kernel_rfl) (by simp) ?_
    refine AllReadyH.cons (o := { dst := some 23, op := Op.call { callee := Callee.value (Operand.func 11), args := #[Operand.tmp 20, Operand.tmp 21, Operand.tmp 22], argTypes := #[24, 24, 24] }, type := 3, pos := "orient.go:97", after := #[{ on := 11, ground := Ground.data }, { on := 12, ground := Ground.data }, { on := 13, ground := Ground.data }, { on := 10, ground := Ground.chain }, { on := 10, ground := Ground.guard }], guard := some (10, true) }) rfl (fun K hK => ?_) AllReadyH.nil
    go_simp
    (go_at_call 11; ((with_reducible refine (HC2.out _ ?hq).mono ?_); (case hq => exact (((Kp.refl wn).drew.step hbS_0).step hbS_1)); rintro x wS_2 ⟨rfl, hbS_2⟩))
    go_wp2_with fail
    refine hK.out _ _ ?_ (fun hH3 => ?_)
    · with_reducible exact ⟨keep_cell ((((Kp.refl wn).drew.step hbS_0).step hbS_1).step hbS_2).out a0, keep_cell ((((Kp.refl wn).drew.step hbS_0).step hbS_1).step hbS_2).out a1, keep_cell ((((Kp.refl wn).drew.step hbS_0).step hbS_1).step hbS_2).out b0, keep_cell ((((Kp.refl wn).drew.step hbS_0).step hbS_1).step hbS_2).out b1, keep_cell ((((Kp.refl wn).drew.step hbS_0).step hbS_1).step hbS_2).out c0, keep_cell ((((Kp.refl wn).drew.step hbS_0).step hbS_1).step hbS_2).out c1, keep_cell ((((Kp.refl wn).drew.step hbS_0).step hbS_1).step hbS_2).out d0, keep_cell ((((Kp.refl wn).drew.step hbS_0).step hbS_1).step hbS_2).out d1, ((((Kp.refl wn).drew.step hbS_0).step hbS_1).step hbS_2)⟩
    clear hK K hH2
    ((try simp only [Act.put]); (try simp only [List.setIfInBounds_toArray, List.set_cons_zero, List.set_cons_succ]))
    refine wpAnyH_ready (rs := [18]) (by kernel_rfl) (by simp) ?_
    refine AllReadyH.cons (o := { dst := some 27, op := Op.call { callee := Callee.value (Operand.func 11), args := #[Operand.tmp 24, Operand.tmp 25, Operand.tmp 26], argTypes := #[24, 24, 24] }, type := 3, pos := "orient.go:97", after := #[{ on := 15, ground := Ground.data }, { on := 16, ground := Ground.data }, { on := 17, ground := Ground.data }, { on := 14, ground := Ground.chain }, { on := 10, ground := Ground.guard }], guard := some (10, true) }) rfl (fun K hK => ?_) AllReadyH.nil
    go_simp
    (go_at_call 11; ((with_reducible refine (HC3.out _ ?hq).mono ?_); (case hq => exact ((((Kp.refl wn).drew.step hbS_0).step hbS_1).step hbS_2)); rintro x wS_3 ⟨rfl, hbS_3⟩))
    go_wp2_with fail
    refine hK.out _ _ ?_ (fun hH4 => ?_)
    · with_reducible exact ⟨keep_cell (((((Kp.refl wn).drew.step hbS_0).step hbS_1).step hbS_2).step hbS_3).out a0, keep_cell (((((Kp.refl wn).drew.step hbS_0).step hbS_1).step hbS_2).step hbS_3).out a1, keep_cell (((((Kp.refl wn).drew.step hbS_0).step hbS_1).step hbS_2).step hbS_3).out b0, keep_cell (((((Kp.refl wn).drew.step hbS_0).step hbS_1).step hbS_2).step hbS_3).out b1, keep_cell (((((Kp.refl wn).drew.step hbS_0).step hbS_1).step hbS_2).step hbS_3).out c0, keep_cell (((((Kp.refl wn).drew.step hbS_0).step hbS_1).step hbS_2).step hbS_3).out c1, keep_cell (((((Kp.refl wn).drew.step hbS_0).step hbS_1).step hbS_2).step hbS_3).out d0, keep_cell (((((Kp.refl wn).drew.step hbS_0).step hbS_1).step hbS_2).step hbS_3).out d1, (((((Kp.refl wn).drew.step hbS_0).step hbS_1).step hbS_2).step hbS_3)⟩
    clear hK K hH3
    ((try simp only [Act.put]); (try simp only [List.setIfInBounds_toArray, List.set_cons_zero, List.set_cons_succ]))
    refine wpAnyH_take (i := 19) (oi := { dst := some 28, op := Op.binOp BinOp.mul 3 (Operand.tmp 23) (Operand.tmp 27) 3, type := 3, pos := "orient.go:97", after := #[{ on := 14, ground := Ground.data }, { on := 18, ground := Ground.data }, { on := 10, ground := Ground.guard }], guard := some (10, true) }) (v := ?_) rfl (by kernel_rfl) (by kernel_rfl) (by kernel_rfl) (fun _ _ _ h => h) (Or.inl ⟨by rfl, ?_⟩) (by assumption) ?_
    rotate_left
    · (intro w hSw; (try dsimp only at hSw); go_simp; (try with_reducible rfl))
    ((try simp only [Act.put]); (try simp only [List.setIfInBounds_toArray, List.set_cons_zero, List.set_cons_succ]))
    refine wpAnyH_take (i := 20) (oi := { dst := some 29, op := Op.binOp BinOp.lss 3 (Operand.tmp 28) (Operand.const (Value.int IntKind.i64 0)) 3, type := 4, pos := "orient.go:97", after := #[{ on := 19, ground := Ground.data }, { on := 10, ground := Ground.guard }], guard := some (10, true) }) (v := ?_) rfl (by kernel_rfl) (by kernel_rfl) (by kernel_rfl) (fun _ _ _ h => h) (Or.inl ⟨by rfl, ?_⟩) (by assumption) ?_
    rotate_left
    · (intro w hSw; (try dsimp only at hSw); go_simp; (try with_reducible rfl))
    ((try simp only [Act.put]); (try simp only [List.setIfInBounds_toArray, List.set_cons_zero, List.set_cons_succ]))
    refine wpAnyH_take (i := 21) (oi := { dst := some 30, op := Op.pick (Operand.tmp 19) (Operand.tmp 29) (Operand.const (Value.bool false)), type := 4, pos := "orient.go:97", after := #[{ on := 10, ground := Ground.data }, { on := 20, ground := Ground.data }], guard := none }) (v := ?_) rfl (by kernel_rfl) (by kernel_rfl) (by kernel_rfl) (fun _ _ _ h => h) (Or.inl ⟨by rfl, ?_⟩) (by assumption) ?_
    rotate_left
    · (intro w hSw; (try dsimp only at hSw); go_simp; (try with_reducible rfl))
    ((try simp only [Act.put]); (try simp only [List.setIfInBounds_toArray, List.set_cons_zero, List.set_cons_succ]))
    refine wpAnyH_take (i := 22) (oi := { dst := some 8, op := Op.assign (Operand.tmp 30), type := 4, pos := "orient.go:97", after := #[{ on := 21, ground := Ground.data }, { on := 18, ground := Ground.chain }, { on := 0, ground := Ground.phase }, { on := 1, ground := Ground.phase }, { on := 2, ground := Ground.phase }, { on := 3, ground := Ground.phase }, { on := 4, ground := Ground.phase }, { on := 5, ground := Ground.phase }, { on := 6, ground := Ground.phase }, { on := 7, ground := Ground.phase }, { on := 8, ground := Ground.phase }, { on := 9, ground := Ground.phase }, { on := 10, ground := Ground.phase }, { on := 11, ground := Ground.phase }, { on := 12, ground := Ground.phase }, { on := 13, ground := Ground.phase }, { on := 14, ground := Ground.phase }, { on := 15, ground := Ground.phase }, { on := 16, ground := Ground.phase }, { on := 17, ground := Ground.phase }, { on := 18, ground := Ground.phase }, { on := 19, ground := Ground.phase }, { on := 20, ground := Ground.phase }, { on := 21, ground := Ground.phase }], guard := none }) (v := ?_) rfl (by kernel_rfl) (by kernel_rfl) (by kernel_rfl) (fun _ _ _ h => h) (Or.inl ⟨by rfl, ?_⟩) (by assumption) ?_
    rotate_left
    · (intro w hSw; (try dsimp only at hSw); go_simp; (try with_reducible rfl))
    ((try simp only [Act.put]); (try simp only [List.setIfInBounds_toArray, List.set_cons_zero, List.set_cons_succ]))
    refine wpAnyH_done (by kernel_rfl) ?_ _
    clear hH4
    go_wp2_with fail
    go_ret
    exact ⟨ret_bool (by rw [HT1.out]; simp), bl_pack HW.out HW.out.size (((((Kp.refl wn).drew.step hbS_0).step hbS_1).step hbS_2).step hbS_3).out⟩
end Go.Proofs.YtiihokgjplpceaaDoor
