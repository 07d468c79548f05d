/- WholeOrder walked. (Printed by gen_WiF.py.) -/
import Derived.Test.YtiiipgbfhcbjdaaDoorWiD
namespace Go.Proofs.YtiiipgbfhcbjdaaDoor
open Go.RowKit TV
set_option linter.unusedVariables false

theorem rs_ge {a b : Rat} (h : b ≤ a) : 0 ≤ rs (a - b) := by
  rcases Rat.le_iff_lt_or_eq.1 h with h | h
  · rw [rs_pos (by grind)]; decide
  · rw [rs_eq.2 h.symm]; decide
theorem high_abs {q : Rat} {h : Int} (hh : HighOf q h) : (0 < q → (2 : Rat) ^ h ≤ q ∧ q < (2 : Rat) ^ (h + 1)) ∧ (q < 0 → (2 : Rat) ^ h ≤ -q ∧ -q < (2 : Rat) ^ (h + 1)) := by
  have hp := two_zpow_pos h
  rcases hh with ⟨h1, h2⟩ | ⟨h1, h2⟩
  · exact ⟨fun _ => ⟨h1, h2⟩, fun h => by exfalso; grind⟩
  · exact ⟨fun h => by exfalso; grind, fun _ => ⟨h1, h2⟩⟩
theorem put4_block {w : World} {b : Nat} {T : TypeId} {c0 c1 c2 c3 : Value} (h : w.heap[b]? = some (.cells #[c0, c1, c2, c3] T (0, 0))) (u0 u1 u2 u3 : Value) :
    ((((w.setCell ⟨b, 0, none⟩ u0).setCell ⟨b, 1, none⟩ u1).setCell ⟨b, 2, none⟩ u2).setCell ⟨b, 3, none⟩ u3).heap[b]? = some (.cells #[u0, u1, u2, u3] T (0, 0)) := by
  have hF := setCell_block (setCell_block (setCell_block (setCell_block h 0 u0) 1 u1) 2 u2) 3 u3
  simpa using hF
theorem rs_nle {a b : Rat} (h : 0 ≤ rs (a - b)) : b ≤ a := Rat.not_lt.1 (fun h2 => by have := rs_lt.2 h2; omega)

set_option maxRecDepth 100000 in
set_option maxHeartbeats 4000000 in
theorem order_walk {w : World} (x0 x1 x2 x3 x4 x5 x6 x7 x8 : Nat) (h0 : x0 < 18446744073709551616) (h1 : x1 < 18446744073709551616) (h2 : x2 < 18446744073709551616) (h3 : x3 < 18446744073709551616) (h4 : x4 < 18446744073709551616) (h5 : x5 < 18446744073709551616) (h6 : x6 < 18446744073709551616) (h7 : x7 < 18446744073709551616) (h8 : x8 < 18446744073709551616) (ht : TabOk w) :
    Calls Tryd.prog 4 #[.agg #[.float .f64 x0, .float .f64 x1, .float .f64 x2, .float .f64 x3, .float .f64 x4, .float .f64 x5, .float .f64 x6, .float .f64 x7, .float .f64 x8]] w fun x w' => x = .returned (.bool true) ∧ Below w.heap.size w w' := by
  go_enter Tryd.func4, Tryd.ntmps4
  obtain ⟨wn, hwn, B0, hsz, k0⟩ := box_res w (.cells #[.float .f64 x0, .float .f64 x1, .float .f64 x2, .float .f64 x3, .float .f64 x4, .float .f64 x5, .float .f64 x6, .float .f64 x7, .float .f64 x8] 23)
  have HT := Lib.hid (show Tb 0 wn from ⟨ht.keep B0, Nat.zero_le _⟩)
  have HW := Lib.hid B0
  have KF := Lib.hid k0
  clear B0 hsz k0 ht
  go_upto_region 1 with (fail)
  rw [← hwn]
  clear hwn
  go_wp2_with fail
  refine (works_calls HT.out).mono ?_
  rintro _ w1 ⟨rfl, b1⟩
  have HT := Lib.hid (HT.out.keep b1)
  have HW := Lib.hid (bl_pack HW.out HW.out.size b1)
  have KF := Lib.hid (keep_block b1 KF.out)
  clear b1
  have y0 : w1.cell? ⟨w.heap.size, 0, none⟩ = some (.float .f64 x0) := cell_of_block KF.out 0
  have y1 : w1.cell? ⟨w.heap.size, 1, none⟩ = some (.float .f64 x1) := cell_of_block KF.out 1
  have y2 : w1.cell? ⟨w.heap.size, 2, none⟩ = some (.float .f64 x2) := cell_of_block KF.out 2
  go_wp2_with fail
  refine (of_calls x0 x1 x2 h0 h1 h2 HT.out).mono ?_
  rintro _ w2 ⟨va, rfl, Ma, b2⟩
  have HT := Lib.hid (HT.out.keep b2)
  have HW := Lib.hid (bl_pack HW.out HW.out.size b2)
  have KF := Lib.hid (keep_block b2 KF.out)
  have Na := Lib.hid Ma
  clear b2 Ma
  obtain ⟨pa, na, ca, ea, ga, rfl⟩ := Na.out.form
  obtain ⟨Wa, hWa, Ba, -, Ja⟩ := box_res w2 (.cells #[.slice pa na ca, .int .i64 ea, .bool ga, .bool false] 29)
  go_upto_region 4 with (fail)
  rw [← hWa]
  clear hWa
  have HT := Lib.hid (HT.out.keep Ba)
  have HW := Lib.hid (bl_pack HW.out HW.out.size Ba)
  have Na := Lib.hid (Na.out.keep Ba)
  have KF := Lib.hid (keep_block Ba KF.out)
  have Ka := Lib.hid Ja
  clear Ba Ja
  clear y0 y1 y2
  have y3 : Wa.cell? ⟨w.heap.size, 3, none⟩ = some (.float .f64 x3) := cell_of_block KF.out 3
  have y4 : Wa.cell? ⟨w.heap.size, 4, none⟩ = some (.float .f64 x4) := cell_of_block KF.out 4
  have y5 : Wa.cell? ⟨w.heap.size, 5, none⟩ = some (.float .f64 x5) := cell_of_block KF.out 5
  go_wp2_with fail
  refine (of_calls x3 x4 x5 h3 h4 h5 HT.out).mono ?_
  rintro _ w3 ⟨vb, rfl, Mb, b3⟩
  have HT := Lib.hid (HT.out.keep b3)
  have HW := Lib.hid (bl_pack HW.out HW.out.size b3)
  have Na := Lib.hid (Na.out.keep b3)
  have KF := Lib.hid (keep_block b3 KF.out)
  have Ka := Lib.hid (keep_block b3 Ka.out)
  have Nb := Lib.hid Mb
  clear b3 Mb
  obtain ⟨pb, nb, cb, eb, gb, rfl⟩ := Nb.out.form
  obtain ⟨Wb, hWb, Bb, -, Jb⟩ := box_res w3 (.cells #[.slice pb nb cb, .int .i64 eb, .bool gb, .bool false] 29)
  go_upto_region 5 with (fail)
  rw [← hWb]
  clear hWb
  have HT := Lib.hid (HT.out.keep Bb)
  have HW := Lib.hid (bl_pack HW.out HW.out.size Bb)
  have Na := Lib.hid (Na.out.keep Bb)
  have Nb := Lib.hid (Nb.out.keep Bb)
  have KF := Lib.hid (keep_block Bb KF.out)
  have Ka := Lib.hid (keep_block Bb Ka.out)
  have Kb := Lib.hid Jb
  clear Bb Jb
  clear y3 y4 y5
  have y6 : Wb.cell? ⟨w.heap.size, 6, none⟩ = some (.float .f64 x6) := cell_of_block KF.out 6
  have y7 : Wb.cell? ⟨w.heap.size, 7, none⟩ = some (.float .f64 x7) := cell_of_block KF.out 7
  have y8 : Wb.cell? ⟨w.heap.size, 8, none⟩ = some (.float .f64 x8) := cell_of_block KF.out 8
  go_wp2_with fail
  refine (of_calls x6 x7 x8 h6 h7 h8 HT.out).mono ?_
  rintro _ w4 ⟨vc, rfl, Mc, b4⟩
  have HT := Lib.hid (HT.out.keep b4)
  have HW := Lib.hid (bl_pack HW.out HW.out.size b4)
  have Na := Lib.hid (Na.out.keep b4)
  have Nb := Lib.hid (Nb.out.keep b4)
  have KF := Lib.hid (keep_block b4 KF.out)
  have Ka := Lib.hid (keep_block b4 Ka.out)
  have Kb := Lib.hid (keep_block b4 Kb.out)
  have Nc := Lib.hid Mc
  clear b4 Mc
  obtain ⟨pc, nc, cc, ec, gc, rfl⟩ := Nc.out.form
  obtain ⟨Wc, hWc, Bc, -, Jc⟩ := box_res w4 (.cells #[.slice pc nc cc, .int .i64 ec, .bool gc, .bool false] 29)
  go_upto_region 6 with (fail)
  rw [← hWc]
  clear hWc
  have HT := Lib.hid (HT.out.keep Bc)
  have HW := Lib.hid (bl_pack HW.out HW.out.size Bc)
  have Na := Lib.hid (Na.out.keep Bc)
  have Nb := Lib.hid (Nb.out.keep Bc)
  have Nc := Lib.hid (Nc.out.keep Bc)
  have KF := Lib.hid (keep_block Bc KF.out)
  have Ka := Lib.hid (keep_block Bc Ka.out)
  have Kb := Lib.hid (keep_block Bc Kb.out)
  have Kc := Lib.hid Jc
  clear Bc Jc
  clear y6 y7 y8
  obtain ⟨qa0, qa1, qa2, qa3, -, -, -, -⟩ := res4_facts Ka.out
  obtain ⟨qb0, qb1, qb2, qb3, -, -, -, -⟩ := res4_facts Kb.out
  obtain ⟨qc0, qc1, qc2, qc3, -, -, -, -⟩ := res4_facts Kc.out
  clear KF h0 h1 h2 h3 h4 h5 h6 h7 h8
  obtain ⟨ra, hra⟩ : ∃ r, r = ofQ x0 x1 x2 := ⟨_, rfl⟩
  rw [← hra] at Na
  clear hra
  obtain ⟨rb, hrb⟩ : ∃ r, r = ofQ x3 x4 x5 := ⟨_, rfl⟩
  rw [← hrb] at Nb
  clear hrb
  obtain ⟨rc, hrc⟩ : ∃ r, r = ofQ x6 x7 x8 := ⟨_, rfl⟩
  rw [← hrc] at Nc
  clear hrc
  obtain ⟨s, hs⟩ : ∃ s, rs (ra - rb) = s := ⟨_, rfl⟩
  obtain ⟨t, ht⟩ : ∃ s, rs (rb - rc) = s := ⟨_, rfl⟩
  obtain ⟨r, hr⟩ : ∃ s, rs (ra - rc) = s := ⟨_, rfl⟩
  have HS := Lib.hid hs
  have HS2 := Lib.hid ht
  have HS3 := Lib.hid hr
  have hsA : rs (ra + rc - (rb + rc)) = s := by rw [← hs]; congr 1; grind
  have HSA := Lib.hid hsA
  have f3 : 0 ≤ s → 0 ≤ t → decide (r < 0) = false := fun h1 h2 => decide_eq_false (by rw [← hr]; rw [← hs] at h1; rw [← ht] at h2; intro h; rw [rs_lt] at h; have := rs_nle h1; have := rs_nle h2; grind)
  have f4 : 0 < s → rb ≤ ra := fun h => by rw [← hs, rs_gt] at h; exact Rat.le_of_lt h
  clear hs ht hr hsA
  go_cut [73] (fun x wx => x = .bool false ∧ Kp Wc wx)
  case first =>
    have hs3 : s = -1 ∨ s = 0 ∨ s = 1 := by rw [← HS.out]; unfold rs; split; exact Or.inl rfl; split; exact Or.inr (Or.inl rfl); exact Or.inr (Or.inr rfl)
    rcases hs3 with rfl | rfl | rfl
    · clear f3 f4
      skip
      have HC0 := Lib.hid (fun (Y : World) (h : Kp Wc Y) => cmpBn _ (Na.out.keep h.out) (Nb.out.keep h.out) (HT.out.keep h.out) (by decide) (by decide) HS.out)
      have HC1 := Lib.hid (fun (Y : World) (h : Kp Wc Y) => addB 2150 (Na.out.keep h.out) (Nc.out.keep h.out) (HT.out.keep h.out) (by decide) (by decide) (by decide))
      have HC2 := Lib.hid (fun (Y : World) (h : Kp Wc Y) => addB 2150 (Nb.out.keep h.out) (Nc.out.keep h.out) (HT.out.keep h.out) (by decide) (by decide) (by decide))
      have HC3 := Lib.hid (fun (Y : World) (h : Kp Wc Y) (v : Value) (hv : NumB 0 Y v (ra + rc) 2150) (v2 : Value) (hv2 : NumB 0 Y v2 (rb + rc) 2150) => cmpBn _ hv hv2 (HT.out.keep h.out) (by decide) (by decide) HSA.out)
      have HC4 := Lib.hid (fun (Y : World) (h : Kp Wc Y) => cmpBn _ (Na.out.keep h.out) (Nb.out.keep h.out) (HT.out.keep h.out) (by decide) (by decide) HS.out)
      have HC5 := Lib.hid (fun (Y : World) (h : Kp Wc Y) => cmpBn _ (Na.out.keep h.out) (Nb.out.keep h.out) (HT.out.keep h.out) (by decide) (by decide) HS.out)
      refine wp_region_held_drew (S := fun w' => w'.cell? ⟨w2.heap.size, 0, none⟩ = some (.slice pa na ca) ∧ w'.cell? ⟨w2.heap.size, 1, none⟩ = some (.int .i64 ea) ∧ w'.cell? ⟨w2.heap.size, 2, none⟩ = some (.bool ga) ∧ w'.cell? ⟨w2.heap.size, 3, none⟩ = some (.bool false) ∧ w'.cell? ⟨w3.heap.size, 0, none⟩ = some (.slice pb nb cb) ∧ w'.cell? ⟨w3.heap.size, 1, none⟩ = some (.int .i64 eb) ∧ w'.cell? ⟨w3.heap.size, 2, none⟩ = some (.bool gb) ∧ w'.cell? ⟨w3.heap.size, 3, none⟩ = some (.bool false) ∧ w'.cell? ⟨w4.heap.size, 0, none⟩ = some (.slice pc nc cc) ∧ w'.cell? ⟨w4.heap.size, 1, none⟩ = some (.int .i64 ec) ∧ w'.cell? ⟨w4.heap.size, 2, none⟩ = some (.bool gc) ∧ w'.cell? ⟨w4.heap.size, 3, none⟩ = some (.bool false) ∧ Kp Wc w') (by kernel_rfl) ?_ (fun hH0 => ?_)
      · with_reducible exact sv3 (Kp.refl Wc).drew qa0 qa1 qa2 qa3 qb0 qb1 qb2 qb3 qc0 qc1 qc2 qc3
      refine wpAnyH_take (i := 0) (oi := { dst := some 32, op := Op.load 29 (Operand.tmp 3), type := 29, pos := "outright.go:76", after := #[], guard := none }) (v := ?_) rfl (by kernel_rfl) (by kernel_rfl) (by kernel_rfl) (fun _ _ _ h => h) (Or.inl ⟨by rfl, ?_⟩) (by assumption) ?_
      rotate_left
      · (intro w hSw; (try dsimp only at hSw); go_simp; (try with_reducible rfl))
      (try simp only [Act.put, List.setIfInBounds_toArray, List.set_cons_zero, List.set_cons_succ])
      refine wpAnyH_take (i := 1) (oi := { dst := some 33, op := Op.load 29 (Operand.tmp 4), type := 29, pos := "outright.go:76", after := #[], guard := none }) (v := ?_) rfl (by kernel_rfl) (by kernel_rfl) (by kernel_rfl) (fun _ _ _ h => h) (Or.inl ⟨by rfl, ?_⟩) (by assumption) ?_
      rotate_left
      · (intro w hSw; (try dsimp only at hSw); go_simp; (try with_reducible rfl))
      (try simp only [Act.put, List.setIfInBounds_toArray, List.set_cons_zero, List.set_cons_succ])
      refine wpAnyH_ready (rs := [2]) (by kernel_rfl) (by simp) ?_
      refine AllReadyH.cons (o := { dst := some 34, op := Op.call { callee := Callee.value (Operand.func 11), args := #[Operand.tmp 32, Operand.tmp 33], argTypes := #[29, 29] }, type := 3, pos := "outright.go:76", after := #[{ on := 0, ground := Ground.data }, { on := 1, ground := Ground.data }], guard := none }) rfl (fun K hK => ?_) AllReadyH.nil
      go_simp
      (go_at_call 11; ((with_reducible refine (HC0.out _ ?hq).mono ?_); (case hq => exact (Kp.refl Wc).drew); rintro x wR_0 ⟨rfl, hbR_0⟩))
      go_wp2_with fail
      refine hK.out _ _ ?_ (fun hH1 => ?_)
      · with_reducible exact sv3 ((Kp.refl Wc).drew.step hbR_0) qa0 qa1 qa2 qa3 qb0 qb1 qb2 qb3 qc0 qc1 qc2 qc3
      clear hK K hH0
      (try simp only [Act.put, List.setIfInBounds_toArray, List.set_cons_zero, List.set_cons_succ])
      refine wpAnyH_take (i := 3) (oi := { dst := some 35, op := Op.binOp BinOp.geq 3 (Operand.tmp 34) (Operand.const (Value.int IntKind.i64 0)) 3, type := 4, pos := "outright.go:76", after := #[{ on := 2, ground := Ground.data }], guard := none }) (v := ?_) rfl (by kernel_rfl) (by kernel_rfl) (by kernel_rfl) (fun _ _ _ h => h) (Or.inl ⟨by rfl, ?_⟩) (by assumption) ?_
      rotate_left
      · (intro w hSw; (try dsimp only at hSw); go_simp; (try with_reducible rfl))
      (try simp only [Act.put, List.setIfInBounds_toArray, List.set_cons_zero, List.set_cons_succ])
      refine wpAnyH_take (i := 4) (oi := { dst := some 36, op := Op.move (Operand.tmp 35), type := 4, pos := "outright.go:76", after := #[{ on := 3, ground := Ground.data }, { on := 2, ground := Ground.chain }], guard := none }) (v := ?_) rfl (by kernel_rfl) (by kernel_rfl) (by kernel_rfl) (fun _ _ _ h => h) (Or.inl ⟨by rfl, ?_⟩) (by assumption) ?_
      rotate_left
      · (intro w hSw; (try dsimp only at hSw); go_simp; (try with_reducible rfl))
      (try simp only [Act.put, List.setIfInBounds_toArray, List.set_cons_zero, List.set_cons_succ])
      refine wpAnyH_take (i := 5) (oi := { dst := some 37, op := Op.load 29 (Operand.tmp 4), type := 29, pos := "outright.go:76", after := #[{ on := 4, ground := Ground.guard }], guard := some (4, true) }) (v := undef) rfl (by kernel_rfl) (by kernel_rfl) (by kernel_rfl) (fun _ _ _ h => h) (Or.inr ⟨by rfl, rfl⟩) (by assumption) ?_
      (try simp only [Act.put, List.setIfInBounds_toArray, List.set_cons_zero, List.set_cons_succ])
      refine wpAnyH_take (i := 6) (oi := { dst := some 38, op := Op.load 29 (Operand.tmp 5), type := 29, pos := "outright.go:76", after := #[{ on := 4, ground := Ground.guard }], guard := some (4, true) }) (v := undef) rfl (by kernel_rfl) (by kernel_rfl) (by kernel_rfl) (fun _ _ _ h => h) (Or.inr ⟨by rfl, rfl⟩) (by assumption) ?_
      (try simp only [Act.put, List.setIfInBounds_toArray, List.set_cons_zero, List.set_cons_succ])
      refine wpAnyH_take (i := 7) (oi := { dst := some 39, op := Op.call { callee := Callee.value (Operand.func 11), args := #[Operand.tmp 37, Operand.tmp 38], argTypes := #[29, 29] }, type := 3, pos := "outright.go:76", after := #[{ on := 5, ground := Ground.data }, { on := 6, ground := Ground.data }, { on := 4, ground := Ground.chain }, { on := 4, ground := Ground.guard }], guard := some (4, true) }) (v := undef) rfl (by kernel_rfl) (by kernel_rfl) (by kernel_rfl) (fun _ _ _ h => h) (Or.inr ⟨by rfl, rfl⟩) (by assumption) ?_
      (try simp only [Act.put, List.setIfInBounds_toArray, List.set_cons_zero, List.set_cons_succ])
      refine wpAnyH_take (i := 8) (oi := { dst := some 40, op := Op.binOp BinOp.geq 3 (Operand.tmp 39) (Operand.const (Value.int IntKind.i64 0)) 3, type := 4, pos := "outright.go:76", after := #[{ on := 7, ground := Ground.data }, { on := 4, ground := Ground.guard }], guard := some (4, true) }) (v := undef) rfl (by kernel_rfl) (by kernel_rfl) (by kernel_rfl) (fun _ _ _ h => h) (Or.inr ⟨by rfl, rfl⟩) (by assumption) ?_
      (try simp only [Act.put, List.setIfInBounds_toArray, List.set_cons_zero, List.set_cons_succ])
      refine wpAnyH_take (i := 9) (oi := { dst := some 41, op := Op.pick (Operand.tmp 36) (Operand.tmp 40) (Operand.const (Value.bool false)), type := 4, pos := "outright.go:76", after := #[{ on := 4, ground := Ground.data }, { on := 8, ground := Ground.data }], guard := none }) (v := ?_) rfl (by kernel_rfl) (by kernel_rfl) (by kernel_rfl) (fun _ _ _ h => h) (Or.inl ⟨by rfl, ?_⟩) (by assumption) ?_
      rotate_left
      · (intro w hSw; (try dsimp only at hSw); go_simp; (try with_reducible rfl))
      (try simp only [Act.put, List.setIfInBounds_toArray, List.set_cons_zero, List.set_cons_succ])
      refine wpAnyH_take (i := 10) (oi := { dst := some 42, op := Op.move (Operand.tmp 41), type := 4, pos := "outright.go:76", after := #[{ on := 9, ground := Ground.data }, { on := 7, ground := Ground.chain }], guard := none }) (v := ?_) rfl (by kernel_rfl) (by kernel_rfl) (by kernel_rfl) (fun _ _ _ h => h) (Or.inl ⟨by rfl, ?_⟩) (by assumption) ?_
      rotate_left
      · (intro w hSw; (try dsimp only at hSw); go_simp; (try with_reducible rfl))
      (try simp only [Act.put, List.setIfInBounds_toArray, List.set_cons_zero, List.set_cons_succ])
      refine wpAnyH_take (i := 11) (oi := { dst := some 43, op := Op.load 29 (Operand.tmp 3), type := 29, pos := "outright.go:76", after := #[{ on := 10, ground := Ground.guard }], guard := some (10, true) }) (v := undef) rfl (by kernel_rfl) (by kernel_rfl) (by kernel_rfl) (fun _ _ _ h => h) (Or.inr ⟨by rfl, rfl⟩) (by assumption) ?_
      (try simp only [Act.put, List.setIfInBounds_toArray, List.set_cons_zero, List.set_cons_succ])
      refine wpAnyH_take (i := 12) (oi := { dst := some 44, op := Op.load 29 (Operand.tmp 5), type := 29, pos := "outright.go:76", after := #[{ on := 10, ground := Ground.guard }], guard := some (10, true) }) (v := undef) rfl (by kernel_rfl) (by kernel_rfl) (by kernel_rfl) (fun _ _ _ h => h) (Or.inr ⟨by rfl, rfl⟩) (by assumption) ?_
      (try simp only [Act.put, List.setIfInBounds_toArray, List.set_cons_zero, List.set_cons_succ])
      refine wpAnyH_take (i := 13) (oi := { dst := some 45, op := Op.call { callee := Callee.value (Operand.func 11), args := #[Operand.tmp 43, Operand.tmp 44], argTypes := #[29, 29] }, type := 3, pos := "outright.go:76", after := #[{ on := 11, ground := Ground.data }, { on := 12, ground := Ground.data }, { on := 10, ground := Ground.chain }, { on := 10, ground := Ground.guard }], guard := some (10, true) }) (v := undef) rfl (by kernel_rfl) (by kernel_rfl) (by kernel_rfl) (fun _ _ _ h => h) (Or.inr ⟨by rfl, rfl⟩) (by assumption) ?_
      (try simp only [Act.put, List.setIfInBounds_toArray, List.set_cons_zero, List.set_cons_succ])
      refine wpAnyH_take (i := 14) (oi := { dst := some 46, op := Op.binOp BinOp.lss 3 (Operand.tmp 45) (Operand.const (Value.int IntKind.i64 0)) 3, type := 4, pos := "outright.go:76", after := #[{ on := 13, ground := Ground.data }, { on := 10, ground := Ground.guard }], guard := some (10, true) }) (v := undef) rfl (by kernel_rfl) (by kernel_rfl) (by kernel_rfl) (fun _ _ _ h => h) (Or.inr ⟨by rfl, rfl⟩) (by assumption) ?_
      (try simp only [Act.put, List.setIfInBounds_toArray, List.set_cons_zero, List.set_cons_succ])
      refine wpAnyH_take (i := 15) (oi := { dst := some 47, op := Op.pick (Operand.tmp 42) (Operand.tmp 46) (Operand.const (Value.bool false)), type := 4, pos := "outright.go:76", after := #[{ on := 10, ground := Ground.data }, { on := 14, ground := Ground.data }], guard := none }) (v := ?_) rfl (by kernel_rfl) (by kernel_rfl) (by kernel_rfl) (fun _ _ _ h => h) (Or.inl ⟨by rfl, ?_⟩) (by assumption) ?_
      rotate_left
      · (intro w hSw; (try dsimp only at hSw); go_simp; (try with_reducible rfl))
      (try simp only [Act.put, List.setIfInBounds_toArray, List.set_cons_zero, List.set_cons_succ])
      refine wpAnyH_take (i := 16) (oi := { dst := some 48, op := Op.move (Operand.tmp 47), type := 4, pos := "outright.go:76", after := #[{ on := 15, ground := Ground.data }, { on := 13, ground := Ground.chain }], guard := none }) (v := ?_) rfl (by kernel_rfl) (by kernel_rfl) (by kernel_rfl) (fun _ _ _ h => h) (Or.inl ⟨by rfl, ?_⟩) (by assumption) ?_
      rotate_left
      · (intro w hSw; (try dsimp only at hSw); go_simp; (try with_reducible rfl))
      (try simp only [Act.put, List.setIfInBounds_toArray, List.set_cons_zero, List.set_cons_succ])
      refine wpAnyH_take (i := 17) (oi := { dst := some 49, op := Op.load 29 (Operand.tmp 3), type := 29, pos := "outright.go:76", after := #[{ on := 16, ground := Ground.guard }], guard := some (16, false) }) (v := ?_) rfl (by kernel_rfl) (by kernel_rfl) (by kernel_rfl) (fun _ _ _ h => h) (Or.inl ⟨by rfl, ?_⟩) (by assumption) ?_
      rotate_left
      · (intro w hSw; (try dsimp only at hSw); go_simp; (try with_reducible rfl))
      (try simp only [Act.put, List.setIfInBounds_toArray, List.set_cons_zero, List.set_cons_succ])
      refine wpAnyH_take (i := 18) (oi := { dst := some 50, op := Op.load 29 (Operand.tmp 5), type := 29, pos := "outright.go:76", after := #[{ on := 16, ground := Ground.guard }], guard := some (16, false) }) (v := ?_) rfl (by kernel_rfl) (by kernel_rfl) (by kernel_rfl) (fun _ _ _ h => h) (Or.inl ⟨by rfl, ?_⟩) (by assumption) ?_
      rotate_left
      · (intro w hSw; (try dsimp only at hSw); go_simp; (try with_reducible rfl))
      (try simp only [Act.put, List.setIfInBounds_toArray, List.set_cons_zero, List.set_cons_succ])
      refine wpAnyH_take (i := 20) (oi := { dst := some 52, op := Op.load 29 (Operand.tmp 4), type := 29, pos := "outright.go:76", after := #[{ on := 16, ground := Ground.guard }], guard := some (16, false) }) (v := ?_) rfl (by kernel_rfl) (by kernel_rfl) (by kernel_rfl) (fun _ _ _ h => h) (Or.inl ⟨by rfl, ?_⟩) (by assumption) ?_
      rotate_left
      · (intro w hSw; (try dsimp only at hSw); go_simp; (try with_reducible rfl))
      (try simp only [Act.put, List.setIfInBounds_toArray, List.set_cons_zero, List.set_cons_succ])
      refine wpAnyH_take (i := 21) (oi := { dst := some 53, op := Op.load 29 (Operand.tmp 5), type := 29, pos := "outright.go:76", after := #[{ on := 16, ground := Ground.guard }], guard := some (16, false) }) (v := ?_) rfl (by kernel_rfl) (by kernel_rfl) (by kernel_rfl) (fun _ _ _ h => h) (Or.inl ⟨by rfl, ?_⟩) (by assumption) ?_
      rotate_left
      · (intro w hSw; (try dsimp only at hSw); go_simp; (try with_reducible rfl))
      (try simp only [Act.put, List.setIfInBounds_toArray, List.set_cons_zero, List.set_cons_succ])
      refine wpAnyH_take (i := 24) (oi := { dst := some 56, op := Op.load 29 (Operand.tmp 3), type := 29, pos := "outright.go:76", after := #[{ on := 16, ground := Ground.guard }], guard := some (16, false) }) (v := ?_) rfl (by kernel_rfl) (by kernel_rfl) (by kernel_rfl) (fun _ _ _ h => h) (Or.inl ⟨by rfl, ?_⟩) (by assumption) ?_
      rotate_left
      · (intro w hSw; (try dsimp only at hSw); go_simp; (try with_reducible rfl))
      (try simp only [Act.put, List.setIfInBounds_toArray, List.set_cons_zero, List.set_cons_succ])
      refine wpAnyH_take (i := 25) (oi := { dst := some 57, op := Op.load 29 (Operand.tmp 4), type := 29, pos := "outright.go:76", after := #[{ on := 16, ground := Ground.guard }], guard := some (16, false) }) (v := ?_) rfl (by kernel_rfl) (by kernel_rfl) (by kernel_rfl) (fun _ _ _ h => h) (Or.inl ⟨by rfl, ?_⟩) (by assumption) ?_
      rotate_left
      · (intro w hSw; (try dsimp only at hSw); go_simp; (try with_reducible rfl))
      (try simp only [Act.put, List.setIfInBounds_toArray, List.set_cons_zero, List.set_cons_succ])
      refine wpAnyH_ready (rs := [19]) (by kernel_rfl) (by simp) ?_
      refine AllReadyH.cons (o := { dst := some 51, op := Op.call { callee := Callee.value (Operand.func 10), args := #[Operand.tmp 49, Operand.tmp 50], argTypes := #[29, 29] }, type := 29, pos := "outright.go:76", after := #[{ on := 17, ground := Ground.data }, { on := 18, ground := Ground.data }, { on := 16, ground := Ground.chain }, { on := 16, ground := Ground.guard }], guard := some (16, false) }) rfl (fun K hK => ?_) AllReadyH.nil
      go_simp
      (go_at_call 10; ((with_reducible refine (HC1.out _ ?hq).mono ?_); (case hq => exact ((Kp.refl Wc).drew.step hbR_0)); rintro x wR_1 ⟨vR_1, rfl, MR_1, hbR_1⟩; obtain ⟨pR_1, nR_1, cR_1, eR_1, gR_1, rfl⟩ := NumB.form MR_1))
      go_wp2_with fail
      refine hK.out _ _ ?_ (fun hH2 => ?_)
      · with_reducible exact sv3 (((Kp.refl Wc).drew.step hbR_0).step hbR_1) qa0 qa1 qa2 qa3 qb0 qb1 qb2 qb3 qc0 qc1 qc2 qc3
      clear hK K hH1
      (try simp only [Act.put, List.setIfInBounds_toArray, List.set_cons_zero, List.set_cons_succ])
      refine wpAnyH_ready (rs := [22]) (by kernel_rfl) (by simp) ?_
      refine AllReadyH.cons (o := { dst := some 54, op := Op.call { callee := Callee.value (Operand.func 10), args := #[Operand.tmp 52, Operand.tmp 53], argTypes := #[29, 29] }, type := 29, pos := "outright.go:76", after := #[{ on := 20, ground := Ground.data }, { on := 21, ground := Ground.data }, { on := 19, ground := Ground.chain }, { on := 16, ground := Ground.guard }], guard := some (16, false) }) rfl (fun K hK => ?_) AllReadyH.nil
      go_simp
      (go_at_call 10; ((with_reducible refine (HC2.out _ ?hq).mono ?_); (case hq => exact (((Kp.refl Wc).drew.step hbR_0).step hbR_1)); rintro x wR_2 ⟨vR_2, rfl, MR_2, hbR_2⟩; obtain ⟨pR_2, nR_2, cR_2, eR_2, gR_2, rfl⟩ := NumB.form MR_2))
      go_wp2_with fail
      refine hK.out _ _ ?_ (fun hH3 => ?_)
      · with_reducible exact sv3 ((((Kp.refl Wc).drew.step hbR_0).step hbR_1).step hbR_2) qa0 qa1 qa2 qa3 qb0 qb1 qb2 qb3 qc0 qc1 qc2 qc3
      clear hK K hH2
      (try simp only [Act.put, List.setIfInBounds_toArray, List.set_cons_zero, List.set_cons_succ])
      refine wpAnyH_ready (rs := [23]) (by kernel_rfl) (by simp) ?_
      refine AllReadyH.cons (o := { dst := some 55, op := Op.call { callee := Callee.value (Operand.func 11), args := #[Operand.tmp 51, Operand.tmp 54], argTypes := #[29, 29] }, type := 3, pos := "outright.go:76", after := #[{ on := 19, ground := Ground.data }, { on := 22, ground := Ground.data }, { on := 22, ground := Ground.chain }, { on := 16, ground := Ground.guard }], guard := some (16, false) }) rfl (fun K hK => ?_) AllReadyH.nil
      go_simp
      (go_at_call 11; ((with_reducible refine (HC3.out _ ?hq _ ?ha0 _ ?ha1).mono ?_); (case hq => exact ((((Kp.refl Wc).drew.step hbR_0).step hbR_1).step hbR_2)); (case ha0 => exact (NumB.keep MR_1 hbR_2)); (case ha1 => exact MR_2); rintro x wR_3 ⟨rfl, hbR_3⟩))
      go_wp2_with fail
      refine hK.out _ _ ?_ (fun hH4 => ?_)
      · with_reducible exact sv3 (((((Kp.refl Wc).drew.step hbR_0).step hbR_1).step hbR_2).step hbR_3) qa0 qa1 qa2 qa3 qb0 qb1 qb2 qb3 qc0 qc1 qc2 qc3
      clear hK K hH3
      (try simp only [Act.put, List.setIfInBounds_toArray, List.set_cons_zero, List.set_cons_succ])
      refine wpAnyH_ready (rs := [26]) (by kernel_rfl) (by simp) ?_
      refine AllReadyH.cons (o := { dst := some 58, op := Op.call { callee := Callee.value (Operand.func 11), args := #[Operand.tmp 56, Operand.tmp 57], argTypes := #[29, 29] }, type := 3, pos := "outright.go:76", after := #[{ on := 24, ground := Ground.data }, { on := 25, ground := Ground.data }, { on := 23, ground := Ground.chain }, { on := 16, ground := Ground.guard }], guard := some (16, false) }) rfl (fun K hK => ?_) AllReadyH.nil
      go_simp
      (go_at_call 11; ((with_reducible refine (HC4.out _ ?hq).mono ?_); (case hq => exact (((((Kp.refl Wc).drew.step hbR_0).step hbR_1).step hbR_2).step hbR_3)); rintro x wR_4 ⟨rfl, hbR_4⟩))
      go_wp2_with fail
      refine hK.out _ _ ?_ (fun hH5 => ?_)
      · with_reducible exact sv3 ((((((Kp.refl Wc).drew.step hbR_0).step hbR_1).step hbR_2).step hbR_3).step hbR_4) qa0 qa1 qa2 qa3 qb0 qb1 qb2 qb3 qc0 qc1 qc2 qc3
      clear hK K hH4
      (try simp only [Act.put, List.setIfInBounds_toArray, List.set_cons_zero, List.set_cons_succ])
      refine wpAnyH_take (i := 27) (oi := { dst := some 59, op := Op.binOp BinOp.neq 3 (Operand.tmp 55) (Operand.tmp 58) 3, type := 4, pos := "outright.go:76", after := #[{ on := 23, ground := Ground.data }, { on := 26, ground := Ground.data }, { on := 16, ground := Ground.guard }], guard := some (16, false) }) (v := ?_) rfl (by kernel_rfl) (by kernel_rfl) (by kernel_rfl) (fun _ _ _ h => h) (Or.inl ⟨by rfl, ?_⟩) (by assumption) ?_
      rotate_left
      · (intro w hSw; (try dsimp only at hSw); go_simp; (try with_reducible rfl))
      (try simp only [Act.put, List.setIfInBounds_toArray, List.set_cons_zero, List.set_cons_succ])
      refine wpAnyH_take (i := 28) (oi := { dst := some 60, op := Op.pick (Operand.tmp 48) (Operand.const (Value.bool true)) (Operand.tmp 59), type := 4, pos := "outright.go:76", after := #[{ on := 16, ground := Ground.data }, { on := 27, ground := Ground.data }], guard := none }) (v := ?_) rfl (by kernel_rfl) (by kernel_rfl) (by kernel_rfl) (fun _ _ _ h => h) (Or.inl ⟨by rfl, ?_⟩) (by assumption) ?_
      rotate_left
      · (intro w hSw; (try dsimp only at hSw); go_simp; (try with_reducible rfl))
      (try simp only [Act.put, List.setIfInBounds_toArray, List.set_cons_zero, List.set_cons_succ])
      refine wpAnyH_take (i := 29) (oi := { dst := some 61, op := Op.move (Operand.tmp 60), type := 4, pos := "outright.go:76", after := #[{ on := 28, ground := Ground.data }, { on := 26, ground := Ground.chain }], guard := none }) (v := ?_) rfl (by kernel_rfl) (by kernel_rfl) (by kernel_rfl) (fun _ _ _ h => h) (Or.inl ⟨by rfl, ?_⟩) (by assumption) ?_
      rotate_left
      · (intro w hSw; (try dsimp only at hSw); go_simp; (try with_reducible rfl))
      (try simp only [Act.put, List.setIfInBounds_toArray, List.set_cons_zero, List.set_cons_succ])
      refine wpAnyH_take (i := 30) (oi := { dst := some 62, op := Op.load 29 (Operand.tmp 3), type := 29, pos := "outright.go:76", after := #[{ on := 29, ground := Ground.guard }], guard := some (29, false) }) (v := ?_) rfl (by kernel_rfl) (by kernel_rfl) (by kernel_rfl) (fun _ _ _ h => h) (Or.inl ⟨by rfl, ?_⟩) (by assumption) ?_
      rotate_left
      · (intro w hSw; (try dsimp only at hSw); go_simp; (try with_reducible rfl))
      (try simp only [Act.put, List.setIfInBounds_toArray, List.set_cons_zero, List.set_cons_succ])
      refine wpAnyH_take (i := 31) (oi := { dst := some 63, op := Op.load 29 (Operand.tmp 4), type := 29, pos := "outright.go:76", after := #[{ on := 29, ground := Ground.guard }], guard := some (29, false) }) (v := ?_) rfl (by kernel_rfl) (by kernel_rfl) (by kernel_rfl) (fun _ _ _ h => h) (Or.inl ⟨by rfl, ?_⟩) (by assumption) ?_
      rotate_left
      · (intro w hSw; (try dsimp only at hSw); go_simp; (try with_reducible rfl))
      (try simp only [Act.put, List.setIfInBounds_toArray, List.set_cons_zero, List.set_cons_succ])
      refine wpAnyH_ready (rs := [32]) (by kernel_rfl) (by simp) ?_
      refine AllReadyH.cons (o := { dst := some 64, op := Op.call { callee := Callee.value (Operand.func 11), args := #[Operand.tmp 62, Operand.tmp 63], argTypes := #[29, 29] }, type := 3, pos := "outright.go:76", after := #[{ on := 30, ground := Ground.data }, { on := 31, ground := Ground.data }, { on := 29, ground := Ground.chain }, { on := 29, ground := Ground.guard }], guard := some (29, false) }) rfl (fun K hK => ?_) AllReadyH.nil
      go_simp
      (go_at_call 11; ((with_reducible refine (HC5.out _ ?hq).mono ?_); (case hq => exact ((((((Kp.refl Wc).drew.step hbR_0).step hbR_1).step hbR_2).step hbR_3).step hbR_4)); rintro x wR_5 ⟨rfl, hbR_5⟩))
      go_wp2_with fail
      refine hK.out _ _ ?_ (fun hH6 => ?_)
      · with_reducible exact sv3 (((((((Kp.refl Wc).drew.step hbR_0).step hbR_1).step hbR_2).step hbR_3).step hbR_4).step hbR_5) qa0 qa1 qa2 qa3 qb0 qb1 qb2 qb3 qc0 qc1 qc2 qc3
      clear hK K hH5
      (try simp only [Act.put, List.setIfInBounds_toArray, List.set_cons_zero, List.set_cons_succ])
      refine wpAnyH_take (i := 33) (oi := { dst := some 65, op := Op.binOp BinOp.gtr 3 (Operand.tmp 64) (Operand.const (Value.int IntKind.i64 0)) 3, type := 4, pos := "outright.go:76", after := #[{ on := 32, ground := Ground.data }, { on := 29, ground := Ground.guard }], guard := some (29, false) }) (v := ?_) rfl (by kernel_rfl) (by kernel_rfl) (by kernel_rfl) (fun _ _ _ h => h) (Or.inl ⟨by rfl, ?_⟩) (by assumption) ?_
      rotate_left
      · (intro w hSw; (try dsimp only at hSw); go_simp; (try with_reducible rfl))
      (try simp only [Act.put, List.setIfInBounds_toArray, List.set_cons_zero, List.set_cons_succ])
      refine wpAnyH_take (i := 34) (oi := { dst := some 66, op := Op.move (Operand.tmp 65), type := 4, pos := "outright.go:76", after := #[{ on := 33, ground := Ground.data }, { on := 32, ground := Ground.chain }, { on := 29, ground := Ground.guard }], guard := some (29, false) }) (v := ?_) rfl (by kernel_rfl) (by kernel_rfl) (by kernel_rfl) (fun _ _ _ h => h) (Or.inl ⟨by rfl, ?_⟩) (by assumption) ?_
      rotate_left
      · (intro w hSw; (try dsimp only at hSw); go_simp; (try with_reducible rfl))
      (try simp only [Act.put, List.setIfInBounds_toArray, List.set_cons_zero, List.set_cons_succ])
      refine wpAnyH_take (i := 35) (oi := { dst := some 67, op := Op.load 29 (Operand.tmp 3), type := 29, pos := "outright.go:76", after := #[{ on := 34, ground := Ground.guard }], guard := some (34, true) }) (v := undef) rfl (by kernel_rfl) (by kernel_rfl) (by kernel_rfl) (fun _ _ _ h => h) (Or.inr ⟨by rfl, rfl⟩) (by assumption) ?_
      (try simp only [Act.put, List.setIfInBounds_toArray, List.set_cons_zero, List.set_cons_succ])
      refine wpAnyH_take (i := 36) (oi := { dst := some 68, op := Op.call { callee := Callee.value (Operand.func 19), args := #[Operand.tmp 67], argTypes := #[29] }, type := 22, pos := "outright.go:76", after := #[{ on := 35, ground := Ground.data }, { on := 34, ground := Ground.chain }, { on := 34, ground := Ground.guard }], guard := some (34, true) }) (v := undef) rfl (by kernel_rfl) (by kernel_rfl) (by kernel_rfl) (fun _ _ _ h => h) (Or.inr ⟨by rfl, rfl⟩) (by assumption) ?_
      (try simp only [Act.put, List.setIfInBounds_toArray, List.set_cons_zero, List.set_cons_succ])
      refine wpAnyH_take (i := 37) (oi := { dst := some 69, op := Op.load 29 (Operand.tmp 4), type := 29, pos := "outright.go:76", after := #[{ on := 34, ground := Ground.guard }], guard := some (34, true) }) (v := undef) rfl (by kernel_rfl) (by kernel_rfl) (by kernel_rfl) (fun _ _ _ h => h) (Or.inr ⟨by rfl, rfl⟩) (by assumption) ?_
      (try simp only [Act.put, List.setIfInBounds_toArray, List.set_cons_zero, List.set_cons_succ])
      refine wpAnyH_take (i := 38) (oi := { dst := some 70, op := Op.call { callee := Callee.value (Operand.func 19), args := #[Operand.tmp 69], argTypes := #[29] }, type := 22, pos := "outright.go:76", after := #[{ on := 37, ground := Ground.data }, { on := 36, ground := Ground.chain }, { on := 34, ground := Ground.guard }], guard := some (34, true) }) (v := undef) rfl (by kernel_rfl) (by kernel_rfl) (by kernel_rfl) (fun _ _ _ h => h) (Or.inr ⟨by rfl, rfl⟩) (by assumption) ?_
      (try simp only [Act.put, List.setIfInBounds_toArray, List.set_cons_zero, List.set_cons_succ])
      refine wpAnyH_take (i := 39) (oi := { dst := some 71, op := Op.binOp BinOp.lss 22 (Operand.tmp 68) (Operand.tmp 70) 22, type := 4, pos := "outright.go:76", after := #[{ on := 36, ground := Ground.data }, { on := 38, ground := Ground.data }, { on := 34, ground := Ground.guard }], guard := some (34, true) }) (v := undef) rfl (by kernel_rfl) (by kernel_rfl) (by kernel_rfl) (fun _ _ _ h => h) (Or.inr ⟨by rfl, rfl⟩) (by assumption) ?_
      (try simp only [Act.put, List.setIfInBounds_toArray, List.set_cons_zero, List.set_cons_succ])
      refine wpAnyH_take (i := 40) (oi := { dst := some 72, op := Op.pick (Operand.tmp 66) (Operand.tmp 71) (Operand.const (Value.bool false)), type := 4, pos := "outright.go:76", after := #[{ on := 34, ground := Ground.data }, { on := 39, ground := Ground.data }, { on := 29, ground := Ground.guard }], guard := some (29, false) }) (v := ?_) rfl (by kernel_rfl) (by kernel_rfl) (by kernel_rfl) (fun _ _ _ h => h) (Or.inl ⟨by rfl, ?_⟩) (by assumption) ?_
      rotate_left
      · (intro w hSw; (try dsimp only at hSw); go_simp; (try with_reducible rfl))
      (try simp only [Act.put, List.setIfInBounds_toArray, List.set_cons_zero, List.set_cons_succ])
      refine wpAnyH_take (i := 41) (oi := { dst := some 73, op := Op.pick (Operand.tmp 61) (Operand.const (Value.bool true)) (Operand.tmp 72), type := 4, pos := "outright.go:76", after := #[{ on := 29, ground := Ground.data }, { on := 40, ground := Ground.data }], guard := none }) (v := ?_) rfl (by kernel_rfl) (by kernel_rfl) (by kernel_rfl) (fun _ _ _ h => h) (Or.inl ⟨by rfl, ?_⟩) (by assumption) ?_
      rotate_left
      · (intro w hSw; (try dsimp only at hSw); go_simp; (try with_reducible rfl))
      (try simp only [Act.put, List.setIfInBounds_toArray, List.set_cons_zero, List.set_cons_succ])
      refine wpAnyH_done (by kernel_rfl) ?_ _
      clear hH6
      go_wp2_with fail
      go_meet
      exact ⟨rfl, (((((((Kp.refl Wc).drew.step hbR_0).step hbR_1).step hbR_2).step hbR_3).step hbR_4).step hbR_5)⟩
    · have c1 : (0 : Int) ≤ 0 := by decide
      by_cases c2 : 0 ≤ t
      · have u2 : decide (0 ≤ t) = true := decide_eq_true c2
        have u3 := f3 c1 c2
        clear c1 c2 f3 f4
        have HC0 := Lib.hid (fun (Y : World) (h : Kp Wc Y) => cmpBn _ (Na.out.keep h.out) (Nb.out.keep h.out) (HT.out.keep h.out) (by decide) (by decide) HS.out)
        have HC1 := Lib.hid (fun (Y : World) (h : Kp Wc Y) => cmpBn t (Nb.out.keep h.out) (Nc.out.keep h.out) (HT.out.keep h.out) (by decide) (by decide) HS2.out)
        have HC2 := Lib.hid (fun (Y : World) (h : Kp Wc Y) => cmpBn r (Na.out.keep h.out) (Nc.out.keep h.out) (HT.out.keep h.out) (by decide) (by decide) HS3.out)
        have HC3 := Lib.hid (fun (Y : World) (h : Kp Wc Y) => addB 2150 (Na.out.keep h.out) (Nc.out.keep h.out) (HT.out.keep h.out) (by decide) (by decide) (by decide))
        have HC4 := Lib.hid (fun (Y : World) (h : Kp Wc Y) => addB 2150 (Nb.out.keep h.out) (Nc.out.keep h.out) (HT.out.keep h.out) (by decide) (by decide) (by decide))
        have HC5 := Lib.hid (fun (Y : World) (h : Kp Wc Y) (v : Value) (hv : NumB 0 Y v (ra + rc) 2150) (v2 : Value) (hv2 : NumB 0 Y v2 (rb + rc) 2150) => cmpBn _ hv hv2 (HT.out.keep h.out) (by decide) (by decide) HSA.out)
        have HC6 := Lib.hid (fun (Y : World) (h : Kp Wc Y) => cmpBn _ (Na.out.keep h.out) (Nb.out.keep h.out) (HT.out.keep h.out) (by decide) (by decide) HS.out)
        have HC7 := Lib.hid (fun (Y : World) (h : Kp Wc Y) => cmpBn _ (Na.out.keep h.out) (Nb.out.keep h.out) (HT.out.keep h.out) (by decide) (by decide) HS.out)
        refine wp_region_held_drew (S := fun w' => w'.cell? ⟨w2.heap.size, 0, none⟩ = some (.slice pa na ca) ∧ w'.cell? ⟨w2.heap.size, 1, none⟩ = some (.int .i64 ea) ∧ w'.cell? ⟨w2.heap.size, 2, none⟩ = some (.bool ga) ∧ w'.cell? ⟨w2.heap.size, 3, none⟩ = some (.bool false) ∧ w'.cell? ⟨w3.heap.size, 0, none⟩ = some (.slice pb nb cb) ∧ w'.cell? ⟨w3.heap.size, 1, none⟩ = some (.int .i64 eb) ∧ w'.cell? ⟨w3.heap.size, 2, none⟩ = some (.bool gb) ∧ w'.cell? ⟨w3.heap.size, 3, none⟩ = some (.bool false) ∧ w'.cell? ⟨w4.heap.size, 0, none⟩ = some (.slice pc nc cc) ∧ w'.cell? ⟨w4.heap.size, 1, none⟩ = some (.int .i64 ec) ∧ w'.cell? ⟨w4.heap.size, 2, none⟩ = some (.bool gc) ∧ w'.cell? ⟨w4.heap.size, 3, none⟩ = some (.bool false) ∧ Kp Wc w') (by kernel_rfl) ?_ (fun hH0 => ?_)
        · with_reducible exact sv3 (Kp.refl Wc).drew qa0 qa1 qa2 qa3 qb0 qb1 qb2 qb3 qc0 qc1 qc2 qc3
        refine wpAnyH_take (i := 0) (oi := { dst := some 32, op := Op.load 29 (Operand.tmp 3), type := 29, pos := "outright.go:76", after := #[], guard := none }) (v := ?_) rfl (by kernel_rfl) (by kernel_rfl) (by kernel_rfl) (fun _ _ _ h => h) (Or.inl ⟨by rfl, ?_⟩) (by assumption) ?_
        rotate_left
        · (intro w hSw; (try dsimp only at hSw); go_simp; (try with_reducible rfl))
        (try simp only [Act.put, List.setIfInBounds_toArray, List.set_cons_zero, List.set_cons_succ])
        refine wpAnyH_take (i := 1) (oi := { dst := some 33, op := Op.load 29 (Operand.tmp 4), type := 29, pos := "outright.go:76", after := #[], guard := none }) (v := ?_) rfl (by kernel_rfl) (by kernel_rfl) (by kernel_rfl) (fun _ _ _ h => h) (Or.inl ⟨by rfl, ?_⟩) (by assumption) ?_
        rotate_left
        · (intro w hSw; (try dsimp only at hSw); go_simp; (try with_reducible rfl))
        (try simp only [Act.put, List.setIfInBounds_toArray, List.set_cons_zero, List.set_cons_succ])
        refine wpAnyH_ready (rs := [2]) (by kernel_rfl) (by simp) ?_
        refine AllReadyH.cons (o := { dst := some 34, op := Op.call { callee := Callee.value (Operand.func 11), args := #[Operand.tmp 32, Operand.tmp 33], argTypes := #[29, 29] }, type := 3, pos := "outright.go:76", after := #[{ on := 0, ground := Ground.data }, { on := 1, ground := Ground.data }], guard := none }) rfl (fun K hK => ?_) AllReadyH.nil
        go_simp
        (go_at_call 11; ((with_reducible refine (HC0.out _ ?hq).mono ?_); (case hq => exact (Kp.refl Wc).drew); rintro x wR_0 ⟨rfl, hbR_0⟩))
        go_wp2_with fail
        refine hK.out _ _ ?_ (fun hH1 => ?_)
        · with_reducible exact sv3 ((Kp.refl Wc).drew.step hbR_0) qa0 qa1 qa2 qa3 qb0 qb1 qb2 qb3 qc0 qc1 qc2 qc3
        clear hK K hH0
        (try simp only [Act.put, List.setIfInBounds_toArray, List.set_cons_zero, List.set_cons_succ])
        refine wpAnyH_take (i := 3) (oi := { dst := some 35, op := Op.binOp BinOp.geq 3 (Operand.tmp 34) (Operand.const (Value.int IntKind.i64 0)) 3, type := 4, pos := "outright.go:76", after := #[{ on := 2, ground := Ground.data }], guard := none }) (v := ?_) rfl (by kernel_rfl) (by kernel_rfl) (by kernel_rfl) (fun _ _ _ h => h) (Or.inl ⟨by rfl, ?_⟩) (by assumption) ?_
        rotate_left
        · (intro w hSw; (try dsimp only at hSw); go_simp; (try with_reducible rfl))
        (try simp only [Act.put, List.setIfInBounds_toArray, List.set_cons_zero, List.set_cons_succ])
        refine wpAnyH_take (i := 4) (oi := { dst := some 36, op := Op.move (Operand.tmp 35), type := 4, pos := "outright.go:76", after := #[{ on := 3, ground := Ground.data }, { on := 2, ground := Ground.chain }], guard := none }) (v := ?_) rfl (by kernel_rfl) (by kernel_rfl) (by kernel_rfl) (fun _ _ _ h => h) (Or.inl ⟨by rfl, ?_⟩) (by assumption) ?_
        rotate_left
        · (intro w hSw; (try dsimp only at hSw); go_simp; (try with_reducible rfl))
        (try simp only [Act.put, List.setIfInBounds_toArray, List.set_cons_zero, List.set_cons_succ])
        refine wpAnyH_take (i := 5) (oi := { dst := some 37, op := Op.load 29 (Operand.tmp 4), type := 29, pos := "outright.go:76", after := #[{ on := 4, ground := Ground.guard }], guard := some (4, true) }) (v := ?_) rfl (by kernel_rfl) (by kernel_rfl) (by kernel_rfl) (fun _ _ _ h => h) (Or.inl ⟨by rfl, ?_⟩) (by assumption) ?_
        rotate_left
        · (intro w hSw; (try dsimp only at hSw); go_simp; (try with_reducible rfl))
        (try simp only [Act.put, List.setIfInBounds_toArray, List.set_cons_zero, List.set_cons_succ])
        refine wpAnyH_take (i := 6) (oi := { dst := some 38, op := Op.load 29 (Operand.tmp 5), type := 29, pos := "outright.go:76", after := #[{ on := 4, ground := Ground.guard }], guard := some (4, true) }) (v := ?_) rfl (by kernel_rfl) (by kernel_rfl) (by kernel_rfl) (fun _ _ _ h => h) (Or.inl ⟨by rfl, ?_⟩) (by assumption) ?_
        rotate_left
        · (intro w hSw; (try dsimp only at hSw); go_simp; (try with_reducible rfl))
        (try simp only [Act.put, List.setIfInBounds_toArray, List.set_cons_zero, List.set_cons_succ])
        refine wpAnyH_ready (rs := [7]) (by kernel_rfl) (by simp) ?_
        refine AllReadyH.cons (o := { dst := some 39, op := Op.call { callee := Callee.value (Operand.func 11), args := #[Operand.tmp 37, Operand.tmp 38], argTypes := #[29, 29] }, type := 3, pos := "outright.go:76", after := #[{ on := 5, ground := Ground.data }, { on := 6, ground := Ground.data }, { on := 4, ground := Ground.chain }, { on := 4, ground := Ground.guard }], guard := some (4, true) }) rfl (fun K hK => ?_) AllReadyH.nil
        go_simp
        (go_at_call 11; ((with_reducible refine (HC1.out _ ?hq).mono ?_); (case hq => exact ((Kp.refl Wc).drew.step hbR_0)); rintro x wR_1 ⟨rfl, hbR_1⟩))
        go_wp2_with fail
        refine hK.out _ _ ?_ (fun hH2 => ?_)
        · with_reducible exact sv3 (((Kp.refl Wc).drew.step hbR_0).step hbR_1) qa0 qa1 qa2 qa3 qb0 qb1 qb2 qb3 qc0 qc1 qc2 qc3
        clear hK K hH1
        (try simp only [Act.put, List.setIfInBounds_toArray, List.set_cons_zero, List.set_cons_succ])
        refine wpAnyH_take (i := 8) (oi := { dst := some 40, op := Op.binOp BinOp.geq 3 (Operand.tmp 39) (Operand.const (Value.int IntKind.i64 0)) 3, type := 4, pos := "outright.go:76", after := #[{ on := 7, ground := Ground.data }, { on := 4, ground := Ground.guard }], guard := some (4, true) }) (v := ?_) rfl (by kernel_rfl) (by kernel_rfl) (by kernel_rfl) (fun _ _ _ h => h) (Or.inl ⟨by rfl, ?_⟩) (by assumption) ?_
        rotate_left
        · (intro w hSw; (try dsimp only at hSw); go_simp; (try with_reducible rfl))
        (try simp only [Act.put, List.setIfInBounds_toArray, List.set_cons_zero, List.set_cons_succ])
        refine wpAnyH_take (i := 9) (oi := { dst := some 41, op := Op.pick (Operand.tmp 36) (Operand.tmp 40) (Operand.const (Value.bool false)), type := 4, pos := "outright.go:76", after := #[{ on := 4, ground := Ground.data }, { on := 8, ground := Ground.data }], guard := none }) (v := ?_) rfl (by kernel_rfl) (by kernel_rfl) (by kernel_rfl) (fun _ _ _ h => h) (Or.inl ⟨by rfl, ?_⟩) (by assumption) ?_
        rotate_left
        · (intro w hSw; (try dsimp only at hSw); go_simp; (try with_reducible rfl))
        (try simp only [Act.put, List.setIfInBounds_toArray, List.set_cons_zero, List.set_cons_succ])
        refine wpAnyH_take (i := 10) (oi := { dst := some 42, op := Op.move (Operand.tmp 41), type := 4, pos := "outright.go:76", after := #[{ on := 9, ground := Ground.data }, { on := 7, ground := Ground.chain }], guard := none }) (v := ?_) rfl (by kernel_rfl) (by kernel_rfl) (by kernel_rfl) (fun _ _ _ h => h) (Or.inl ⟨by rfl, ?_⟩) (by assumption) ?_
        rotate_left
        · (intro w hSw; (try dsimp only at hSw); go_simp; (try with_reducible rfl))
        (try simp only [Act.put, List.setIfInBounds_toArray, List.set_cons_zero, List.set_cons_succ])
        refine wpAnyH_take (i := 11) (oi := { dst := some 43, op := Op.load 29 (Operand.tmp 3), type := 29, pos := "outright.go:76", after := #[{ on := 10, ground := Ground.guard }], guard := some (10, true) }) (v := ?_) rfl (by kernel_rfl) (by kernel_rfl) (by kernel_rfl) (fun _ _ _ h => h) (Or.inl ⟨by rfl, ?_⟩) (by assumption) ?_
        rotate_left
        · (intro w hSw; (try dsimp only at hSw); go_simp; (try with_reducible rfl))
        (try simp only [Act.put, List.setIfInBounds_toArray, List.set_cons_zero, List.set_cons_succ])
        refine wpAnyH_take (i := 12) (oi := { dst := some 44, op := Op.load 29 (Operand.tmp 5), type := 29, pos := "outright.go:76", after := #[{ on := 10, ground := Ground.guard }], guard := some (10, true) }) (v := ?_) rfl (by kernel_rfl) (by kernel_rfl) (by kernel_rfl) (fun _ _ _ h => h) (Or.inl ⟨by rfl, ?_⟩) (by assumption) ?_
        rotate_left
        · (intro w hSw; (try dsimp only at hSw); go_simp; (try with_reducible rfl))
        (try simp only [Act.put, List.setIfInBounds_toArray, List.set_cons_zero, List.set_cons_succ])
        refine wpAnyH_ready (rs := [13]) (by kernel_rfl) (by simp) ?_
        refine AllReadyH.cons (o := { dst := some 45, op := Op.call { callee := Callee.value (Operand.func 11), args := #[Operand.tmp 43, Operand.tmp 44], argTypes := #[29, 29] }, type := 3, pos := "outright.go:76", after := #[{ on := 11, ground := Ground.data }, { on := 12, ground := Ground.data }, { on := 10, ground := Ground.chain }, { on := 10, ground := Ground.guard }], guard := some (10, true) }) rfl (fun K hK => ?_) AllReadyH.nil
        go_simp
        (go_at_call 11; ((with_reducible refine (HC2.out _ ?hq).mono ?_); (case hq => exact (((Kp.refl Wc).drew.step hbR_0).step hbR_1)); rintro x wR_2 ⟨rfl, hbR_2⟩))
        go_wp2_with fail
        refine hK.out _ _ ?_ (fun hH3 => ?_)
        · with_reducible exact sv3 ((((Kp.refl Wc).drew.step hbR_0).step hbR_1).step hbR_2) qa0 qa1 qa2 qa3 qb0 qb1 qb2 qb3 qc0 qc1 qc2 qc3
        clear hK K hH2
        (try simp only [Act.put, List.setIfInBounds_toArray, List.set_cons_zero, List.set_cons_succ])
        refine wpAnyH_take (i := 14) (oi := { dst := some 46, op := Op.binOp BinOp.lss 3 (Operand.tmp 45) (Operand.const (Value.int IntKind.i64 0)) 3, type := 4, pos := "outright.go:76", after := #[{ on := 13, ground := Ground.data }, { on := 10, ground := Ground.guard }], guard := some (10, true) }) (v := ?_) rfl (by kernel_rfl) (by kernel_rfl) (by kernel_rfl) (fun _ _ _ h => h) (Or.inl ⟨by rfl, ?_⟩) (by assumption) ?_
        rotate_left
        · (intro w hSw; (try dsimp only at hSw); go_simp; (try with_reducible rfl))
        (try simp only [Act.put, List.setIfInBounds_toArray, List.set_cons_zero, List.set_cons_succ])
        refine wpAnyH_take (i := 15) (oi := { dst := some 47, op := Op.pick (Operand.tmp 42) (Operand.tmp 46) (Operand.const (Value.bool false)), type := 4, pos := "outright.go:76", after := #[{ on := 10, ground := Ground.data }, { on := 14, ground := Ground.data }], guard := none }) (v := ?_) rfl (by kernel_rfl) (by kernel_rfl) (by kernel_rfl) (fun _ _ _ h => h) (Or.inl ⟨by rfl, ?_⟩) (by assumption) ?_
        rotate_left
        · (intro w hSw; (try dsimp only at hSw); go_simp; (try with_reducible rfl))
        (try simp only [Act.put, List.setIfInBounds_toArray, List.set_cons_zero, List.set_cons_succ])
        refine wpAnyH_take (i := 16) (oi := { dst := some 48, op := Op.move (Operand.tmp 47), type := 4, pos := "outright.go:76", after := #[{ on := 15, ground := Ground.data }, { on := 13, ground := Ground.chain }], guard := none }) (v := ?_) rfl (by kernel_rfl) (by kernel_rfl) (by kernel_rfl) (fun _ _ _ h => h) (Or.inl ⟨by rfl, ?_⟩) (by assumption) ?_
        rotate_left
        · (intro w hSw; (try dsimp only at hSw); go_simp; (try with_reducible rfl))
        (try simp only [Act.put, List.setIfInBounds_toArray, List.set_cons_zero, List.set_cons_succ])
        refine wpAnyH_take (i := 17) (oi := { dst := some 49, op := Op.load 29 (Operand.tmp 3), type := 29, pos := "outright.go:76", after := #[{ on := 16, ground := Ground.guard }], guard := some (16, false) }) (v := ?_) rfl (by kernel_rfl) (by kernel_rfl) (by kernel_rfl) (fun _ _ _ h => h) (Or.inl ⟨by rfl, ?_⟩) (by assumption) ?_
        rotate_left
        · (intro w hSw; (try dsimp only at hSw); go_simp; (try with_reducible rfl))
        (try simp only [Act.put, List.setIfInBounds_toArray, List.set_cons_zero, List.set_cons_succ])
        refine wpAnyH_take (i := 18) (oi := { dst := some 50, op := Op.load 29 (Operand.tmp 5), type := 29, pos := "outright.go:76", after := #[{ on := 16, ground := Ground.guard }], guard := some (16, false) }) (v := ?_) rfl (by kernel_rfl) (by kernel_rfl) (by kernel_rfl) (fun _ _ _ h => h) (Or.inl ⟨by rfl, ?_⟩) (by assumption) ?_
        rotate_left
        · (intro w hSw; (try dsimp only at hSw); go_simp; (try with_reducible rfl))
        (try simp only [Act.put, List.setIfInBounds_toArray, List.set_cons_zero, List.set_cons_succ])
        refine wpAnyH_take (i := 20) (oi := { dst := some 52, op := Op.load 29 (Operand.tmp 4), type := 29, pos := "outright.go:76", after := #[{ on := 16, ground := Ground.guard }], guard := some (16, false) }) (v := ?_) rfl (by kernel_rfl) (by kernel_rfl) (by kernel_rfl) (fun _ _ _ h => h) (Or.inl ⟨by rfl, ?_⟩) (by assumption) ?_
        rotate_left
        · (intro w hSw; (try dsimp only at hSw); go_simp; (try with_reducible rfl))
        (try simp only [Act.put, List.setIfInBounds_toArray, List.set_cons_zero, List.set_cons_succ])
        refine wpAnyH_take (i := 21) (oi := { dst := some 53, op := Op.load 29 (Operand.tmp 5), type := 29, pos := "outright.go:76", after := #[{ on := 16, ground := Ground.guard }], guard := some (16, false) }) (v := ?_) rfl (by kernel_rfl) (by kernel_rfl) (by kernel_rfl) (fun _ _ _ h => h) (Or.inl ⟨by rfl, ?_⟩) (by assumption) ?_
        rotate_left
        · (intro w hSw; (try dsimp only at hSw); go_simp; (try with_reducible rfl))
        (try simp only [Act.put, List.setIfInBounds_toArray, List.set_cons_zero, List.set_cons_succ])
        refine wpAnyH_take (i := 24) (oi := { dst := some 56, op := Op.load 29 (Operand.tmp 3), type := 29, pos := "outright.go:76", after := #[{ on := 16, ground := Ground.guard }], guard := some (16, false) }) (v := ?_) rfl (by kernel_rfl) (by kernel_rfl) (by kernel_rfl) (fun _ _ _ h => h) (Or.inl ⟨by rfl, ?_⟩) (by assumption) ?_
        rotate_left
        · (intro w hSw; (try dsimp only at hSw); go_simp; (try with_reducible rfl))
        (try simp only [Act.put, List.setIfInBounds_toArray, List.set_cons_zero, List.set_cons_succ])
        refine wpAnyH_take (i := 25) (oi := { dst := some 57, op := Op.load 29 (Operand.tmp 4), type := 29, pos := "outright.go:76", after := #[{ on := 16, ground := Ground.guard }], guard := some (16, false) }) (v := ?_) rfl (by kernel_rfl) (by kernel_rfl) (by kernel_rfl) (fun _ _ _ h => h) (Or.inl ⟨by rfl, ?_⟩) (by assumption) ?_
        rotate_left
        · (intro w hSw; (try dsimp only at hSw); go_simp; (try with_reducible rfl))
        (try simp only [Act.put, List.setIfInBounds_toArray, List.set_cons_zero, List.set_cons_succ])
        refine wpAnyH_ready (rs := [19]) (by kernel_rfl) (by simp) ?_
        refine AllReadyH.cons (o := { dst := some 51, op := Op.call { callee := Callee.value (Operand.func 10), args := #[Operand.tmp 49, Operand.tmp 50], argTypes := #[29, 29] }, type := 29, pos := "outright.go:76", after := #[{ on := 17, ground := Ground.data }, { on := 18, ground := Ground.data }, { on := 16, ground := Ground.chain }, { on := 16, ground := Ground.guard }], guard := some (16, false) }) rfl (fun K hK => ?_) AllReadyH.nil
        go_simp
        (go_at_call 10; ((with_reducible refine (HC3.out _ ?hq).mono ?_); (case hq => exact ((((Kp.refl Wc).drew.step hbR_0).step hbR_1).step hbR_2)); rintro x wR_3 ⟨vR_3, rfl, MR_3, hbR_3⟩; obtain ⟨pR_3, nR_3, cR_3, eR_3, gR_3, rfl⟩ := NumB.form MR_3))
        go_wp2_with fail
        refine hK.out _ _ ?_ (fun hH4 => ?_)
        · with_reducible exact sv3 (((((Kp.refl Wc).drew.step hbR_0).step hbR_1).step hbR_2).step hbR_3) qa0 qa1 qa2 qa3 qb0 qb1 qb2 qb3 qc0 qc1 qc2 qc3
        clear hK K hH3
        (try simp only [Act.put, List.setIfInBounds_toArray, List.set_cons_zero, List.set_cons_succ])
        refine wpAnyH_ready (rs := [22]) (by kernel_rfl) (by simp) ?_
        refine AllReadyH.cons (o := { dst := some 54, op := Op.call { callee := Callee.value (Operand.func 10), args := #[Operand.tmp 52, Operand.tmp 53], argTypes := #[29, 29] }, type := 29, pos := "outright.go:76", after := #[{ on := 20, ground := Ground.data }, { on := 21, ground := Ground.data }, { on := 19, ground := Ground.chain }, { on := 16, ground := Ground.guard }], guard := some (16, false) }) rfl (fun K hK => ?_) AllReadyH.nil
        go_simp
        (go_at_call 10; ((with_reducible refine (HC4.out _ ?hq).mono ?_); (case hq => exact (((((Kp.refl Wc).drew.step hbR_0).step hbR_1).step hbR_2).step hbR_3)); rintro x wR_4 ⟨vR_4, rfl, MR_4, hbR_4⟩; obtain ⟨pR_4, nR_4, cR_4, eR_4, gR_4, rfl⟩ := NumB.form MR_4))
        go_wp2_with fail
        refine hK.out _ _ ?_ (fun hH5 => ?_)
        · with_reducible exact sv3 ((((((Kp.refl Wc).drew.step hbR_0).step hbR_1).step hbR_2).step hbR_3).step hbR_4) qa0 qa1 qa2 qa3 qb0 qb1 qb2 qb3 qc0 qc1 qc2 qc3
        clear hK K hH4
        (try simp only [Act.put, List.setIfInBounds_toArray, List.set_cons_zero, List.set_cons_succ])
        refine wpAnyH_ready (rs := [23]) (by kernel_rfl) (by simp) ?_
        refine AllReadyH.cons (o := { dst := some 55, op := Op.call { callee := Callee.value (Operand.func 11), args := #[Operand.tmp 51, Operand.tmp 54], argTypes := #[29, 29] }, type := 3, pos := "outright.go:76", after := #[{ on := 19, ground := Ground.data }, { on := 22, ground := Ground.data }, { on := 22, ground := Ground.chain }, { on := 16, ground := Ground.guard }], guard := some (16, false) }) rfl (fun K hK => ?_) AllReadyH.nil
        go_simp
        (go_at_call 11; ((with_reducible refine (HC5.out _ ?hq _ ?ha0 _ ?ha1).mono ?_); (case hq => exact ((((((Kp.refl Wc).drew.step hbR_0).step hbR_1).step hbR_2).step hbR_3).step hbR_4)); (case ha0 => exact (NumB.keep MR_3 hbR_4)); (case ha1 => exact MR_4); rintro x wR_5 ⟨rfl, hbR_5⟩))
        go_wp2_with fail
        refine hK.out _ _ ?_ (fun hH6 => ?_)
        · with_reducible exact sv3 (((((((Kp.refl Wc).drew.step hbR_0).step hbR_1).step hbR_2).step hbR_3).step hbR_4).step hbR_5) qa0 qa1 qa2 qa3 qb0 qb1 qb2 qb3 qc0 qc1 qc2 qc3
        clear hK K hH5
        (try simp only [Act.put, List.setIfInBounds_toArray, List.set_cons_zero, List.set_cons_succ])
        refine wpAnyH_ready (rs := [26]) (by kernel_rfl) (by simp) ?_
        refine AllReadyH.cons (o := { dst := some 58, op := Op.call { callee := Callee.value (Operand.func 11), args := #[Operand.tmp 56, Operand.tmp 57], argTypes := #[29, 29] }, type := 3, pos := "outright.go:76", after := #[{ on := 24, ground := Ground.data }, { on := 25, ground := Ground.data }, { on := 23, ground := Ground.chain }, { on := 16, ground := Ground.guard }], guard := some (16, false) }) rfl (fun K hK => ?_) AllReadyH.nil
        go_simp
        (go_at_call 11; ((with_reducible refine (HC6.out _ ?hq).mono ?_); (case hq => exact (((((((Kp.refl Wc).drew.step hbR_0).step hbR_1).step hbR_2).step hbR_3).step hbR_4).step hbR_5)); rintro x wR_6 ⟨rfl, hbR_6⟩))
        go_wp2_with fail
        refine hK.out _ _ ?_ (fun hH7 => ?_)
        · with_reducible exact sv3 ((((((((Kp.refl Wc).drew.step hbR_0).step hbR_1).step hbR_2).step hbR_3).step hbR_4).step hbR_5).step hbR_6) qa0 qa1 qa2 qa3 qb0 qb1 qb2 qb3 qc0 qc1 qc2 qc3
        clear hK K hH6
        (try simp only [Act.put, List.setIfInBounds_toArray, List.set_cons_zero, List.set_cons_succ])
        refine wpAnyH_take (i := 27) (oi := { dst := some 59, op := Op.binOp BinOp.neq 3 (Operand.tmp 55) (Operand.tmp 58) 3, type := 4, pos := "outright.go:76", after := #[{ on := 23, ground := Ground.data }, { on := 26, ground := Ground.data }, { on := 16, ground := Ground.guard }], guard := some (16, false) }) (v := ?_) rfl (by kernel_rfl) (by kernel_rfl) (by kernel_rfl) (fun _ _ _ h => h) (Or.inl ⟨by rfl, ?_⟩) (by assumption) ?_
        rotate_left
        · (intro w hSw; (try dsimp only at hSw); go_simp; (try with_reducible rfl))
        (try simp only [Act.put, List.setIfInBounds_toArray, List.set_cons_zero, List.set_cons_succ])
        refine wpAnyH_take (i := 28) (oi := { dst := some 60, op := Op.pick (Operand.tmp 48) (Operand.const (Value.bool true)) (Operand.tmp 59), type := 4, pos := "outright.go:76", after := #[{ on := 16, ground := Ground.data }, { on := 27, ground := Ground.data }], guard := none }) (v := ?_) rfl (by kernel_rfl) (by kernel_rfl) (by kernel_rfl) (fun _ _ _ h => h) (Or.inl ⟨by rfl, ?_⟩) (by assumption) ?_
        rotate_left
        · (intro w hSw; (try dsimp only at hSw); go_simp; (try with_reducible rfl))
        (try simp only [Act.put, List.setIfInBounds_toArray, List.set_cons_zero, List.set_cons_succ])
        refine wpAnyH_take (i := 29) (oi := { dst := some 61, op := Op.move (Operand.tmp 60), type := 4, pos := "outright.go:76", after := #[{ on := 28, ground := Ground.data }, { on := 26, ground := Ground.chain }], guard := none }) (v := ?_) rfl (by kernel_rfl) (by kernel_rfl) (by kernel_rfl) (fun _ _ _ h => h) (Or.inl ⟨by rfl, ?_⟩) (by assumption) ?_
        rotate_left
        · (intro w hSw; (try dsimp only at hSw); go_simp; (try with_reducible rfl))
        (try simp only [Act.put, List.setIfInBounds_toArray, List.set_cons_zero, List.set_cons_succ])
        refine wpAnyH_take (i := 30) (oi := { dst := some 62, op := Op.load 29 (Operand.tmp 3), type := 29, pos := "outright.go:76", after := #[{ on := 29, ground := Ground.guard }], guard := some (29, false) }) (v := ?_) rfl (by kernel_rfl) (by kernel_rfl) (by kernel_rfl) (fun _ _ _ h => h) (Or.inl ⟨by rfl, ?_⟩) (by assumption) ?_
        rotate_left
        · (intro w hSw; (try dsimp only at hSw); go_simp; (try with_reducible rfl))
        (try simp only [Act.put, List.setIfInBounds_toArray, List.set_cons_zero, List.set_cons_succ])
        refine wpAnyH_take (i := 31) (oi := { dst := some 63, op := Op.load 29 (Operand.tmp 4), type := 29, pos := "outright.go:76", after := #[{ on := 29, ground := Ground.guard }], guard := some (29, false) }) (v := ?_) rfl (by kernel_rfl) (by kernel_rfl) (by kernel_rfl) (fun _ _ _ h => h) (Or.inl ⟨by rfl, ?_⟩) (by assumption) ?_
        rotate_left
        · (intro w hSw; (try dsimp only at hSw); go_simp; (try with_reducible rfl))
        (try simp only [Act.put, List.setIfInBounds_toArray, List.set_cons_zero, List.set_cons_succ])
        refine wpAnyH_ready (rs := [32]) (by kernel_rfl) (by simp) ?_
        refine AllReadyH.cons (o := { dst := some 64, op := Op.call { callee := Callee.value (Operand.func 11), args := #[Operand.tmp 62, Operand.tmp 63], argTypes := #[29, 29] }, type := 3, pos := "outright.go:76", after := #[{ on := 30, ground := Ground.data }, { on := 31, ground := Ground.data }, { on := 29, ground := Ground.chain }, { on := 29, ground := Ground.guard }], guard := some (29, false) }) rfl (fun K hK => ?_) AllReadyH.nil
        go_simp
        (go_at_call 11; ((with_reducible refine (HC7.out _ ?hq).mono ?_); (case hq => exact ((((((((Kp.refl Wc).drew.step hbR_0).step hbR_1).step hbR_2).step hbR_3).step hbR_4).step hbR_5).step hbR_6)); rintro x wR_7 ⟨rfl, hbR_7⟩))
        go_wp2_with fail
        refine hK.out _ _ ?_ (fun hH8 => ?_)
        · with_reducible exact sv3 (((((((((Kp.refl Wc).drew.step hbR_0).step hbR_1).step hbR_2).step hbR_3).step hbR_4).step hbR_5).step hbR_6).step hbR_7) qa0 qa1 qa2 qa3 qb0 qb1 qb2 qb3 qc0 qc1 qc2 qc3
        clear hK K hH7
        (try simp only [Act.put, List.setIfInBounds_toArray, List.set_cons_zero, List.set_cons_succ])
        refine wpAnyH_take (i := 33) (oi := { dst := some 65, op := Op.binOp BinOp.gtr 3 (Operand.tmp 64) (Operand.const (Value.int IntKind.i64 0)) 3, type := 4, pos := "outright.go:76", after := #[{ on := 32, ground := Ground.data }, { on := 29, ground := Ground.guard }], guard := some (29, false) }) (v := ?_) rfl (by kernel_rfl) (by kernel_rfl) (by kernel_rfl) (fun _ _ _ h => h) (Or.inl ⟨by rfl, ?_⟩) (by assumption) ?_
        rotate_left
        · (intro w hSw; (try dsimp only at hSw); go_simp; (try with_reducible rfl))
        (try simp only [Act.put, List.setIfInBounds_toArray, List.set_cons_zero, List.set_cons_succ])
        refine wpAnyH_take (i := 34) (oi := { dst := some 66, op := Op.move (Operand.tmp 65), type := 4, pos := "outright.go:76", after := #[{ on := 33, ground := Ground.data }, { on := 32, ground := Ground.chain }, { on := 29, ground := Ground.guard }], guard := some (29, false) }) (v := ?_) rfl (by kernel_rfl) (by kernel_rfl) (by kernel_rfl) (fun _ _ _ h => h) (Or.inl ⟨by rfl, ?_⟩) (by assumption) ?_
        rotate_left
        · (intro w hSw; (try dsimp only at hSw); go_simp; (try with_reducible rfl))
        (try simp only [Act.put, List.setIfInBounds_toArray, List.set_cons_zero, List.set_cons_succ])
        refine wpAnyH_take (i := 35) (oi := { dst := some 67, op := Op.load 29 (Operand.tmp 3), type := 29, pos := "outright.go:76", after := #[{ on := 34, ground := Ground.guard }], guard := some (34, true) }) (v := undef) rfl (by kernel_rfl) (by kernel_rfl) (by kernel_rfl) (fun _ _ _ h => h) (Or.inr ⟨by rfl, rfl⟩) (by assumption) ?_
        (try simp only [Act.put, List.setIfInBounds_toArray, List.set_cons_zero, List.set_cons_succ])
        refine wpAnyH_take (i := 36) (oi := { dst := some 68, op := Op.call { callee := Callee.value (Operand.func 19), args := #[Operand.tmp 67], argTypes := #[29] }, type := 22, pos := "outright.go:76", after := #[{ on := 35, ground := Ground.data }, { on := 34, ground := Ground.chain }, { on := 34, ground := Ground.guard }], guard := some (34, true) }) (v := undef) rfl (by kernel_rfl) (by kernel_rfl) (by kernel_rfl) (fun _ _ _ h => h) (Or.inr ⟨by rfl, rfl⟩) (by assumption) ?_
        (try simp only [Act.put, List.setIfInBounds_toArray, List.set_cons_zero, List.set_cons_succ])
        refine wpAnyH_take (i := 37) (oi := { dst := some 69, op := Op.load 29 (Operand.tmp 4), type := 29, pos := "outright.go:76", after := #[{ on := 34, ground := Ground.guard }], guard := some (34, true) }) (v := undef) rfl (by kernel_rfl) (by kernel_rfl) (by kernel_rfl) (fun _ _ _ h => h) (Or.inr ⟨by rfl, rfl⟩) (by assumption) ?_
        (try simp only [Act.put, List.setIfInBounds_toArray, List.set_cons_zero, List.set_cons_succ])
        refine wpAnyH_take (i := 38) (oi := { dst := some 70, op := Op.call { callee := Callee.value (Operand.func 19), args := #[Operand.tmp 69], argTypes := #[29] }, type := 22, pos := "outright.go:76", after := #[{ on := 37, ground := Ground.data }, { on := 36, ground := Ground.chain }, { on := 34, ground := Ground.guard }], guard := some (34, true) }) (v := undef) rfl (by kernel_rfl) (by kernel_rfl) (by kernel_rfl) (fun _ _ _ h => h) (Or.inr ⟨by rfl, rfl⟩) (by assumption) ?_
        (try simp only [Act.put, List.setIfInBounds_toArray, List.set_cons_zero, List.set_cons_succ])
        refine wpAnyH_take (i := 39) (oi := { dst := some 71, op := Op.binOp BinOp.lss 22 (Operand.tmp 68) (Operand.tmp 70) 22, type := 4, pos := "outright.go:76", after := #[{ on := 36, ground := Ground.data }, { on := 38, ground := Ground.data }, { on := 34, ground := Ground.guard }], guard := some (34, true) }) (v := undef) rfl (by kernel_rfl) (by kernel_rfl) (by kernel_rfl) (fun _ _ _ h => h) (Or.inr ⟨by rfl, rfl⟩) (by assumption) ?_
        (try simp only [Act.put, List.setIfInBounds_toArray, List.set_cons_zero, List.set_cons_succ])
        refine wpAnyH_take (i := 40) (oi := { dst := some 72, op := Op.pick (Operand.tmp 66) (Operand.tmp 71) (Operand.const (Value.bool false)), type := 4, pos := "outright.go:76", after := #[{ on := 34, ground := Ground.data }, { on := 39, ground := Ground.data }, { on := 29, ground := Ground.guard }], guard := some (29, false) }) (v := ?_) rfl (by kernel_rfl) (by kernel_rfl) (by kernel_rfl) (fun _ _ _ h => h) (Or.inl ⟨by rfl, ?_⟩) (by assumption) ?_
        rotate_left
        · (intro w hSw; (try dsimp only at hSw); go_simp; (try with_reducible rfl))
        (try simp only [Act.put, List.setIfInBounds_toArray, List.set_cons_zero, List.set_cons_succ])
        refine wpAnyH_take (i := 41) (oi := { dst := some 73, op := Op.pick (Operand.tmp 61) (Operand.const (Value.bool true)) (Operand.tmp 72), type := 4, pos := "outright.go:76", after := #[{ on := 29, ground := Ground.data }, { on := 40, ground := Ground.data }], guard := none }) (v := ?_) rfl (by kernel_rfl) (by kernel_rfl) (by kernel_rfl) (fun _ _ _ h => h) (Or.inl ⟨by rfl, ?_⟩) (by assumption) ?_
        rotate_left
        · (intro w hSw; (try dsimp only at hSw); go_simp; (try with_reducible rfl))
        (try simp only [Act.put, List.setIfInBounds_toArray, List.set_cons_zero, List.set_cons_succ])
        refine wpAnyH_done (by kernel_rfl) ?_ _
        clear hH8
        go_wp2_with fail
        go_meet
        exact ⟨rfl, (((((((((Kp.refl Wc).drew.step hbR_0).step hbR_1).step hbR_2).step hbR_3).step hbR_4).step hbR_5).step hbR_6).step hbR_7)⟩
      · have u2 : decide (0 ≤ t) = false := decide_eq_false c2
        clear c1 c2 f3 f4
        have HC0 := Lib.hid (fun (Y : World) (h : Kp Wc Y) => cmpBn _ (Na.out.keep h.out) (Nb.out.keep h.out) (HT.out.keep h.out) (by decide) (by decide) HS.out)
        have HC1 := Lib.hid (fun (Y : World) (h : Kp Wc Y) => cmpBn t (Nb.out.keep h.out) (Nc.out.keep h.out) (HT.out.keep h.out) (by decide) (by decide) HS2.out)
        have HC2 := Lib.hid (fun (Y : World) (h : Kp Wc Y) => addB 2150 (Na.out.keep h.out) (Nc.out.keep h.out) (HT.out.keep h.out) (by decide) (by decide) (by decide))
        have HC3 := Lib.hid (fun (Y : World) (h : Kp Wc Y) => addB 2150 (Nb.out.keep h.out) (Nc.out.keep h.out) (HT.out.keep h.out) (by decide) (by decide) (by decide))
        have HC4 := Lib.hid (fun (Y : World) (h : Kp Wc Y) (v : Value) (hv : NumB 0 Y v (ra + rc) 2150) (v2 : Value) (hv2 : NumB 0 Y v2 (rb + rc) 2150) => cmpBn _ hv hv2 (HT.out.keep h.out) (by decide) (by decide) HSA.out)
        have HC5 := Lib.hid (fun (Y : World) (h : Kp Wc Y) => cmpBn _ (Na.out.keep h.out) (Nb.out.keep h.out) (HT.out.keep h.out) (by decide) (by decide) HS.out)
        have HC6 := Lib.hid (fun (Y : World) (h : Kp Wc Y) => cmpBn _ (Na.out.keep h.out) (Nb.out.keep h.out) (HT.out.keep h.out) (by decide) (by decide) HS.out)
        refine wp_region_held_drew (S := fun w' => w'.cell? ⟨w2.heap.size, 0, none⟩ = some (.slice pa na ca) ∧ w'.cell? ⟨w2.heap.size, 1, none⟩ = some (.int .i64 ea) ∧ w'.cell? ⟨w2.heap.size, 2, none⟩ = some (.bool ga) ∧ w'.cell? ⟨w2.heap.size, 3, none⟩ = some (.bool false) ∧ w'.cell? ⟨w3.heap.size, 0, none⟩ = some (.slice pb nb cb) ∧ w'.cell? ⟨w3.heap.size, 1, none⟩ = some (.int .i64 eb) ∧ w'.cell? ⟨w3.heap.size, 2, none⟩ = some (.bool gb) ∧ w'.cell? ⟨w3.heap.size, 3, none⟩ = some (.bool false) ∧ w'.cell? ⟨w4.heap.size, 0, none⟩ = some (.slice pc nc cc) ∧ w'.cell? ⟨w4.heap.size, 1, none⟩ = some (.int .i64 ec) ∧ w'.cell? ⟨w4.heap.size, 2, none⟩ = some (.bool gc) ∧ w'.cell? ⟨w4.heap.size, 3, none⟩ = some (.bool false) ∧ Kp Wc w') (by kernel_rfl) ?_ (fun hH0 => ?_)
        · with_reducible exact sv3 (Kp.refl Wc).drew qa0 qa1 qa2 qa3 qb0 qb1 qb2 qb3 qc0 qc1 qc2 qc3
        refine wpAnyH_take (i := 0) (oi := { dst := some 32, op := Op.load 29 (Operand.tmp 3), type := 29, pos := "outright.go:76", after := #[], guard := none }) (v := ?_) rfl (by kernel_rfl) (by kernel_rfl) (by kernel_rfl) (fun _ _ _ h => h) (Or.inl ⟨by rfl, ?_⟩) (by assumption) ?_
        rotate_left
        · (intro w hSw; (try dsimp only at hSw); go_simp; (try with_reducible rfl))
        (try simp only [Act.put, List.setIfInBounds_toArray, List.set_cons_zero, List.set_cons_succ])
        refine wpAnyH_take (i := 1) (oi := { dst := some 33, op := Op.load 29 (Operand.tmp 4), type := 29, pos := "outright.go:76", after := #[], guard := none }) (v := ?_) rfl (by kernel_rfl) (by kernel_rfl) (by kernel_rfl) (fun _ _ _ h => h) (Or.inl ⟨by rfl, ?_⟩) (by assumption) ?_
        rotate_left
        · (intro w hSw; (try dsimp only at hSw); go_simp; (try with_reducible rfl))
        (try simp only [Act.put, List.setIfInBounds_toArray, List.set_cons_zero, List.set_cons_succ])
        refine wpAnyH_ready (rs := [2]) (by kernel_rfl) (by simp) ?_
        refine AllReadyH.cons (o := { dst := some 34, op := Op.call { callee := Callee.value (Operand.func 11), args := #[Operand.tmp 32, Operand.tmp 33], argTypes := #[29, 29] }, type := 3, pos := "outright.go:76", after := #[{ on := 0, ground := Ground.data }, { on := 1, ground := Ground.data }], guard := none }) rfl (fun K hK => ?_) AllReadyH.nil
        go_simp
        (go_at_call 11; ((with_reducible refine (HC0.out _ ?hq).mono ?_); (case hq => exact (Kp.refl Wc).drew); rintro x wR_0 ⟨rfl, hbR_0⟩))
        go_wp2_with fail
        refine hK.out _ _ ?_ (fun hH1 => ?_)
        · with_reducible exact sv3 ((Kp.refl Wc).drew.step hbR_0) qa0 qa1 qa2 qa3 qb0 qb1 qb2 qb3 qc0 qc1 qc2 qc3
        clear hK K hH0
        (try simp only [Act.put, List.setIfInBounds_toArray, List.set_cons_zero, List.set_cons_succ])
        refine wpAnyH_take (i := 3) (oi := { dst := some 35, op := Op.binOp BinOp.geq 3 (Operand.tmp 34) (Operand.const (Value.int IntKind.i64 0)) 3, type := 4, pos := "outright.go:76", after := #[{ on := 2, ground := Ground.data }], guard := none }) (v := ?_) rfl (by kernel_rfl) (by kernel_rfl) (by kernel_rfl) (fun _ _ _ h => h) (Or.inl ⟨by rfl, ?_⟩) (by assumption) ?_
        rotate_left
        · (intro w hSw; (try dsimp only at hSw); go_simp; (try with_reducible rfl))
        (try simp only [Act.put, List.setIfInBounds_toArray, List.set_cons_zero, List.set_cons_succ])
        refine wpAnyH_take (i := 4) (oi := { dst := some 36, op := Op.move (Operand.tmp 35), type := 4, pos := "outright.go:76", after := #[{ on := 3, ground := Ground.data }, { on := 2, ground := Ground.chain }], guard := none }) (v := ?_) rfl (by kernel_rfl) (by kernel_rfl) (by kernel_rfl) (fun _ _ _ h => h) (Or.inl ⟨by rfl, ?_⟩) (by assumption) ?_
        rotate_left
        · (intro w hSw; (try dsimp only at hSw); go_simp; (try with_reducible rfl))
        (try simp only [Act.put, List.setIfInBounds_toArray, List.set_cons_zero, List.set_cons_succ])
        refine wpAnyH_take (i := 5) (oi := { dst := some 37, op := Op.load 29 (Operand.tmp 4), type := 29, pos := "outright.go:76", after := #[{ on := 4, ground := Ground.guard }], guard := some (4, true) }) (v := ?_) rfl (by kernel_rfl) (by kernel_rfl) (by kernel_rfl) (fun _ _ _ h => h) (Or.inl ⟨by rfl, ?_⟩) (by assumption) ?_
        rotate_left
        · (intro w hSw; (try dsimp only at hSw); go_simp; (try with_reducible rfl))
        (try simp only [Act.put, List.setIfInBounds_toArray, List.set_cons_zero, List.set_cons_succ])
        refine wpAnyH_take (i := 6) (oi := { dst := some 38, op := Op.load 29 (Operand.tmp 5), type := 29, pos := "outright.go:76", after := #[{ on := 4, ground := Ground.guard }], guard := some (4, true) }) (v := ?_) rfl (by kernel_rfl) (by kernel_rfl) (by kernel_rfl) (fun _ _ _ h => h) (Or.inl ⟨by rfl, ?_⟩) (by assumption) ?_
        rotate_left
        · (intro w hSw; (try dsimp only at hSw); go_simp; (try with_reducible rfl))
        (try simp only [Act.put, List.setIfInBounds_toArray, List.set_cons_zero, List.set_cons_succ])
        refine wpAnyH_ready (rs := [7]) (by kernel_rfl) (by simp) ?_
        refine AllReadyH.cons (o := { dst := some 39, op := Op.call { callee := Callee.value (Operand.func 11), args := #[Operand.tmp 37, Operand.tmp 38], argTypes := #[29, 29] }, type := 3, pos := "outright.go:76", after := #[{ on := 5, ground := Ground.data }, { on := 6, ground := Ground.data }, { on := 4, ground := Ground.chain }, { on := 4, ground := Ground.guard }], guard := some (4, true) }) rfl (fun K hK => ?_) AllReadyH.nil
        go_simp
        (go_at_call 11; ((with_reducible refine (HC1.out _ ?hq).mono ?_); (case hq => exact ((Kp.refl Wc).drew.step hbR_0)); rintro x wR_1 ⟨rfl, hbR_1⟩))
        go_wp2_with fail
        refine hK.out _ _ ?_ (fun hH2 => ?_)
        · with_reducible exact sv3 (((Kp.refl Wc).drew.step hbR_0).step hbR_1) qa0 qa1 qa2 qa3 qb0 qb1 qb2 qb3 qc0 qc1 qc2 qc3
        clear hK K hH1
        (try simp only [Act.put, List.setIfInBounds_toArray, List.set_cons_zero, List.set_cons_succ])
        refine wpAnyH_take (i := 8) (oi := { dst := some 40, op := Op.binOp BinOp.geq 3 (Operand.tmp 39) (Operand.const (Value.int IntKind.i64 0)) 3, type := 4, pos := "outright.go:76", after := #[{ on := 7, ground := Ground.data }, { on := 4, ground := Ground.guard }], guard := some (4, true) }) (v := ?_) rfl (by kernel_rfl) (by kernel_rfl) (by kernel_rfl) (fun _ _ _ h => h) (Or.inl ⟨by rfl, ?_⟩) (by assumption) ?_
        rotate_left
        · (intro w hSw; (try dsimp only at hSw); go_simp; (try with_reducible rfl))
        (try simp only [Act.put, List.setIfInBounds_toArray, List.set_cons_zero, List.set_cons_succ])
        refine wpAnyH_take (i := 9) (oi := { dst := some 41, op := Op.pick (Operand.tmp 36) (Operand.tmp 40) (Operand.const (Value.bool false)), type := 4, pos := "outright.go:76", after := #[{ on := 4, ground := Ground.data }, { on := 8, ground := Ground.data }], guard := none }) (v := ?_) rfl (by kernel_rfl) (by kernel_rfl) (by kernel_rfl) (fun _ _ _ h => h) (Or.inl ⟨by rfl, ?_⟩) (by assumption) ?_
        rotate_left
        · (intro w hSw; (try dsimp only at hSw); go_simp; (try with_reducible rfl))
        (try simp only [Act.put, List.setIfInBounds_toArray, List.set_cons_zero, List.set_cons_succ])
        refine wpAnyH_take (i := 10) (oi := { dst := some 42, op := Op.move (Operand.tmp 41), type := 4, pos := "outright.go:76", after := #[{ on := 9, ground := Ground.data }, { on := 7, ground := Ground.chain }], guard := none }) (v := ?_) rfl (by kernel_rfl) (by kernel_rfl) (by kernel_rfl) (fun _ _ _ h => h) (Or.inl ⟨by rfl, ?_⟩) (by assumption) ?_
        rotate_left
        · (intro w hSw; (try dsimp only at hSw); go_simp; (try with_reducible rfl))
        (try simp only [Act.put, List.setIfInBounds_toArray, List.set_cons_zero, List.set_cons_succ])
        refine wpAnyH_take (i := 11) (oi := { dst := some 43, op := Op.load 29 (Operand.tmp 3), type := 29, pos := "outright.go:76", after := #[{ on := 10, ground := Ground.guard }], guard := some (10, true) }) (v := undef) rfl (by kernel_rfl) (by kernel_rfl) (by kernel_rfl) (fun _ _ _ h => h) (Or.inr ⟨by rfl, rfl⟩) (by assumption) ?_
        (try simp only [Act.put, List.setIfInBounds_toArray, List.set_cons_zero, List.set_cons_succ])
        refine wpAnyH_take (i := 12) (oi := { dst := some 44, op := Op.load 29 (Operand.tmp 5), type := 29, pos := "outright.go:76", after := #[{ on := 10, ground := Ground.guard }], guard := some (10, true) }) (v := undef) rfl (by kernel_rfl) (by kernel_rfl) (by kernel_rfl) (fun _ _ _ h => h) (Or.inr ⟨by rfl, rfl⟩) (by assumption) ?_
        (try simp only [Act.put, List.setIfInBounds_toArray, List.set_cons_zero, List.set_cons_succ])
        refine wpAnyH_take (i := 13) (oi := { dst := some 45, op := Op.call { callee := Callee.value (Operand.func 11), args := #[Operand.tmp 43, Operand.tmp 44], argTypes := #[29, 29] }, type := 3, pos := "outright.go:76", after := #[{ on := 11, ground := Ground.data }, { on := 12, ground := Ground.data }, { on := 10, ground := Ground.chain }, { on := 10, ground := Ground.guard }], guard := some (10, true) }) (v := undef) rfl (by kernel_rfl) (by kernel_rfl) (by kernel_rfl) (fun _ _ _ h => h) (Or.inr ⟨by rfl, rfl⟩) (by assumption) ?_
        (try simp only [Act.put, List.setIfInBounds_toArray, List.set_cons_zero, List.set_cons_succ])
        refine wpAnyH_take (i := 14) (oi := { dst := some 46, op := Op.binOp BinOp.lss 3 (Operand.tmp 45) (Operand.const (Value.int IntKind.i64 0)) 3, type := 4, pos := "outright.go:76", after := #[{ on := 13, ground := Ground.data }, { on := 10, ground := Ground.guard }], guard := some (10, true) }) (v := undef) rfl (by kernel_rfl) (by kernel_rfl) (by kernel_rfl) (fun _ _ _ h => h) (Or.inr ⟨by rfl, rfl⟩) (by assumption) ?_
        (try simp only [Act.put, List.setIfInBounds_toArray, List.set_cons_zero, List.set_cons_succ])
        refine wpAnyH_take (i := 15) (oi := { dst := some 47, op := Op.pick (Operand.tmp 42) (Operand.tmp 46) (Operand.const (Value.bool false)), type := 4, pos := "outright.go:76", after := #[{ on := 10, ground := Ground.data }, { on := 14, ground := Ground.data }], guard := none }) (v := ?_) rfl (by kernel_rfl) (by kernel_rfl) (by kernel_rfl) (fun _ _ _ h => h) (Or.inl ⟨by rfl, ?_⟩) (by assumption) ?_
        rotate_left
        · (intro w hSw; (try dsimp only at hSw); go_simp; (try with_reducible rfl))
        (try simp only [Act.put, List.setIfInBounds_toArray, List.set_cons_zero, List.set_cons_succ])
        refine wpAnyH_take (i := 16) (oi := { dst := some 48, op := Op.move (Operand.tmp 47), type := 4, pos := "outright.go:76", after := #[{ on := 15, ground := Ground.data }, { on := 13, ground := Ground.chain }], guard := none }) (v := ?_) rfl (by kernel_rfl) (by kernel_rfl) (by kernel_rfl) (fun _ _ _ h => h) (Or.inl ⟨by rfl, ?_⟩) (by assumption) ?_
        rotate_left
        · (intro w hSw; (try dsimp only at hSw); go_simp; (try with_reducible rfl))
        (try simp only [Act.put, List.setIfInBounds_toArray, List.set_cons_zero, List.set_cons_succ])
        refine wpAnyH_take (i := 17) (oi := { dst := some 49, op := Op.load 29 (Operand.tmp 3), type := 29, pos := "outright.go:76", after := #[{ on := 16, ground := Ground.guard }], guard := some (16, false) }) (v := ?_) rfl (by kernel_rfl) (by kernel_rfl) (by kernel_rfl) (fun _ _ _ h => h) (Or.inl ⟨by rfl, ?_⟩) (by assumption) ?_
        rotate_left
        · (intro w hSw; (try dsimp only at hSw); go_simp; (try with_reducible rfl))
        (try simp only [Act.put, List.setIfInBounds_toArray, List.set_cons_zero, List.set_cons_succ])
        refine wpAnyH_take (i := 18) (oi := { dst := some 50, op := Op.load 29 (Operand.tmp 5), type := 29, pos := "outright.go:76", after := #[{ on := 16, ground := Ground.guard }], guard := some (16, false) }) (v := ?_) rfl (by kernel_rfl) (by kernel_rfl) (by kernel_rfl) (fun _ _ _ h => h) (Or.inl ⟨by rfl, ?_⟩) (by assumption) ?_
        rotate_left
        · (intro w hSw; (try dsimp only at hSw); go_simp; (try with_reducible rfl))
        (try simp only [Act.put, List.setIfInBounds_toArray, List.set_cons_zero, List.set_cons_succ])
        refine wpAnyH_take (i := 20) (oi := { dst := some 52, op := Op.load 29 (Operand.tmp 4), type := 29, pos := "outright.go:76", after := #[{ on := 16, ground := Ground.guard }], guard := some (16, false) }) (v := ?_) rfl (by kernel_rfl) (by kernel_rfl) (by kernel_rfl) (fun _ _ _ h => h) (Or.inl ⟨by rfl, ?_⟩) (by assumption) ?_
        rotate_left
        · (intro w hSw; (try dsimp only at hSw); go_simp; (try with_reducible rfl))
        (try simp only [Act.put, List.setIfInBounds_toArray, List.set_cons_zero, List.set_cons_succ])
        refine wpAnyH_take (i := 21) (oi := { dst := some 53, op := Op.load 29 (Operand.tmp 5), type := 29, pos := "outright.go:76", after := #[{ on := 16, ground := Ground.guard }], guard := some (16, false) }) (v := ?_) rfl (by kernel_rfl) (by kernel_rfl) (by kernel_rfl) (fun _ _ _ h => h) (Or.inl ⟨by rfl, ?_⟩) (by assumption) ?_
        rotate_left
        · (intro w hSw; (try dsimp only at hSw); go_simp; (try with_reducible rfl))
        (try simp only [Act.put, List.setIfInBounds_toArray, List.set_cons_zero, List.set_cons_succ])
        refine wpAnyH_take (i := 24) (oi := { dst := some 56, op := Op.load 29 (Operand.tmp 3), type := 29, pos := "outright.go:76", after := #[{ on := 16, ground := Ground.guard }], guard := some (16, false) }) (v := ?_) rfl (by kernel_rfl) (by kernel_rfl) (by kernel_rfl) (fun _ _ _ h => h) (Or.inl ⟨by rfl, ?_⟩) (by assumption) ?_
        rotate_left
        · (intro w hSw; (try dsimp only at hSw); go_simp; (try with_reducible rfl))
        (try simp only [Act.put, List.setIfInBounds_toArray, List.set_cons_zero, List.set_cons_succ])
        refine wpAnyH_take (i := 25) (oi := { dst := some 57, op := Op.load 29 (Operand.tmp 4), type := 29, pos := "outright.go:76", after := #[{ on := 16, ground := Ground.guard }], guard := some (16, false) }) (v := ?_) rfl (by kernel_rfl) (by kernel_rfl) (by kernel_rfl) (fun _ _ _ h => h) (Or.inl ⟨by rfl, ?_⟩) (by assumption) ?_
        rotate_left
        · (intro w hSw; (try dsimp only at hSw); go_simp; (try with_reducible rfl))
        (try simp only [Act.put, List.setIfInBounds_toArray, List.set_cons_zero, List.set_cons_succ])
        refine wpAnyH_ready (rs := [19]) (by kernel_rfl) (by simp) ?_
        refine AllReadyH.cons (o := { dst := some 51, op := Op.call { callee := Callee.value (Operand.func 10), args := #[Operand.tmp 49, Operand.tmp 50], argTypes := #[29, 29] }, type := 29, pos := "outright.go:76", after := #[{ on := 17, ground := Ground.data }, { on := 18, ground := Ground.data }, { on := 16, ground := Ground.chain }, { on := 16, ground := Ground.guard }], guard := some (16, false) }) rfl (fun K hK => ?_) AllReadyH.nil
        go_simp
        (go_at_call 10; ((with_reducible refine (HC2.out _ ?hq).mono ?_); (case hq => exact (((Kp.refl Wc).drew.step hbR_0).step hbR_1)); rintro x wR_2 ⟨vR_2, rfl, MR_2, hbR_2⟩; obtain ⟨pR_2, nR_2, cR_2, eR_2, gR_2, rfl⟩ := NumB.form MR_2))
        go_wp2_with fail
        refine hK.out _ _ ?_ (fun hH3 => ?_)
        · with_reducible exact sv3 ((((Kp.refl Wc).drew.step hbR_0).step hbR_1).step hbR_2) qa0 qa1 qa2 qa3 qb0 qb1 qb2 qb3 qc0 qc1 qc2 qc3
        clear hK K hH2
        (try simp only [Act.put, List.setIfInBounds_toArray, List.set_cons_zero, List.set_cons_succ])
        refine wpAnyH_ready (rs := [22]) (by kernel_rfl) (by simp) ?_
        refine AllReadyH.cons (o := { dst := some 54, op := Op.call { callee := Callee.value (Operand.func 10), args := #[Operand.tmp 52, Operand.tmp 53], argTypes := #[29, 29] }, type := 29, pos := "outright.go:76", after := #[{ on := 20, ground := Ground.data }, { on := 21, ground := Ground.data }, { on := 19, ground := Ground.chain }, { on := 16, ground := Ground.guard }], guard := some (16, false) }) rfl (fun K hK => ?_) AllReadyH.nil
        go_simp
        (go_at_call 10; ((with_reducible refine (HC3.out _ ?hq).mono ?_); (case hq => exact ((((Kp.refl Wc).drew.step hbR_0).step hbR_1).step hbR_2)); rintro x wR_3 ⟨vR_3, rfl, MR_3, hbR_3⟩; obtain ⟨pR_3, nR_3, cR_3, eR_3, gR_3, rfl⟩ := NumB.form MR_3))
        go_wp2_with fail
        refine hK.out _ _ ?_ (fun hH4 => ?_)
        · with_reducible exact sv3 (((((Kp.refl Wc).drew.step hbR_0).step hbR_1).step hbR_2).step hbR_3) qa0 qa1 qa2 qa3 qb0 qb1 qb2 qb3 qc0 qc1 qc2 qc3
        clear hK K hH3
        (try simp only [Act.put, List.setIfInBounds_toArray, List.set_cons_zero, List.set_cons_succ])
        refine wpAnyH_ready (rs := [23]) (by kernel_rfl) (by simp) ?_
        refine AllReadyH.cons (o := { dst := some 55, op := Op.call { callee := Callee.value (Operand.func 11), args := #[Operand.tmp 51, Operand.tmp 54], argTypes := #[29, 29] }, type := 3, pos := "outright.go:76", after := #[{ on := 19, ground := Ground.data }, { on := 22, ground := Ground.data }, { on := 22, ground := Ground.chain }, { on := 16, ground := Ground.guard }], guard := some (16, false) }) rfl (fun K hK => ?_) AllReadyH.nil
        go_simp
        (go_at_call 11; ((with_reducible refine (HC4.out _ ?hq _ ?ha0 _ ?ha1).mono ?_); (case hq => exact (((((Kp.refl Wc).drew.step hbR_0).step hbR_1).step hbR_2).step hbR_3)); (case ha0 => exact (NumB.keep MR_2 hbR_3)); (case ha1 => exact MR_3); rintro x wR_4 ⟨rfl, hbR_4⟩))
        go_wp2_with fail
        refine hK.out _ _ ?_ (fun hH5 => ?_)
        · with_reducible exact sv3 ((((((Kp.refl Wc).drew.step hbR_0).step hbR_1).step hbR_2).step hbR_3).step hbR_4) qa0 qa1 qa2 qa3 qb0 qb1 qb2 qb3 qc0 qc1 qc2 qc3
        clear hK K hH4
        (try simp only [Act.put, List.setIfInBounds_toArray, List.set_cons_zero, List.set_cons_succ])
        refine wpAnyH_ready (rs := [26]) (by kernel_rfl) (by simp) ?_
        refine AllReadyH.cons (o := { dst := some 58, op := Op.call { callee := Callee.value (Operand.func 11), args := #[Operand.tmp 56, Operand.tmp 57], argTypes := #[29, 29] }, type := 3, pos := "outright.go:76", after := #[{ on := 24, ground := Ground.data }, { on := 25, ground := Ground.data }, { on := 23, ground := Ground.chain }, { on := 16, ground := Ground.guard }], guard := some (16, false) }) rfl (fun K hK => ?_) AllReadyH.nil
        go_simp
        (go_at_call 11; ((with_reducible refine (HC5.out _ ?hq).mono ?_); (case hq => exact ((((((Kp.refl Wc).drew.step hbR_0).step hbR_1).step hbR_2).step hbR_3).step hbR_4)); rintro x wR_5 ⟨rfl, hbR_5⟩))
        go_wp2_with fail
        refine hK.out _ _ ?_ (fun hH6 => ?_)
        · with_reducible exact sv3 (((((((Kp.refl Wc).drew.step hbR_0).step hbR_1).step hbR_2).step hbR_3).step hbR_4).step hbR_5) qa0 qa1 qa2 qa3 qb0 qb1 qb2 qb3 qc0 qc1 qc2 qc3
        clear hK K hH5
        (try simp only [Act.put, List.setIfInBounds_toArray, List.set_cons_zero, List.set_cons_succ])
        refine wpAnyH_take (i := 27) (oi := { dst := some 59, op := Op.binOp BinOp.neq 3 (Operand.tmp 55) (Operand.tmp 58) 3, type := 4, pos := "outright.go:76", after := #[{ on := 23, ground := Ground.data }, { on := 26, ground := Ground.data }, { on := 16, ground := Ground.guard }], guard := some (16, false) }) (v := ?_) rfl (by kernel_rfl) (by kernel_rfl) (by kernel_rfl) (fun _ _ _ h => h) (Or.inl ⟨by rfl, ?_⟩) (by assumption) ?_
        rotate_left
        · (intro w hSw; (try dsimp only at hSw); go_simp; (try with_reducible rfl))
        (try simp only [Act.put, List.setIfInBounds_toArray, List.set_cons_zero, List.set_cons_succ])
        refine wpAnyH_take (i := 28) (oi := { dst := some 60, op := Op.pick (Operand.tmp 48) (Operand.const (Value.bool true)) (Operand.tmp 59), type := 4, pos := "outright.go:76", after := #[{ on := 16, ground := Ground.data }, { on := 27, ground := Ground.data }], guard := none }) (v := ?_) rfl (by kernel_rfl) (by kernel_rfl) (by kernel_rfl) (fun _ _ _ h => h) (Or.inl ⟨by rfl, ?_⟩) (by assumption) ?_
        rotate_left
        · (intro w hSw; (try dsimp only at hSw); go_simp; (try with_reducible rfl))
        (try simp only [Act.put, List.setIfInBounds_toArray, List.set_cons_zero, List.set_cons_succ])
        refine wpAnyH_take (i := 29) (oi := { dst := some 61, op := Op.move (Operand.tmp 60), type := 4, pos := "outright.go:76", after := #[{ on := 28, ground := Ground.data }, { on := 26, ground := Ground.chain }], guard := none }) (v := ?_) rfl (by kernel_rfl) (by kernel_rfl) (by kernel_rfl) (fun _ _ _ h => h) (Or.inl ⟨by rfl, ?_⟩) (by assumption) ?_
        rotate_left
        · (intro w hSw; (try dsimp only at hSw); go_simp; (try with_reducible rfl))
        (try simp only [Act.put, List.setIfInBounds_toArray, List.set_cons_zero, List.set_cons_succ])
        refine wpAnyH_take (i := 30) (oi := { dst := some 62, op := Op.load 29 (Operand.tmp 3), type := 29, pos := "outright.go:76", after := #[{ on := 29, ground := Ground.guard }], guard := some (29, false) }) (v := ?_) rfl (by kernel_rfl) (by kernel_rfl) (by kernel_rfl) (fun _ _ _ h => h) (Or.inl ⟨by rfl, ?_⟩) (by assumption) ?_
        rotate_left
        · (intro w hSw; (try dsimp only at hSw); go_simp; (try with_reducible rfl))
        (try simp only [Act.put, List.setIfInBounds_toArray, List.set_cons_zero, List.set_cons_succ])
        refine wpAnyH_take (i := 31) (oi := { dst := some 63, op := Op.load 29 (Operand.tmp 4), type := 29, pos := "outright.go:76", after := #[{ on := 29, ground := Ground.guard }], guard := some (29, false) }) (v := ?_) rfl (by kernel_rfl) (by kernel_rfl) (by kernel_rfl) (fun _ _ _ h => h) (Or.inl ⟨by rfl, ?_⟩) (by assumption) ?_
        rotate_left
        · (intro w hSw; (try dsimp only at hSw); go_simp; (try with_reducible rfl))
        (try simp only [Act.put, List.setIfInBounds_toArray, List.set_cons_zero, List.set_cons_succ])
        refine wpAnyH_ready (rs := [32]) (by kernel_rfl) (by simp) ?_
        refine AllReadyH.cons (o := { dst := some 64, op := Op.call { callee := Callee.value (Operand.func 11), args := #[Operand.tmp 62, Operand.tmp 63], argTypes := #[29, 29] }, type := 3, pos := "outright.go:76", after := #[{ on := 30, ground := Ground.data }, { on := 31, ground := Ground.data }, { on := 29, ground := Ground.chain }, { on := 29, ground := Ground.guard }], guard := some (29, false) }) rfl (fun K hK => ?_) AllReadyH.nil
        go_simp
        (go_at_call 11; ((with_reducible refine (HC6.out _ ?hq).mono ?_); (case hq => exact (((((((Kp.refl Wc).drew.step hbR_0).step hbR_1).step hbR_2).step hbR_3).step hbR_4).step hbR_5)); rintro x wR_6 ⟨rfl, hbR_6⟩))
        go_wp2_with fail
        refine hK.out _ _ ?_ (fun hH7 => ?_)
        · with_reducible exact sv3 ((((((((Kp.refl Wc).drew.step hbR_0).step hbR_1).step hbR_2).step hbR_3).step hbR_4).step hbR_5).step hbR_6) qa0 qa1 qa2 qa3 qb0 qb1 qb2 qb3 qc0 qc1 qc2 qc3
        clear hK K hH6
        (try simp only [Act.put, List.setIfInBounds_toArray, List.set_cons_zero, List.set_cons_succ])
        refine wpAnyH_take (i := 33) (oi := { dst := some 65, op := Op.binOp BinOp.gtr 3 (Operand.tmp 64) (Operand.const (Value.int IntKind.i64 0)) 3, type := 4, pos := "outright.go:76", after := #[{ on := 32, ground := Ground.data }, { on := 29, ground := Ground.guard }], guard := some (29, false) }) (v := ?_) rfl (by kernel_rfl) (by kernel_rfl) (by kernel_rfl) (fun _ _ _ h => h) (Or.inl ⟨by rfl, ?_⟩) (by assumption) ?_
        rotate_left
        · (intro w hSw; (try dsimp only at hSw); go_simp; (try with_reducible rfl))
        (try simp only [Act.put, List.setIfInBounds_toArray, List.set_cons_zero, List.set_cons_succ])
        refine wpAnyH_take (i := 34) (oi := { dst := some 66, op := Op.move (Operand.tmp 65), type := 4, pos := "outright.go:76", after := #[{ on := 33, ground := Ground.data }, { on := 32, ground := Ground.chain }, { on := 29, ground := Ground.guard }], guard := some (29, false) }) (v := ?_) rfl (by kernel_rfl) (by kernel_rfl) (by kernel_rfl) (fun _ _ _ h => h) (Or.inl ⟨by rfl, ?_⟩) (by assumption) ?_
        rotate_left
        · (intro w hSw; (try dsimp only at hSw); go_simp; (try with_reducible rfl))
        (try simp only [Act.put, List.setIfInBounds_toArray, List.set_cons_zero, List.set_cons_succ])
        refine wpAnyH_take (i := 35) (oi := { dst := some 67, op := Op.load 29 (Operand.tmp 3), type := 29, pos := "outright.go:76", after := #[{ on := 34, ground := Ground.guard }], guard := some (34, true) }) (v := undef) rfl (by kernel_rfl) (by kernel_rfl) (by kernel_rfl) (fun _ _ _ h => h) (Or.inr ⟨by rfl, rfl⟩) (by assumption) ?_
        (try simp only [Act.put, List.setIfInBounds_toArray, List.set_cons_zero, List.set_cons_succ])
        refine wpAnyH_take (i := 36) (oi := { dst := some 68, op := Op.call { callee := Callee.value (Operand.func 19), args := #[Operand.tmp 67], argTypes := #[29] }, type := 22, pos := "outright.go:76", after := #[{ on := 35, ground := Ground.data }, { on := 34, ground := Ground.chain }, { on := 34, ground := Ground.guard }], guard := some (34, true) }) (v := undef) rfl (by kernel_rfl) (by kernel_rfl) (by kernel_rfl) (fun _ _ _ h => h) (Or.inr ⟨by rfl, rfl⟩) (by assumption) ?_
        (try simp only [Act.put, List.setIfInBounds_toArray, List.set_cons_zero, List.set_cons_succ])
        refine wpAnyH_take (i := 37) (oi := { dst := some 69, op := Op.load 29 (Operand.tmp 4), type := 29, pos := "outright.go:76", after := #[{ on := 34, ground := Ground.guard }], guard := some (34, true) }) (v := undef) rfl (by kernel_rfl) (by kernel_rfl) (by kernel_rfl) (fun _ _ _ h => h) (Or.inr ⟨by rfl, rfl⟩) (by assumption) ?_
        (try simp only [Act.put, List.setIfInBounds_toArray, List.set_cons_zero, List.set_cons_succ])
        refine wpAnyH_take (i := 38) (oi := { dst := some 70, op := Op.call { callee := Callee.value (Operand.func 19), args := #[Operand.tmp 69], argTypes := #[29] }, type := 22, pos := "outright.go:76", after := #[{ on := 37, ground := Ground.data }, { on := 36, ground := Ground.chain }, { on := 34, ground := Ground.guard }], guard := some (34, true) }) (v := undef) rfl (by kernel_rfl) (by kernel_rfl) (by kernel_rfl) (fun _ _ _ h => h) (Or.inr ⟨by rfl, rfl⟩) (by assumption) ?_
        (try simp only [Act.put, List.setIfInBounds_toArray, List.set_cons_zero, List.set_cons_succ])
        refine wpAnyH_take (i := 39) (oi := { dst := some 71, op := Op.binOp BinOp.lss 22 (Operand.tmp 68) (Operand.tmp 70) 22, type := 4, pos := "outright.go:76", after := #[{ on := 36, ground := Ground.data }, { on := 38, ground := Ground.data }, { on := 34, ground := Ground.guard }], guard := some (34, true) }) (v := undef) rfl (by kernel_rfl) (by kernel_rfl) (by kernel_rfl) (fun _ _ _ h => h) (Or.inr ⟨by rfl, rfl⟩) (by assumption) ?_
        (try simp only [Act.put, List.setIfInBounds_toArray, List.set_cons_zero, List.set_cons_succ])
        refine wpAnyH_take (i := 40) (oi := { dst := some 72, op := Op.pick (Operand.tmp 66) (Operand.tmp 71) (Operand.const (Value.bool false)), type := 4, pos := "outright.go:76", after := #[{ on := 34, ground := Ground.data }, { on := 39, ground := Ground.data }, { on := 29, ground := Ground.guard }], guard := some (29, false) }) (v := ?_) rfl (by kernel_rfl) (by kernel_rfl) (by kernel_rfl) (fun _ _ _ h => h) (Or.inl ⟨by rfl, ?_⟩) (by assumption) ?_
        rotate_left
        · (intro w hSw; (try dsimp only at hSw); go_simp; (try with_reducible rfl))
        (try simp only [Act.put, List.setIfInBounds_toArray, List.set_cons_zero, List.set_cons_succ])
        refine wpAnyH_take (i := 41) (oi := { dst := some 73, op := Op.pick (Operand.tmp 61) (Operand.const (Value.bool true)) (Operand.tmp 72), type := 4, pos := "outright.go:76", after := #[{ on := 29, ground := Ground.data }, { on := 40, ground := Ground.data }], guard := none }) (v := ?_) rfl (by kernel_rfl) (by kernel_rfl) (by kernel_rfl) (fun _ _ _ h => h) (Or.inl ⟨by rfl, ?_⟩) (by assumption) ?_
        rotate_left
        · (intro w hSw; (try dsimp only at hSw); go_simp; (try with_reducible rfl))
        (try simp only [Act.put, List.setIfInBounds_toArray, List.set_cons_zero, List.set_cons_succ])
        refine wpAnyH_done (by kernel_rfl) ?_ _
        clear hH7
        go_wp2_with fail
        go_meet
        exact ⟨rfl, ((((((((Kp.refl Wc).drew.step hbR_0).step hbR_1).step hbR_2).step hbR_3).step hbR_4).step hbR_5).step hbR_6)⟩
    · have c1 : (0 : Int) ≤ 1 := by decide
      have HF4 := Lib.hid (f4 (by decide))
      by_cases c2 : 0 ≤ t
      · have u2 : decide (0 ≤ t) = true := decide_eq_true c2
        have u3 := f3 c1 c2
        clear c1 c2 f3 f4
        have HC0 := Lib.hid (fun (Y : World) (h : Kp Wc Y) => cmpBn _ (Na.out.keep h.out) (Nb.out.keep h.out) (HT.out.keep h.out) (by decide) (by decide) HS.out)
        have HC1 := Lib.hid (fun (Y : World) (h : Kp Wc Y) => cmpBn t (Nb.out.keep h.out) (Nc.out.keep h.out) (HT.out.keep h.out) (by decide) (by decide) HS2.out)
        have HC2 := Lib.hid (fun (Y : World) (h : Kp Wc Y) => cmpBn r (Na.out.keep h.out) (Nc.out.keep h.out) (HT.out.keep h.out) (by decide) (by decide) HS3.out)
        have HC3 := Lib.hid (fun (Y : World) (h : Kp Wc Y) => addB 2150 (Na.out.keep h.out) (Nc.out.keep h.out) (HT.out.keep h.out) (by decide) (by decide) (by decide))
        have HC4 := Lib.hid (fun (Y : World) (h : Kp Wc Y) => addB 2150 (Nb.out.keep h.out) (Nc.out.keep h.out) (HT.out.keep h.out) (by decide) (by decide) (by decide))
        have HC5 := Lib.hid (fun (Y : World) (h : Kp Wc Y) (v : Value) (hv : NumB 0 Y v (ra + rc) 2150) (v2 : Value) (hv2 : NumB 0 Y v2 (rb + rc) 2150) => cmpBn _ hv hv2 (HT.out.keep h.out) (by decide) (by decide) HSA.out)
        have HC6 := Lib.hid (fun (Y : World) (h : Kp Wc Y) => cmpBn _ (Na.out.keep h.out) (Nb.out.keep h.out) (HT.out.keep h.out) (by decide) (by decide) HS.out)
        have HC7 := Lib.hid (fun (Y : World) (h : Kp Wc Y) => cmpBn _ (Na.out.keep h.out) (Nb.out.keep h.out) (HT.out.keep h.out) (by decide) (by decide) HS.out)
        have HC8 := Lib.hid (fun (Y : World) (h : Kp Wc Y) => floatB (Na.out.keep h.out))
        have HC9 := Lib.hid (fun (Y : World) (h : Kp Wc Y) => floatB (Nb.out.keep h.out))
        refine wp_region_held_drew (S := fun w' => w'.cell? ⟨w2.heap.size, 0, none⟩ = some (.slice pa na ca) ∧ w'.cell? ⟨w2.heap.size, 1, none⟩ = some (.int .i64 ea) ∧ w'.cell? ⟨w2.heap.size, 2, none⟩ = some (.bool ga) ∧ w'.cell? ⟨w2.heap.size, 3, none⟩ = some (.bool false) ∧ w'.cell? ⟨w3.heap.size, 0, none⟩ = some (.slice pb nb cb) ∧ w'.cell? ⟨w3.heap.size, 1, none⟩ = some (.int .i64 eb) ∧ w'.cell? ⟨w3.heap.size, 2, none⟩ = some (.bool gb) ∧ w'.cell? ⟨w3.heap.size, 3, none⟩ = some (.bool false) ∧ w'.cell? ⟨w4.heap.size, 0, none⟩ = some (.slice pc nc cc) ∧ w'.cell? ⟨w4.heap.size, 1, none⟩ = some (.int .i64 ec) ∧ w'.cell? ⟨w4.heap.size, 2, none⟩ = some (.bool gc) ∧ w'.cell? ⟨w4.heap.size, 3, none⟩ = some (.bool false) ∧ Kp Wc w') (by kernel_rfl) ?_ (fun hH0 => ?_)
        · with_reducible exact sv3 (Kp.refl Wc).drew qa0 qa1 qa2 qa3 qb0 qb1 qb2 qb3 qc0 qc1 qc2 qc3
        refine wpAnyH_take (i := 0) (oi := { dst := some 32, op := Op.load 29 (Operand.tmp 3), type := 29, pos := "outright.go:76", after := #[], guard := none }) (v := ?_) rfl (by kernel_rfl) (by kernel_rfl) (by kernel_rfl) (fun _ _ _ h => h) (Or.inl ⟨by rfl, ?_⟩) (by assumption) ?_
        rotate_left
        · (intro w hSw; (try dsimp only at hSw); go_simp; (try with_reducible rfl))
        (try simp only [Act.put, List.setIfInBounds_toArray, List.set_cons_zero, List.set_cons_succ])
        refine wpAnyH_take (i := 1) (oi := { dst := some 33, op := Op.load 29 (Operand.tmp 4), type := 29, pos := "outright.go:76", after := #[], guard := none }) (v := ?_) rfl (by kernel_rfl) (by kernel_rfl) (by kernel_rfl) (fun _ _ _ h => h) (Or.inl ⟨by rfl, ?_⟩) (by assumption) ?_
        rotate_left
        · (intro w hSw; (try dsimp only at hSw); go_simp; (try with_reducible rfl))
        (try simp only [Act.put, List.setIfInBounds_toArray, List.set_cons_zero, List.set_cons_succ])
        refine wpAnyH_ready (rs := [2]) (by kernel_rfl) (by simp) ?_
        refine AllReadyH.cons (o := { dst := some 34, op := Op.call { callee := Callee.value (Operand.func 11), args := #[Operand.tmp 32, Operand.tmp 33], argTypes := #[29, 29] }, type := 3, pos := "outright.go:76", after := #[{ on := 0, ground := Ground.data }, { on := 1, ground := Ground.data }], guard := none }) rfl (fun K hK => ?_) AllReadyH.nil
        go_simp
        (go_at_call 11; ((with_reducible refine (HC0.out _ ?hq).mono ?_); (case hq => exact (Kp.refl Wc).drew); rintro x wR_0 ⟨rfl, hbR_0⟩))
        go_wp2_with fail
        refine hK.out _ _ ?_ (fun hH1 => ?_)
        · with_reducible exact sv3 ((Kp.refl Wc).drew.step hbR_0) qa0 qa1 qa2 qa3 qb0 qb1 qb2 qb3 qc0 qc1 qc2 qc3
        clear hK K hH0
        (try simp only [Act.put, List.setIfInBounds_toArray, List.set_cons_zero, List.set_cons_succ])
        refine wpAnyH_take (i := 3) (oi := { dst := some 35, op := Op.binOp BinOp.geq 3 (Operand.tmp 34) (Operand.const (Value.int IntKind.i64 0)) 3, type := 4, pos := "outright.go:76", after := #[{ on := 2, ground := Ground.data }], guard := none }) (v := ?_) rfl (by kernel_rfl) (by kernel_rfl) (by kernel_rfl) (fun _ _ _ h => h) (Or.inl ⟨by rfl, ?_⟩) (by assumption) ?_
        rotate_left
        · (intro w hSw; (try dsimp only at hSw); go_simp; (try with_reducible rfl))
        (try simp only [Act.put, List.setIfInBounds_toArray, List.set_cons_zero, List.set_cons_succ])
        refine wpAnyH_take (i := 4) (oi := { dst := some 36, op := Op.move (Operand.tmp 35), type := 4, pos := "outright.go:76", after := #[{ on := 3, ground := Ground.data }, { on := 2, ground := Ground.chain }], guard := none }) (v := ?_) rfl (by kernel_rfl) (by kernel_rfl) (by kernel_rfl) (fun _ _ _ h => h) (Or.inl ⟨by rfl, ?_⟩) (by assumption) ?_
        rotate_left
        · (intro w hSw; (try dsimp only at hSw); go_simp; (try with_reducible rfl))
        (try simp only [Act.put, List.setIfInBounds_toArray, List.set_cons_zero, List.set_cons_succ])
        refine wpAnyH_take (i := 5) (oi := { dst := some 37, op := Op.load 29 (Operand.tmp 4), type := 29, pos := "outright.go:76", after := #[{ on := 4, ground := Ground.guard }], guard := some (4, true) }) (v := ?_) rfl (by kernel_rfl) (by kernel_rfl) (by kernel_rfl) (fun _ _ _ h => h) (Or.inl ⟨by rfl, ?_⟩) (by assumption) ?_
        rotate_left
        · (intro w hSw; (try dsimp only at hSw); go_simp; (try with_reducible rfl))
        (try simp only [Act.put, List.setIfInBounds_toArray, List.set_cons_zero, List.set_cons_succ])
        refine wpAnyH_take (i := 6) (oi := { dst := some 38, op := Op.load 29 (Operand.tmp 5), type := 29, pos := "outright.go:76", after := #[{ on := 4, ground := Ground.guard }], guard := some (4, true) }) (v := ?_) rfl (by kernel_rfl) (by kernel_rfl) (by kernel_rfl) (fun _ _ _ h => h) (Or.inl ⟨by rfl, ?_⟩) (by assumption) ?_
        rotate_left
        · (intro w hSw; (try dsimp only at hSw); go_simp; (try with_reducible rfl))
        (try simp only [Act.put, List.setIfInBounds_toArray, List.set_cons_zero, List.set_cons_succ])
        refine wpAnyH_ready (rs := [7]) (by kernel_rfl) (by simp) ?_
        refine AllReadyH.cons (o := { dst := some 39, op := Op.call { callee := Callee.value (Operand.func 11), args := #[Operand.tmp 37, Operand.tmp 38], argTypes := #[29, 29] }, type := 3, pos := "outright.go:76", after := #[{ on := 5, ground := Ground.data }, { on := 6, ground := Ground.data }, { on := 4, ground := Ground.chain }, { on := 4, ground := Ground.guard }], guard := some (4, true) }) rfl (fun K hK => ?_) AllReadyH.nil
        go_simp
        (go_at_call 11; ((with_reducible refine (HC1.out _ ?hq).mono ?_); (case hq => exact ((Kp.refl Wc).drew.step hbR_0)); rintro x wR_1 ⟨rfl, hbR_1⟩))
        go_wp2_with fail
        refine hK.out _ _ ?_ (fun hH2 => ?_)
        · with_reducible exact sv3 (((Kp.refl Wc).drew.step hbR_0).step hbR_1) qa0 qa1 qa2 qa3 qb0 qb1 qb2 qb3 qc0 qc1 qc2 qc3
        clear hK K hH1
        (try simp only [Act.put, List.setIfInBounds_toArray, List.set_cons_zero, List.set_cons_succ])
        refine wpAnyH_take (i := 8) (oi := { dst := some 40, op := Op.binOp BinOp.geq 3 (Operand.tmp 39) (Operand.const (Value.int IntKind.i64 0)) 3, type := 4, pos := "outright.go:76", after := #[{ on := 7, ground := Ground.data }, { on := 4, ground := Ground.guard }], guard := some (4, true) }) (v := ?_) rfl (by kernel_rfl) (by kernel_rfl) (by kernel_rfl) (fun _ _ _ h => h) (Or.inl ⟨by rfl, ?_⟩) (by assumption) ?_
        rotate_left
        · (intro w hSw; (try dsimp only at hSw); go_simp; (try with_reducible rfl))
        (try simp only [Act.put, List.setIfInBounds_toArray, List.set_cons_zero, List.set_cons_succ])
        refine wpAnyH_take (i := 9) (oi := { dst := some 41, op := Op.pick (Operand.tmp 36) (Operand.tmp 40) (Operand.const (Value.bool false)), type := 4, pos := "outright.go:76", after := #[{ on := 4, ground := Ground.data }, { on := 8, ground := Ground.data }], guard := none }) (v := ?_) rfl (by kernel_rfl) (by kernel_rfl) (by kernel_rfl) (fun _ _ _ h => h) (Or.inl ⟨by rfl, ?_⟩) (by assumption) ?_
        rotate_left
        · (intro w hSw; (try dsimp only at hSw); go_simp; (try with_reducible rfl))
        (try simp only [Act.put, List.setIfInBounds_toArray, List.set_cons_zero, List.set_cons_succ])
        refine wpAnyH_take (i := 10) (oi := { dst := some 42, op := Op.move (Operand.tmp 41), type := 4, pos := "outright.go:76", after := #[{ on := 9, ground := Ground.data }, { on := 7, ground := Ground.chain }], guard := none }) (v := ?_) rfl (by kernel_rfl) (by kernel_rfl) (by kernel_rfl) (fun _ _ _ h => h) (Or.inl ⟨by rfl, ?_⟩) (by assumption) ?_
        rotate_left
        · (intro w hSw; (try dsimp only at hSw); go_simp; (try with_reducible rfl))
        (try simp only [Act.put, List.setIfInBounds_toArray, List.set_cons_zero, List.set_cons_succ])
        refine wpAnyH_take (i := 11) (oi := { dst := some 43, op := Op.load 29 (Operand.tmp 3), type := 29, pos := "outright.go:76", after := #[{ on := 10, ground := Ground.guard }], guard := some (10, true) }) (v := ?_) rfl (by kernel_rfl) (by kernel_rfl) (by kernel_rfl) (fun _ _ _ h => h) (Or.inl ⟨by rfl, ?_⟩) (by assumption) ?_
        rotate_left
        · (intro w hSw; (try dsimp only at hSw); go_simp; (try with_reducible rfl))
        (try simp only [Act.put, List.setIfInBounds_toArray, List.set_cons_zero, List.set_cons_succ])
        refine wpAnyH_take (i := 12) (oi := { dst := some 44, op := Op.load 29 (Operand.tmp 5), type := 29, pos := "outright.go:76", after := #[{ on := 10, ground := Ground.guard }], guard := some (10, true) }) (v := ?_) rfl (by kernel_rfl) (by kernel_rfl) (by kernel_rfl) (fun _ _ _ h => h) (Or.inl ⟨by rfl, ?_⟩) (by assumption) ?_
        rotate_left
        · (intro w hSw; (try dsimp only at hSw); go_simp; (try with_reducible rfl))
        (try simp only [Act.put, List.setIfInBounds_toArray, List.set_cons_zero, List.set_cons_succ])
        refine wpAnyH_ready (rs := [13]) (by kernel_rfl) (by simp) ?_
        refine AllReadyH.cons (o := { dst := some 45, op := Op.call { callee := Callee.value (Operand.func 11), args := #[Operand.tmp 43, Operand.tmp 44], argTypes := #[29, 29] }, type := 3, pos := "outright.go:76", after := #[{ on := 11, ground := Ground.data }, { on := 12, ground := Ground.data }, { on := 10, ground := Ground.chain }, { on := 10, ground := Ground.guard }], guard := some (10, true) }) rfl (fun K hK => ?_) AllReadyH.nil
        go_simp
        (go_at_call 11; ((with_reducible refine (HC2.out _ ?hq).mono ?_); (case hq => exact (((Kp.refl Wc).drew.step hbR_0).step hbR_1)); rintro x wR_2 ⟨rfl, hbR_2⟩))
        go_wp2_with fail
        refine hK.out _ _ ?_ (fun hH3 => ?_)
        · with_reducible exact sv3 ((((Kp.refl Wc).drew.step hbR_0).step hbR_1).step hbR_2) qa0 qa1 qa2 qa3 qb0 qb1 qb2 qb3 qc0 qc1 qc2 qc3
        clear hK K hH2
        (try simp only [Act.put, List.setIfInBounds_toArray, List.set_cons_zero, List.set_cons_succ])
        refine wpAnyH_take (i := 14) (oi := { dst := some 46, op := Op.binOp BinOp.lss 3 (Operand.tmp 45) (Operand.const (Value.int IntKind.i64 0)) 3, type := 4, pos := "outright.go:76", after := #[{ on := 13, ground := Ground.data }, { on := 10, ground := Ground.guard }], guard := some (10, true) }) (v := ?_) rfl (by kernel_rfl) (by kernel_rfl) (by kernel_rfl) (fun _ _ _ h => h) (Or.inl ⟨by rfl, ?_⟩) (by assumption) ?_
        rotate_left
        · (intro w hSw; (try dsimp only at hSw); go_simp; (try with_reducible rfl))
        (try simp only [Act.put, List.setIfInBounds_toArray, List.set_cons_zero, List.set_cons_succ])
        refine wpAnyH_take (i := 15) (oi := { dst := some 47, op := Op.pick (Operand.tmp 42) (Operand.tmp 46) (Operand.const (Value.bool false)), type := 4, pos := "outright.go:76", after := #[{ on := 10, ground := Ground.data }, { on := 14, ground := Ground.data }], guard := none }) (v := ?_) rfl (by kernel_rfl) (by kernel_rfl) (by kernel_rfl) (fun _ _ _ h => h) (Or.inl ⟨by rfl, ?_⟩) (by assumption) ?_
        rotate_left
        · (intro w hSw; (try dsimp only at hSw); go_simp; (try with_reducible rfl))
        (try simp only [Act.put, List.setIfInBounds_toArray, List.set_cons_zero, List.set_cons_succ])
        refine wpAnyH_take (i := 16) (oi := { dst := some 48, op := Op.move (Operand.tmp 47), type := 4, pos := "outright.go:76", after := #[{ on := 15, ground := Ground.data }, { on := 13, ground := Ground.chain }], guard := none }) (v := ?_) rfl (by kernel_rfl) (by kernel_rfl) (by kernel_rfl) (fun _ _ _ h => h) (Or.inl ⟨by rfl, ?_⟩) (by assumption) ?_
        rotate_left
        · (intro w hSw; (try dsimp only at hSw); go_simp; (try with_reducible rfl))
        (try simp only [Act.put, List.setIfInBounds_toArray, List.set_cons_zero, List.set_cons_succ])
        refine wpAnyH_take (i := 17) (oi := { dst := some 49, op := Op.load 29 (Operand.tmp 3), type := 29, pos := "outright.go:76", after := #[{ on := 16, ground := Ground.guard }], guard := some (16, false) }) (v := ?_) rfl (by kernel_rfl) (by kernel_rfl) (by kernel_rfl) (fun _ _ _ h => h) (Or.inl ⟨by rfl, ?_⟩) (by assumption) ?_
        rotate_left
        · (intro w hSw; (try dsimp only at hSw); go_simp; (try with_reducible rfl))
        (try simp only [Act.put, List.setIfInBounds_toArray, List.set_cons_zero, List.set_cons_succ])
        refine wpAnyH_take (i := 18) (oi := { dst := some 50, op := Op.load 29 (Operand.tmp 5), type := 29, pos := "outright.go:76", after := #[{ on := 16, ground := Ground.guard }], guard := some (16, false) }) (v := ?_) rfl (by kernel_rfl) (by kernel_rfl) (by kernel_rfl) (fun _ _ _ h => h) (Or.inl ⟨by rfl, ?_⟩) (by assumption) ?_
        rotate_left
        · (intro w hSw; (try dsimp only at hSw); go_simp; (try with_reducible rfl))
        (try simp only [Act.put, List.setIfInBounds_toArray, List.set_cons_zero, List.set_cons_succ])
        refine wpAnyH_take (i := 20) (oi := { dst := some 52, op := Op.load 29 (Operand.tmp 4), type := 29, pos := "outright.go:76", after := #[{ on := 16, ground := Ground.guard }], guard := some (16, false) }) (v := ?_) rfl (by kernel_rfl) (by kernel_rfl) (by kernel_rfl) (fun _ _ _ h => h) (Or.inl ⟨by rfl, ?_⟩) (by assumption) ?_
        rotate_left
        · (intro w hSw; (try dsimp only at hSw); go_simp; (try with_reducible rfl))
        (try simp only [Act.put, List.setIfInBounds_toArray, List.set_cons_zero, List.set_cons_succ])
        refine wpAnyH_take (i := 21) (oi := { dst := some 53, op := Op.load 29 (Operand.tmp 5), type := 29, pos := "outright.go:76", after := #[{ on := 16, ground := Ground.guard }], guard := some (16, false) }) (v := ?_) rfl (by kernel_rfl) (by kernel_rfl) (by kernel_rfl) (fun _ _ _ h => h) (Or.inl ⟨by rfl, ?_⟩) (by assumption) ?_
        rotate_left
        · (intro w hSw; (try dsimp only at hSw); go_simp; (try with_reducible rfl))
        (try simp only [Act.put, List.setIfInBounds_toArray, List.set_cons_zero, List.set_cons_succ])
        refine wpAnyH_take (i := 24) (oi := { dst := some 56, op := Op.load 29 (Operand.tmp 3), type := 29, pos := "outright.go:76", after := #[{ on := 16, ground := Ground.guard }], guard := some (16, false) }) (v := ?_) rfl (by kernel_rfl) (by kernel_rfl) (by kernel_rfl) (fun _ _ _ h => h) (Or.inl ⟨by rfl, ?_⟩) (by assumption) ?_
        rotate_left
        · (intro w hSw; (try dsimp only at hSw); go_simp; (try with_reducible rfl))
        (try simp only [Act.put, List.setIfInBounds_toArray, List.set_cons_zero, List.set_cons_succ])
        refine wpAnyH_take (i := 25) (oi := { dst := some 57, op := Op.load 29 (Operand.tmp 4), type := 29, pos := "outright.go:76", after := #[{ on := 16, ground := Ground.guard }], guard := some (16, false) }) (v := ?_) rfl (by kernel_rfl) (by kernel_rfl) (by kernel_rfl) (fun _ _ _ h => h) (Or.inl ⟨by rfl, ?_⟩) (by assumption) ?_
        rotate_left
        · (intro w hSw; (try dsimp only at hSw); go_simp; (try with_reducible rfl))
        (try simp only [Act.put, List.setIfInBounds_toArray, List.set_cons_zero, List.set_cons_succ])
        refine wpAnyH_ready (rs := [19]) (by kernel_rfl) (by simp) ?_
        refine AllReadyH.cons (o := { dst := some 51, op := Op.call { callee := Callee.value (Operand.func 10), args := #[Operand.tmp 49, Operand.tmp 50], argTypes := #[29, 29] }, type := 29, pos := "outright.go:76", after := #[{ on := 17, ground := Ground.data }, { on := 18, ground := Ground.data }, { on := 16, ground := Ground.chain }, { on := 16, ground := Ground.guard }], guard := some (16, false) }) rfl (fun K hK => ?_) AllReadyH.nil
        go_simp
        (go_at_call 10; ((with_reducible refine (HC3.out _ ?hq).mono ?_); (case hq => exact ((((Kp.refl Wc).drew.step hbR_0).step hbR_1).step hbR_2)); rintro x wR_3 ⟨vR_3, rfl, MR_3, hbR_3⟩; obtain ⟨pR_3, nR_3, cR_3, eR_3, gR_3, rfl⟩ := NumB.form MR_3))
        go_wp2_with fail
        refine hK.out _ _ ?_ (fun hH4 => ?_)
        · with_reducible exact sv3 (((((Kp.refl Wc).drew.step hbR_0).step hbR_1).step hbR_2).step hbR_3) qa0 qa1 qa2 qa3 qb0 qb1 qb2 qb3 qc0 qc1 qc2 qc3
        clear hK K hH3
        (try simp only [Act.put, List.setIfInBounds_toArray, List.set_cons_zero, List.set_cons_succ])
        refine wpAnyH_ready (rs := [22]) (by kernel_rfl) (by simp) ?_
        refine AllReadyH.cons (o := { dst := some 54, op := Op.call { callee := Callee.value (Operand.func 10), args := #[Operand.tmp 52, Operand.tmp 53], argTypes := #[29, 29] }, type := 29, pos := "outright.go:76", after := #[{ on := 20, ground := Ground.data }, { on := 21, ground := Ground.data }, { on := 19, ground := Ground.chain }, { on := 16, ground := Ground.guard }], guard := some (16, false) }) rfl (fun K hK => ?_) AllReadyH.nil
        go_simp
        (go_at_call 10; ((with_reducible refine (HC4.out _ ?hq).mono ?_); (case hq => exact (((((Kp.refl Wc).drew.step hbR_0).step hbR_1).step hbR_2).step hbR_3)); rintro x wR_4 ⟨vR_4, rfl, MR_4, hbR_4⟩; obtain ⟨pR_4, nR_4, cR_4, eR_4, gR_4, rfl⟩ := NumB.form MR_4))
        go_wp2_with fail
        refine hK.out _ _ ?_ (fun hH5 => ?_)
        · with_reducible exact sv3 ((((((Kp.refl Wc).drew.step hbR_0).step hbR_1).step hbR_2).step hbR_3).step hbR_4) qa0 qa1 qa2 qa3 qb0 qb1 qb2 qb3 qc0 qc1 qc2 qc3
        clear hK K hH4
        (try simp only [Act.put, List.setIfInBounds_toArray, List.set_cons_zero, List.set_cons_succ])
        refine wpAnyH_ready (rs := [23]) (by kernel_rfl) (by simp) ?_
        refine AllReadyH.cons (o := { dst := some 55, op := Op.call { callee := Callee.value (Operand.func 11), args := #[Operand.tmp 51, Operand.tmp 54], argTypes := #[29, 29] }, type := 3, pos := "outright.go:76", after := #[{ on := 19, ground := Ground.data }, { on := 22, ground := Ground.data }, { on := 22, ground := Ground.chain }, { on := 16, ground := Ground.guard }], guard := some (16, false) }) rfl (fun K hK => ?_) AllReadyH.nil
        go_simp
        (go_at_call 11; ((with_reducible refine (HC5.out _ ?hq _ ?ha0 _ ?ha1).mono ?_); (case hq => exact ((((((Kp.refl Wc).drew.step hbR_0).step hbR_1).step hbR_2).step hbR_3).step hbR_4)); (case ha0 => exact (NumB.keep MR_3 hbR_4)); (case ha1 => exact MR_4); rintro x wR_5 ⟨rfl, hbR_5⟩))
        go_wp2_with fail
        refine hK.out _ _ ?_ (fun hH6 => ?_)
        · with_reducible exact sv3 (((((((Kp.refl Wc).drew.step hbR_0).step hbR_1).step hbR_2).step hbR_3).step hbR_4).step hbR_5) qa0 qa1 qa2 qa3 qb0 qb1 qb2 qb3 qc0 qc1 qc2 qc3
        clear hK K hH5
        (try simp only [Act.put, List.setIfInBounds_toArray, List.set_cons_zero, List.set_cons_succ])
        refine wpAnyH_ready (rs := [26]) (by kernel_rfl) (by simp) ?_
        refine AllReadyH.cons (o := { dst := some 58, op := Op.call { callee := Callee.value (Operand.func 11), args := #[Operand.tmp 56, Operand.tmp 57], argTypes := #[29, 29] }, type := 3, pos := "outright.go:76", after := #[{ on := 24, ground := Ground.data }, { on := 25, ground := Ground.data }, { on := 23, ground := Ground.chain }, { on := 16, ground := Ground.guard }], guard := some (16, false) }) rfl (fun K hK => ?_) AllReadyH.nil
        go_simp
        (go_at_call 11; ((with_reducible refine (HC6.out _ ?hq).mono ?_); (case hq => exact (((((((Kp.refl Wc).drew.step hbR_0).step hbR_1).step hbR_2).step hbR_3).step hbR_4).step hbR_5)); rintro x wR_6 ⟨rfl, hbR_6⟩))
        go_wp2_with fail
        refine hK.out _ _ ?_ (fun hH7 => ?_)
        · with_reducible exact sv3 ((((((((Kp.refl Wc).drew.step hbR_0).step hbR_1).step hbR_2).step hbR_3).step hbR_4).step hbR_5).step hbR_6) qa0 qa1 qa2 qa3 qb0 qb1 qb2 qb3 qc0 qc1 qc2 qc3
        clear hK K hH6
        (try simp only [Act.put, List.setIfInBounds_toArray, List.set_cons_zero, List.set_cons_succ])
        refine wpAnyH_take (i := 27) (oi := { dst := some 59, op := Op.binOp BinOp.neq 3 (Operand.tmp 55) (Operand.tmp 58) 3, type := 4, pos := "outright.go:76", after := #[{ on := 23, ground := Ground.data }, { on := 26, ground := Ground.data }, { on := 16, ground := Ground.guard }], guard := some (16, false) }) (v := ?_) rfl (by kernel_rfl) (by kernel_rfl) (by kernel_rfl) (fun _ _ _ h => h) (Or.inl ⟨by rfl, ?_⟩) (by assumption) ?_
        rotate_left
        · (intro w hSw; (try dsimp only at hSw); go_simp; (try with_reducible rfl))
        (try simp only [Act.put, List.setIfInBounds_toArray, List.set_cons_zero, List.set_cons_succ])
        refine wpAnyH_take (i := 28) (oi := { dst := some 60, op := Op.pick (Operand.tmp 48) (Operand.const (Value.bool true)) (Operand.tmp 59), type := 4, pos := "outright.go:76", after := #[{ on := 16, ground := Ground.data }, { on := 27, ground := Ground.data }], guard := none }) (v := ?_) rfl (by kernel_rfl) (by kernel_rfl) (by kernel_rfl) (fun _ _ _ h => h) (Or.inl ⟨by rfl, ?_⟩) (by assumption) ?_
        rotate_left
        · (intro w hSw; (try dsimp only at hSw); go_simp; (try with_reducible rfl))
        (try simp only [Act.put, List.setIfInBounds_toArray, List.set_cons_zero, List.set_cons_succ])
        refine wpAnyH_take (i := 29) (oi := { dst := some 61, op := Op.move (Operand.tmp 60), type := 4, pos := "outright.go:76", after := #[{ on := 28, ground := Ground.data }, { on := 26, ground := Ground.chain }], guard := none }) (v := ?_) rfl (by kernel_rfl) (by kernel_rfl) (by kernel_rfl) (fun _ _ _ h => h) (Or.inl ⟨by rfl, ?_⟩) (by assumption) ?_
        rotate_left
        · (intro w hSw; (try dsimp only at hSw); go_simp; (try with_reducible rfl))
        (try simp only [Act.put, List.setIfInBounds_toArray, List.set_cons_zero, List.set_cons_succ])
        refine wpAnyH_take (i := 30) (oi := { dst := some 62, op := Op.load 29 (Operand.tmp 3), type := 29, pos := "outright.go:76", after := #[{ on := 29, ground := Ground.guard }], guard := some (29, false) }) (v := ?_) rfl (by kernel_rfl) (by kernel_rfl) (by kernel_rfl) (fun _ _ _ h => h) (Or.inl ⟨by rfl, ?_⟩) (by assumption) ?_
        rotate_left
        · (intro w hSw; (try dsimp only at hSw); go_simp; (try with_reducible rfl))
        (try simp only [Act.put, List.setIfInBounds_toArray, List.set_cons_zero, List.set_cons_succ])
        refine wpAnyH_take (i := 31) (oi := { dst := some 63, op := Op.load 29 (Operand.tmp 4), type := 29, pos := "outright.go:76", after := #[{ on := 29, ground := Ground.guard }], guard := some (29, false) }) (v := ?_) rfl (by kernel_rfl) (by kernel_rfl) (by kernel_rfl) (fun _ _ _ h => h) (Or.inl ⟨by rfl, ?_⟩) (by assumption) ?_
        rotate_left
        · (intro w hSw; (try dsimp only at hSw); go_simp; (try with_reducible rfl))
        (try simp only [Act.put, List.setIfInBounds_toArray, List.set_cons_zero, List.set_cons_succ])
        refine wpAnyH_ready (rs := [32]) (by kernel_rfl) (by simp) ?_
        refine AllReadyH.cons (o := { dst := some 64, op := Op.call { callee := Callee.value (Operand.func 11), args := #[Operand.tmp 62, Operand.tmp 63], argTypes := #[29, 29] }, type := 3, pos := "outright.go:76", after := #[{ on := 30, ground := Ground.data }, { on := 31, ground := Ground.data }, { on := 29, ground := Ground.chain }, { on := 29, ground := Ground.guard }], guard := some (29, false) }) rfl (fun K hK => ?_) AllReadyH.nil
        go_simp
        (go_at_call 11; ((with_reducible refine (HC7.out _ ?hq).mono ?_); (case hq => exact ((((((((Kp.refl Wc).drew.step hbR_0).step hbR_1).step hbR_2).step hbR_3).step hbR_4).step hbR_5).step hbR_6)); rintro x wR_7 ⟨rfl, hbR_7⟩))
        go_wp2_with fail
        refine hK.out _ _ ?_ (fun hH8 => ?_)
        · with_reducible exact sv3 (((((((((Kp.refl Wc).drew.step hbR_0).step hbR_1).step hbR_2).step hbR_3).step hbR_4).step hbR_5).step hbR_6).step hbR_7) qa0 qa1 qa2 qa3 qb0 qb1 qb2 qb3 qc0 qc1 qc2 qc3
        clear hK K hH7
        (try simp only [Act.put, List.setIfInBounds_toArray, List.set_cons_zero, List.set_cons_succ])
        refine wpAnyH_take (i := 33) (oi := { dst := some 65, op := Op.binOp BinOp.gtr 3 (Operand.tmp 64) (Operand.const (Value.int IntKind.i64 0)) 3, type := 4, pos := "outright.go:76", after := #[{ on := 32, ground := Ground.data }, { on := 29, ground := Ground.guard }], guard := some (29, false) }) (v := ?_) rfl (by kernel_rfl) (by kernel_rfl) (by kernel_rfl) (fun _ _ _ h => h) (Or.inl ⟨by rfl, ?_⟩) (by assumption) ?_
        rotate_left
        · (intro w hSw; (try dsimp only at hSw); go_simp; (try with_reducible rfl))
        (try simp only [Act.put, List.setIfInBounds_toArray, List.set_cons_zero, List.set_cons_succ])
        refine wpAnyH_take (i := 34) (oi := { dst := some 66, op := Op.move (Operand.tmp 65), type := 4, pos := "outright.go:76", after := #[{ on := 33, ground := Ground.data }, { on := 32, ground := Ground.chain }, { on := 29, ground := Ground.guard }], guard := some (29, false) }) (v := ?_) rfl (by kernel_rfl) (by kernel_rfl) (by kernel_rfl) (fun _ _ _ h => h) (Or.inl ⟨by rfl, ?_⟩) (by assumption) ?_
        rotate_left
        · (intro w hSw; (try dsimp only at hSw); go_simp; (try with_reducible rfl))
        (try simp only [Act.put, List.setIfInBounds_toArray, List.set_cons_zero, List.set_cons_succ])
        refine wpAnyH_take (i := 35) (oi := { dst := some 67, op := Op.load 29 (Operand.tmp 3), type := 29, pos := "outright.go:76", after := #[{ on := 34, ground := Ground.guard }], guard := some (34, true) }) (v := ?_) rfl (by kernel_rfl) (by kernel_rfl) (by kernel_rfl) (fun _ _ _ h => h) (Or.inl ⟨by rfl, ?_⟩) (by assumption) ?_
        rotate_left
        · (intro w hSw; (try dsimp only at hSw); go_simp; (try with_reducible rfl))
        (try simp only [Act.put, List.setIfInBounds_toArray, List.set_cons_zero, List.set_cons_succ])
        refine wpAnyH_take (i := 37) (oi := { dst := some 69, op := Op.load 29 (Operand.tmp 4), type := 29, pos := "outright.go:76", after := #[{ on := 34, ground := Ground.guard }], guard := some (34, true) }) (v := ?_) rfl (by kernel_rfl) (by kernel_rfl) (by kernel_rfl) (fun _ _ _ h => h) (Or.inl ⟨by rfl, ?_⟩) (by assumption) ?_
        rotate_left
        · (intro w hSw; (try dsimp only at hSw); go_simp; (try with_reducible rfl))
        (try simp only [Act.put, List.setIfInBounds_toArray, List.set_cons_zero, List.set_cons_succ])
        refine wpAnyH_ready (rs := [36]) (by kernel_rfl) (by simp) ?_
        refine AllReadyH.cons (o := { dst := some 68, op := Op.call { callee := Callee.value (Operand.func 19), args := #[Operand.tmp 67], argTypes := #[29] }, type := 22, pos := "outright.go:76", after := #[{ on := 35, ground := Ground.data }, { on := 34, ground := Ground.chain }, { on := 34, ground := Ground.guard }], guard := some (34, true) }) rfl (fun K hK => ?_) AllReadyH.nil
        go_simp
        (go_at_call 19; ((with_reducible refine (HC8.out _ ?hq).mono ?_); (case hq => exact (((((((((Kp.refl Wc).drew.step hbR_0).step hbR_1).step hbR_2).step hbR_3).step hbR_4).step hbR_5).step hbR_6).step hbR_7)); rintro x wR_8 ⟨fR_8, rfl, hfR_8, hbR_8⟩))
        go_wp2_with fail
        refine hK.out _ _ ?_ (fun hH9 => ?_)
        · with_reducible exact sv3 ((((((((((Kp.refl Wc).drew.step hbR_0).step hbR_1).step hbR_2).step hbR_3).step hbR_4).step hbR_5).step hbR_6).step hbR_7).step hbR_8) qa0 qa1 qa2 qa3 qb0 qb1 qb2 qb3 qc0 qc1 qc2 qc3
        clear hK K hH8
        (try simp only [Act.put, List.setIfInBounds_toArray, List.set_cons_zero, List.set_cons_succ])
        refine wpAnyH_ready (rs := [38]) (by kernel_rfl) (by simp) ?_
        refine AllReadyH.cons (o := { dst := some 70, op := Op.call { callee := Callee.value (Operand.func 19), args := #[Operand.tmp 69], argTypes := #[29] }, type := 22, pos := "outright.go:76", after := #[{ on := 37, ground := Ground.data }, { on := 36, ground := Ground.chain }, { on := 34, ground := Ground.guard }], guard := some (34, true) }) rfl (fun K hK => ?_) AllReadyH.nil
        go_simp
        (go_at_call 19; ((with_reducible refine (HC9.out _ ?hq).mono ?_); (case hq => exact ((((((((((Kp.refl Wc).drew.step hbR_0).step hbR_1).step hbR_2).step hbR_3).step hbR_4).step hbR_5).step hbR_6).step hbR_7).step hbR_8)); rintro x wR_9 ⟨fR_9, rfl, hfR_9, hbR_9⟩; have nlt := FloOf.not_lt hfR_8 hfR_9 HF4.out; clear hfR_8 hfR_9))
        go_wp2_with fail
        refine hK.out _ _ ?_ (fun hH10 => ?_)
        · with_reducible exact sv3 (((((((((((Kp.refl Wc).drew.step hbR_0).step hbR_1).step hbR_2).step hbR_3).step hbR_4).step hbR_5).step hbR_6).step hbR_7).step hbR_8).step hbR_9) qa0 qa1 qa2 qa3 qb0 qb1 qb2 qb3 qc0 qc1 qc2 qc3
        clear hK K hH9
        (try simp only [Act.put, List.setIfInBounds_toArray, List.set_cons_zero, List.set_cons_succ])
        refine wpAnyH_take (i := 39) (oi := { dst := some 71, op := Op.binOp BinOp.lss 22 (Operand.tmp 68) (Operand.tmp 70) 22, type := 4, pos := "outright.go:76", after := #[{ on := 36, ground := Ground.data }, { on := 38, ground := Ground.data }, { on := 34, ground := Ground.guard }], guard := some (34, true) }) (v := ?_) rfl (by kernel_rfl) (by kernel_rfl) (by kernel_rfl) (fun _ _ _ h => h) (Or.inl ⟨by rfl, ?_⟩) (by assumption) ?_
        rotate_left
        · (intro w hSw; (try dsimp only at hSw); go_simp; (try with_reducible rfl))
        (try simp only [Act.put, List.setIfInBounds_toArray, List.set_cons_zero, List.set_cons_succ])
        refine wpAnyH_take (i := 40) (oi := { dst := some 72, op := Op.pick (Operand.tmp 66) (Operand.tmp 71) (Operand.const (Value.bool false)), type := 4, pos := "outright.go:76", after := #[{ on := 34, ground := Ground.data }, { on := 39, ground := Ground.data }, { on := 29, ground := Ground.guard }], guard := some (29, false) }) (v := ?_) rfl (by kernel_rfl) (by kernel_rfl) (by kernel_rfl) (fun _ _ _ h => h) (Or.inl ⟨by rfl, ?_⟩) (by assumption) ?_
        rotate_left
        · (intro w hSw; (try dsimp only at hSw); go_simp; (try with_reducible rfl))
        (try simp only [Act.put, List.setIfInBounds_toArray, List.set_cons_zero, List.set_cons_succ])
        refine wpAnyH_take (i := 41) (oi := { dst := some 73, op := Op.pick (Operand.tmp 61) (Operand.const (Value.bool true)) (Operand.tmp 72), type := 4, pos := "outright.go:76", after := #[{ on := 29, ground := Ground.data }, { on := 40, ground := Ground.data }], guard := none }) (v := ?_) rfl (by kernel_rfl) (by kernel_rfl) (by kernel_rfl) (fun _ _ _ h => h) (Or.inl ⟨by rfl, ?_⟩) (by assumption) ?_
        rotate_left
        · (intro w hSw; (try dsimp only at hSw); go_simp; (try with_reducible rfl))
        (try simp only [Act.put, List.setIfInBounds_toArray, List.set_cons_zero, List.set_cons_succ])
        refine wpAnyH_done (by kernel_rfl) ?_ _
        clear hH10
        go_wp2_with fail
        go_meet
        exact ⟨rfl, (((((((((((Kp.refl Wc).drew.step hbR_0).step hbR_1).step hbR_2).step hbR_3).step hbR_4).step hbR_5).step hbR_6).step hbR_7).step hbR_8).step hbR_9)⟩
      · have u2 : decide (0 ≤ t) = false := decide_eq_false c2
        clear c1 c2 f3 f4
        have HC0 := Lib.hid (fun (Y : World) (h : Kp Wc Y) => cmpBn _ (Na.out.keep h.out) (Nb.out.keep h.out) (HT.out.keep h.out) (by decide) (by decide) HS.out)
        have HC1 := Lib.hid (fun (Y : World) (h : Kp Wc Y) => cmpBn t (Nb.out.keep h.out) (Nc.out.keep h.out) (HT.out.keep h.out) (by decide) (by decide) HS2.out)
        have HC2 := Lib.hid (fun (Y : World) (h : Kp Wc Y) => addB 2150 (Na.out.keep h.out) (Nc.out.keep h.out) (HT.out.keep h.out) (by decide) (by decide) (by decide))
        have HC3 := Lib.hid (fun (Y : World) (h : Kp Wc Y) => addB 2150 (Nb.out.keep h.out) (Nc.out.keep h.out) (HT.out.keep h.out) (by decide) (by decide) (by decide))
        have HC4 := Lib.hid (fun (Y : World) (h : Kp Wc Y) (v : Value) (hv : NumB 0 Y v (ra + rc) 2150) (v2 : Value) (hv2 : NumB 0 Y v2 (rb + rc) 2150) => cmpBn _ hv hv2 (HT.out.keep h.out) (by decide) (by decide) HSA.out)
        have HC5 := Lib.hid (fun (Y : World) (h : Kp Wc Y) => cmpBn _ (Na.out.keep h.out) (Nb.out.keep h.out) (HT.out.keep h.out) (by decide) (by decide) HS.out)
        have HC6 := Lib.hid (fun (Y : World) (h : Kp Wc Y) => cmpBn _ (Na.out.keep h.out) (Nb.out.keep h.out) (HT.out.keep h.out) (by decide) (by decide) HS.out)
        have HC7 := Lib.hid (fun (Y : World) (h : Kp Wc Y) => floatB (Na.out.keep h.out))
        have HC8 := Lib.hid (fun (Y : World) (h : Kp Wc Y) => floatB (Nb.out.keep h.out))
        refine wp_region_held_drew (S := fun w' => w'.cell? ⟨w2.heap.size, 0, none⟩ = some (.slice pa na ca) ∧ w'.cell? ⟨w2.heap.size, 1, none⟩ = some (.int .i64 ea) ∧ w'.cell? ⟨w2.heap.size, 2, none⟩ = some (.bool ga) ∧ w'.cell? ⟨w2.heap.size, 3, none⟩ = some (.bool false) ∧ w'.cell? ⟨w3.heap.size, 0, none⟩ = some (.slice pb nb cb) ∧ w'.cell? ⟨w3.heap.size, 1, none⟩ = some (.int .i64 eb) ∧ w'.cell? ⟨w3.heap.size, 2, none⟩ = some (.bool gb) ∧ w'.cell? ⟨w3.heap.size, 3, none⟩ = some (.bool false) ∧ w'.cell? ⟨w4.heap.size, 0, none⟩ = some (.slice pc nc cc) ∧ w'.cell? ⟨w4.heap.size, 1, none⟩ = some (.int .i64 ec) ∧ w'.cell? ⟨w4.heap.size, 2, none⟩ = some (.bool gc) ∧ w'.cell? ⟨w4.heap.size, 3, none⟩ = some (.bool false) ∧ Kp Wc w') (by kernel_rfl) ?_ (fun hH0 => ?_)
        · with_reducible exact sv3 (Kp.refl Wc).drew qa0 qa1 qa2 qa3 qb0 qb1 qb2 qb3 qc0 qc1 qc2 qc3
        refine wpAnyH_take (i := 0) (oi := { dst := some 32, op := Op.load 29 (Operand.tmp 3), type := 29, pos := "outright.go:76", after := #[], guard := none }) (v := ?_) rfl (by kernel_rfl) (by kernel_rfl) (by kernel_rfl) (fun _ _ _ h => h) (Or.inl ⟨by rfl, ?_⟩) (by assumption) ?_
        rotate_left
        · (intro w hSw; (try dsimp only at hSw); go_simp; (try with_reducible rfl))
        (try simp only [Act.put, List.setIfInBounds_toArray, List.set_cons_zero, List.set_cons_succ])
        refine wpAnyH_take (i := 1) (oi := { dst := some 33, op := Op.load 29 (Operand.tmp 4), type := 29, pos := "outright.go:76", after := #[], guard := none }) (v := ?_) rfl (by kernel_rfl) (by kernel_rfl) (by kernel_rfl) (fun _ _ _ h => h) (Or.inl ⟨by rfl, ?_⟩) (by assumption) ?_
        rotate_left
        · (intro w hSw; (try dsimp only at hSw); go_simp; (try with_reducible rfl))
        (try simp only [Act.put, List.setIfInBounds_toArray, List.set_cons_zero, List.set_cons_succ])
        refine wpAnyH_ready (rs := [2]) (by kernel_rfl) (by simp) ?_
        refine AllReadyH.cons (o := { dst := some 34, op := Op.call { callee := Callee.value (Operand.func 11), args := #[Operand.tmp 32, Operand.tmp 33], argTypes := #[29, 29] }, type := 3, pos := "outright.go:76", after := #[{ on := 0, ground := Ground.data }, { on := 1, ground := Ground.data }], guard := none }) rfl (fun K hK => ?_) AllReadyH.nil
        go_simp
        (go_at_call 11; ((with_reducible refine (HC0.out _ ?hq).mono ?_); (case hq => exact (Kp.refl Wc).drew); rintro x wR_0 ⟨rfl, hbR_0⟩))
        go_wp2_with fail
        refine hK.out _ _ ?_ (fun hH1 => ?_)
        · with_reducible exact sv3 ((Kp.refl Wc).drew.step hbR_0) qa0 qa1 qa2 qa3 qb0 qb1 qb2 qb3 qc0 qc1 qc2 qc3
        clear hK K hH0
        (try simp only [Act.put, List.setIfInBounds_toArray, List.set_cons_zero, List.set_cons_succ])
        refine wpAnyH_take (i := 3) (oi := { dst := some 35, op := Op.binOp BinOp.geq 3 (Operand.tmp 34) (Operand.const (Value.int IntKind.i64 0)) 3, type := 4, pos := "outright.go:76", after := #[{ on := 2, ground := Ground.data }], guard := none }) (v := ?_) rfl (by kernel_rfl) (by kernel_rfl) (by kernel_rfl) (fun _ _ _ h => h) (Or.inl ⟨by rfl, ?_⟩) (by assumption) ?_
        rotate_left
        · (intro w hSw; (try dsimp only at hSw); go_simp; (try with_reducible rfl))
        (try simp only [Act.put, List.setIfInBounds_toArray, List.set_cons_zero, List.set_cons_succ])
        refine wpAnyH_take (i := 4) (oi := { dst := some 36, op := Op.move (Operand.tmp 35), type := 4, pos := "outright.go:76", after := #[{ on := 3, ground := Ground.data }, { on := 2, ground := Ground.chain }], guard := none }) (v := ?_) rfl (by kernel_rfl) (by kernel_rfl) (by kernel_rfl) (fun _ _ _ h => h) (Or.inl ⟨by rfl, ?_⟩) (by assumption) ?_
        rotate_left
        · (intro w hSw; (try dsimp only at hSw); go_simp; (try with_reducible rfl))
        (try simp only [Act.put, List.setIfInBounds_toArray, List.set_cons_zero, List.set_cons_succ])
        refine wpAnyH_take (i := 5) (oi := { dst := some 37, op := Op.load 29 (Operand.tmp 4), type := 29, pos := "outright.go:76", after := #[{ on := 4, ground := Ground.guard }], guard := some (4, true) }) (v := ?_) rfl (by kernel_rfl) (by kernel_rfl) (by kernel_rfl) (fun _ _ _ h => h) (Or.inl ⟨by rfl, ?_⟩) (by assumption) ?_
        rotate_left
        · (intro w hSw; (try dsimp only at hSw); go_simp; (try with_reducible rfl))
        (try simp only [Act.put, List.setIfInBounds_toArray, List.set_cons_zero, List.set_cons_succ])
        refine wpAnyH_take (i := 6) (oi := { dst := some 38, op := Op.load 29 (Operand.tmp 5), type := 29, pos := "outright.go:76", after := #[{ on := 4, ground := Ground.guard }], guard := some (4, true) }) (v := ?_) rfl (by kernel_rfl) (by kernel_rfl) (by kernel_rfl) (fun _ _ _ h => h) (Or.inl ⟨by rfl, ?_⟩) (by assumption) ?_
        rotate_left
        · (intro w hSw; (try dsimp only at hSw); go_simp; (try with_reducible rfl))
        (try simp only [Act.put, List.setIfInBounds_toArray, List.set_cons_zero, List.set_cons_succ])
        refine wpAnyH_ready (rs := [7]) (by kernel_rfl) (by simp) ?_
        refine AllReadyH.cons (o := { dst := some 39, op := Op.call { callee := Callee.value (Operand.func 11), args := #[Operand.tmp 37, Operand.tmp 38], argTypes := #[29, 29] }, type := 3, pos := "outright.go:76", after := #[{ on := 5, ground := Ground.data }, { on := 6, ground := Ground.data }, { on := 4, ground := Ground.chain }, { on := 4, ground := Ground.guard }], guard := some (4, true) }) rfl (fun K hK => ?_) AllReadyH.nil
        go_simp
        (go_at_call 11; ((with_reducible refine (HC1.out _ ?hq).mono ?_); (case hq => exact ((Kp.refl Wc).drew.step hbR_0)); rintro x wR_1 ⟨rfl, hbR_1⟩))
        go_wp2_with fail
        refine hK.out _ _ ?_ (fun hH2 => ?_)
        · with_reducible exact sv3 (((Kp.refl Wc).drew.step hbR_0).step hbR_1) qa0 qa1 qa2 qa3 qb0 qb1 qb2 qb3 qc0 qc1 qc2 qc3
        clear hK K hH1
        (try simp only [Act.put, List.setIfInBounds_toArray, List.set_cons_zero, List.set_cons_succ])
        refine wpAnyH_take (i := 8) (oi := { dst := some 40, op := Op.binOp BinOp.geq 3 (Operand.tmp 39) (Operand.const (Value.int IntKind.i64 0)) 3, type := 4, pos := "outright.go:76", after := #[{ on := 7, ground := Ground.data }, { on := 4, ground := Ground.guard }], guard := some (4, true) }) (v := ?_) rfl (by kernel_rfl) (by kernel_rfl) (by kernel_rfl) (fun _ _ _ h => h) (Or.inl ⟨by rfl, ?_⟩) (by assumption) ?_
        rotate_left
        · (intro w hSw; (try dsimp only at hSw); go_simp; (try with_reducible rfl))
        (try simp only [Act.put, List.setIfInBounds_toArray, List.set_cons_zero, List.set_cons_succ])
        refine wpAnyH_take (i := 9) (oi := { dst := some 41, op := Op.pick (Operand.tmp 36) (Operand.tmp 40) (Operand.const (Value.bool false)), type := 4, pos := "outright.go:76", after := #[{ on := 4, ground := Ground.data }, { on := 8, ground := Ground.data }], guard := none }) (v := ?_) rfl (by kernel_rfl) (by kernel_rfl) (by kernel_rfl) (fun _ _ _ h => h) (Or.inl ⟨by rfl, ?_⟩) (by assumption) ?_
        rotate_left
        · (intro w hSw; (try dsimp only at hSw); go_simp; (try with_reducible rfl))
        (try simp only [Act.put, List.setIfInBounds_toArray, List.set_cons_zero, List.set_cons_succ])
        refine wpAnyH_take (i := 10) (oi := { dst := some 42, op := Op.move (Operand.tmp 41), type := 4, pos := "outright.go:76", after := #[{ on := 9, ground := Ground.data }, { on := 7, ground := Ground.chain }], guard := none }) (v := ?_) rfl (by kernel_rfl) (by kernel_rfl) (by kernel_rfl) (fun _ _ _ h => h) (Or.inl ⟨by rfl, ?_⟩) (by assumption) ?_
        rotate_left
        · (intro w hSw; (try dsimp only at hSw); go_simp; (try with_reducible rfl))
        (try simp only [Act.put, List.setIfInBounds_toArray, List.set_cons_zero, List.set_cons_succ])
        refine wpAnyH_take (i := 11) (oi := { dst := some 43, op := Op.load 29 (Operand.tmp 3), type := 29, pos := "outright.go:76", after := #[{ on := 10, ground := Ground.guard }], guard := some (10, true) }) (v := undef) rfl (by kernel_rfl) (by kernel_rfl) (by kernel_rfl) (fun _ _ _ h => h) (Or.inr ⟨by rfl, rfl⟩) (by assumption) ?_
        (try simp only [Act.put, List.setIfInBounds_toArray, List.set_cons_zero, List.set_cons_succ])
        refine wpAnyH_take (i := 12) (oi := { dst := some 44, op := Op.load 29 (Operand.tmp 5), type := 29, pos := "outright.go:76", after := #[{ on := 10, ground := Ground.guard }], guard := some (10, true) }) (v := undef) rfl (by kernel_rfl) (by kernel_rfl) (by kernel_rfl) (fun _ _ _ h => h) (Or.inr ⟨by rfl, rfl⟩) (by assumption) ?_
        (try simp only [Act.put, List.setIfInBounds_toArray, List.set_cons_zero, List.set_cons_succ])
        refine wpAnyH_take (i := 13) (oi := { dst := some 45, op := Op.call { callee := Callee.value (Operand.func 11), args := #[Operand.tmp 43, Operand.tmp 44], argTypes := #[29, 29] }, type := 3, pos := "outright.go:76", after := #[{ on := 11, ground := Ground.data }, { on := 12, ground := Ground.data }, { on := 10, ground := Ground.chain }, { on := 10, ground := Ground.guard }], guard := some (10, true) }) (v := undef) rfl (by kernel_rfl) (by kernel_rfl) (by kernel_rfl) (fun _ _ _ h => h) (Or.inr ⟨by rfl, rfl⟩) (by assumption) ?_
        (try simp only [Act.put, List.setIfInBounds_toArray, List.set_cons_zero, List.set_cons_succ])
        refine wpAnyH_take (i := 14) (oi := { dst := some 46, op := Op.binOp BinOp.lss 3 (Operand.tmp 45) (Operand.const (Value.int IntKind.i64 0)) 3, type := 4, pos := "outright.go:76", after := #[{ on := 13, ground := Ground.data }, { on := 10, ground := Ground.guard }], guard := some (10, true) }) (v := undef) rfl (by kernel_rfl) (by kernel_rfl) (by kernel_rfl) (fun _ _ _ h => h) (Or.inr ⟨by rfl, rfl⟩) (by assumption) ?_
        (try simp only [Act.put, List.setIfInBounds_toArray, List.set_cons_zero, List.set_cons_succ])
        refine wpAnyH_take (i := 15) (oi := { dst := some 47, op := Op.pick (Operand.tmp 42) (Operand.tmp 46) (Operand.const (Value.bool false)), type := 4, pos := "outright.go:76", after := #[{ on := 10, ground := Ground.data }, { on := 14, ground := Ground.data }], guard := none }) (v := ?_) rfl (by kernel_rfl) (by kernel_rfl) (by kernel_rfl) (fun _ _ _ h => h) (Or.inl ⟨by rfl, ?_⟩) (by assumption) ?_
        rotate_left
        · (intro w hSw; (try dsimp only at hSw); go_simp; (try with_reducible rfl))
        (try simp only [Act.put, List.setIfInBounds_toArray, List.set_cons_zero, List.set_cons_succ])
        refine wpAnyH_take (i := 16) (oi := { dst := some 48, op := Op.move (Operand.tmp 47), type := 4, pos := "outright.go:76", after := #[{ on := 15, ground := Ground.data }, { on := 13, ground := Ground.chain }], guard := none }) (v := ?_) rfl (by kernel_rfl) (by kernel_rfl) (by kernel_rfl) (fun _ _ _ h => h) (Or.inl ⟨by rfl, ?_⟩) (by assumption) ?_
        rotate_left
        · (intro w hSw; (try dsimp only at hSw); go_simp; (try with_reducible rfl))
        (try simp only [Act.put, List.setIfInBounds_toArray, List.set_cons_zero, List.set_cons_succ])
        refine wpAnyH_take (i := 17) (oi := { dst := some 49, op := Op.load 29 (Operand.tmp 3), type := 29, pos := "outright.go:76", after := #[{ on := 16, ground := Ground.guard }], guard := some (16, false) }) (v := ?_) rfl (by kernel_rfl) (by kernel_rfl) (by kernel_rfl) (fun _ _ _ h => h) (Or.inl ⟨by rfl, ?_⟩) (by assumption) ?_
        rotate_left
        · (intro w hSw; (try dsimp only at hSw); go_simp; (try with_reducible rfl))
        (try simp only [Act.put, List.setIfInBounds_toArray, List.set_cons_zero, List.set_cons_succ])
        refine wpAnyH_take (i := 18) (oi := { dst := some 50, op := Op.load 29 (Operand.tmp 5), type := 29, pos := "outright.go:76", after := #[{ on := 16, ground := Ground.guard }], guard := some (16, false) }) (v := ?_) rfl (by kernel_rfl) (by kernel_rfl) (by kernel_rfl) (fun _ _ _ h => h) (Or.inl ⟨by rfl, ?_⟩) (by assumption) ?_
        rotate_left
        · (intro w hSw; (try dsimp only at hSw); go_simp; (try with_reducible rfl))
        (try simp only [Act.put, List.setIfInBounds_toArray, List.set_cons_zero, List.set_cons_succ])
        refine wpAnyH_take (i := 20) (oi := { dst := some 52, op := Op.load 29 (Operand.tmp 4), type := 29, pos := "outright.go:76", after := #[{ on := 16, ground := Ground.guard }], guard := some (16, false) }) (v := ?_) rfl (by kernel_rfl) (by kernel_rfl) (by kernel_rfl) (fun _ _ _ h => h) (Or.inl ⟨by rfl, ?_⟩) (by assumption) ?_
        rotate_left
        · (intro w hSw; (try dsimp only at hSw); go_simp; (try with_reducible rfl))
        (try simp only [Act.put, List.setIfInBounds_toArray, List.set_cons_zero, List.set_cons_succ])
        refine wpAnyH_take (i := 21) (oi := { dst := some 53, op := Op.load 29 (Operand.tmp 5), type := 29, pos := "outright.go:76", after := #[{ on := 16, ground := Ground.guard }], guard := some (16, false) }) (v := ?_) rfl (by kernel_rfl) (by kernel_rfl) (by kernel_rfl) (fun _ _ _ h => h) (Or.inl ⟨by rfl, ?_⟩) (by assumption) ?_
        rotate_left
        · (intro w hSw; (try dsimp only at hSw); go_simp; (try with_reducible rfl))
        (try simp only [Act.put, List.setIfInBounds_toArray, List.set_cons_zero, List.set_cons_succ])
        refine wpAnyH_take (i := 24) (oi := { dst := some 56, op := Op.load 29 (Operand.tmp 3), type := 29, pos := "outright.go:76", after := #[{ on := 16, ground := Ground.guard }], guard := some (16, false) }) (v := ?_) rfl (by kernel_rfl) (by kernel_rfl) (by kernel_rfl) (fun _ _ _ h => h) (Or.inl ⟨by rfl, ?_⟩) (by assumption) ?_
        rotate_left
        · (intro w hSw; (try dsimp only at hSw); go_simp; (try with_reducible rfl))
        (try simp only [Act.put, List.setIfInBounds_toArray, List.set_cons_zero, List.set_cons_succ])
        refine wpAnyH_take (i := 25) (oi := { dst := some 57, op := Op.load 29 (Operand.tmp 4), type := 29, pos := "outright.go:76", after := #[{ on := 16, ground := Ground.guard }], guard := some (16, false) }) (v := ?_) rfl (by kernel_rfl) (by kernel_rfl) (by kernel_rfl) (fun _ _ _ h => h) (Or.inl ⟨by rfl, ?_⟩) (by assumption) ?_
        rotate_left
        · (intro w hSw; (try dsimp only at hSw); go_simp; (try with_reducible rfl))
        (try simp only [Act.put, List.setIfInBounds_toArray, List.set_cons_zero, List.set_cons_succ])
        refine wpAnyH_ready (rs := [19]) (by kernel_rfl) (by simp) ?_
        refine AllReadyH.cons (o := { dst := some 51, op := Op.call { callee := Callee.value (Operand.func 10), args := #[Operand.tmp 49, Operand.tmp 50], argTypes := #[29, 29] }, type := 29, pos := "outright.go:76", after := #[{ on := 17, ground := Ground.data }, { on := 18, ground := Ground.data }, { on := 16, ground := Ground.chain }, { on := 16, ground := Ground.guard }], guard := some (16, false) }) rfl (fun K hK => ?_) AllReadyH.nil
        go_simp
        (go_at_call 10; ((with_reducible refine (HC2.out _ ?hq).mono ?_); (case hq => exact (((Kp.refl Wc).drew.step hbR_0).step hbR_1)); rintro x wR_2 ⟨vR_2, rfl, MR_2, hbR_2⟩; obtain ⟨pR_2, nR_2, cR_2, eR_2, gR_2, rfl⟩ := NumB.form MR_2))
        go_wp2_with fail
        refine hK.out _ _ ?_ (fun hH3 => ?_)
        · with_reducible exact sv3 ((((Kp.refl Wc).drew.step hbR_0).step hbR_1).step hbR_2) qa0 qa1 qa2 qa3 qb0 qb1 qb2 qb3 qc0 qc1 qc2 qc3
        clear hK K hH2
        (try simp only [Act.put, List.setIfInBounds_toArray, List.set_cons_zero, List.set_cons_succ])
        refine wpAnyH_ready (rs := [22]) (by kernel_rfl) (by simp) ?_
        refine AllReadyH.cons (o := { dst := some 54, op := Op.call { callee := Callee.value (Operand.func 10), args := #[Operand.tmp 52, Operand.tmp 53], argTypes := #[29, 29] }, type := 29, pos := "outright.go:76", after := #[{ on := 20, ground := Ground.data }, { on := 21, ground := Ground.data }, { on := 19, ground := Ground.chain }, { on := 16, ground := Ground.guard }], guard := some (16, false) }) rfl (fun K hK => ?_) AllReadyH.nil
        go_simp
        (go_at_call 10; ((with_reducible refine (HC3.out _ ?hq).mono ?_); (case hq => exact ((((Kp.refl Wc).drew.step hbR_0).step hbR_1).step hbR_2)); rintro x wR_3 ⟨vR_3, rfl, MR_3, hbR_3⟩; obtain ⟨pR_3, nR_3, cR_3, eR_3, gR_3, rfl⟩ := NumB.form MR_3))
        go_wp2_with fail
        refine hK.out _ _ ?_ (fun hH4 => ?_)
        · with_reducible exact sv3 (((((Kp.refl Wc).drew.step hbR_0).step hbR_1).step hbR_2).step hbR_3) qa0 qa1 qa2 qa3 qb0 qb1 qb2 qb3 qc0 qc1 qc2 qc3
        clear hK K hH3
        (try simp only [Act.put, List.setIfInBounds_toArray, List.set_cons_zero, List.set_cons_succ])
        refine wpAnyH_ready (rs := [23]) (by kernel_rfl) (by simp) ?_
        refine AllReadyH.cons (o := { dst := some 55, op := Op.call { callee := Callee.value (Operand.func 11), args := #[Operand.tmp 51, Operand.tmp 54], argTypes := #[29, 29] }, type := 3, pos := "outright.go:76", after := #[{ on := 19, ground := Ground.data }, { on := 22, ground := Ground.data }, { on := 22, ground := Ground.chain }, { on := 16, ground := Ground.guard }], guard := some (16, false) }) rfl (fun K hK => ?_) AllReadyH.nil
        go_simp
        (go_at_call 11; ((with_reducible refine (HC4.out _ ?hq _ ?ha0 _ ?ha1).mono ?_); (case hq => exact (((((Kp.refl Wc).drew.step hbR_0).step hbR_1).step hbR_2).step hbR_3)); (case ha0 => exact (NumB.keep MR_2 hbR_3)); (case ha1 => exact MR_3); rintro x wR_4 ⟨rfl, hbR_4⟩))
        go_wp2_with fail
        refine hK.out _ _ ?_ (fun hH5 => ?_)
        · with_reducible exact sv3 ((((((Kp.refl Wc).drew.step hbR_0).step hbR_1).step hbR_2).step hbR_3).step hbR_4) qa0 qa1 qa2 qa3 qb0 qb1 qb2 qb3 qc0 qc1 qc2 qc3
        clear hK K hH4
        (try simp only [Act.put, List.setIfInBounds_toArray, List.set_cons_zero, List.set_cons_succ])
        refine wpAnyH_ready (rs := [26]) (by kernel_rfl) (by simp) ?_
        refine AllReadyH.cons (o := { dst := some 58, op := Op.call { callee := Callee.value (Operand.func 11), args := #[Operand.tmp 56, Operand.tmp 57], argTypes := #[29, 29] }, type := 3, pos := "outright.go:76", after := #[{ on := 24, ground := Ground.data }, { on := 25, ground := Ground.data }, { on := 23, ground := Ground.chain }, { on := 16, ground := Ground.guard }], guard := some (16, false) }) rfl (fun K hK => ?_) AllReadyH.nil
        go_simp
        (go_at_call 11; ((with_reducible refine (HC5.out _ ?hq).mono ?_); (case hq => exact ((((((Kp.refl Wc).drew.step hbR_0).step hbR_1).step hbR_2).step hbR_3).step hbR_4)); rintro x wR_5 ⟨rfl, hbR_5⟩))
        go_wp2_with fail
        refine hK.out _ _ ?_ (fun hH6 => ?_)
        · with_reducible exact sv3 (((((((Kp.refl Wc).drew.step hbR_0).step hbR_1).step hbR_2).step hbR_3).step hbR_4).step hbR_5) qa0 qa1 qa2 qa3 qb0 qb1 qb2 qb3 qc0 qc1 qc2 qc3
        clear hK K hH5
        (try simp only [Act.put, List.setIfInBounds_toArray, List.set_cons_zero, List.set_cons_succ])
        refine wpAnyH_take (i := 27) (oi := { dst := some 59, op := Op.binOp BinOp.neq 3 (Operand.tmp 55) (Operand.tmp 58) 3, type := 4, pos := "outright.go:76", after := #[{ on := 23, ground := Ground.data }, { on := 26, ground := Ground.data }, { on := 16, ground := Ground.guard }], guard := some (16, false) }) (v := ?_) rfl (by kernel_rfl) (by kernel_rfl) (by kernel_rfl) (fun _ _ _ h => h) (Or.inl ⟨by rfl, ?_⟩) (by assumption) ?_
        rotate_left
        · (intro w hSw; (try dsimp only at hSw); go_simp; (try with_reducible rfl))
        (try simp only [Act.put, List.setIfInBounds_toArray, List.set_cons_zero, List.set_cons_succ])
        refine wpAnyH_take (i := 28) (oi := { dst := some 60, op := Op.pick (Operand.tmp 48) (Operand.const (Value.bool true)) (Operand.tmp 59), type := 4, pos := "outright.go:76", after := #[{ on := 16, ground := Ground.data }, { on := 27, ground := Ground.data }], guard := none }) (v := ?_) rfl (by kernel_rfl) (by kernel_rfl) (by kernel_rfl) (fun _ _ _ h => h) (Or.inl ⟨by rfl, ?_⟩) (by assumption) ?_
        rotate_left
        · (intro w hSw; (try dsimp only at hSw); go_simp; (try with_reducible rfl))
        (try simp only [Act.put, List.setIfInBounds_toArray, List.set_cons_zero, List.set_cons_succ])
        refine wpAnyH_take (i := 29) (oi := { dst := some 61, op := Op.move (Operand.tmp 60), type := 4, pos := "outright.go:76", after := #[{ on := 28, ground := Ground.data }, { on := 26, ground := Ground.chain }], guard := none }) (v := ?_) rfl (by kernel_rfl) (by kernel_rfl) (by kernel_rfl) (fun _ _ _ h => h) (Or.inl ⟨by rfl, ?_⟩) (by assumption) ?_
        rotate_left
        · (intro w hSw; (try dsimp only at hSw); go_simp; (try with_reducible rfl))
        (try simp only [Act.put, List.setIfInBounds_toArray, List.set_cons_zero, List.set_cons_succ])
        refine wpAnyH_take (i := 30) (oi := { dst := some 62, op := Op.load 29 (Operand.tmp 3), type := 29, pos := "outright.go:76", after := #[{ on := 29, ground := Ground.guard }], guard := some (29, false) }) (v := ?_) rfl (by kernel_rfl) (by kernel_rfl) (by kernel_rfl) (fun _ _ _ h => h) (Or.inl ⟨by rfl, ?_⟩) (by assumption) ?_
        rotate_left
        · (intro w hSw; (try dsimp only at hSw); go_simp; (try with_reducible rfl))
        (try simp only [Act.put, List.setIfInBounds_toArray, List.set_cons_zero, List.set_cons_succ])
        refine wpAnyH_take (i := 31) (oi := { dst := some 63, op := Op.load 29 (Operand.tmp 4), type := 29, pos := "outright.go:76", after := #[{ on := 29, ground := Ground.guard }], guard := some (29, false) }) (v := ?_) rfl (by kernel_rfl) (by kernel_rfl) (by kernel_rfl) (fun _ _ _ h => h) (Or.inl ⟨by rfl, ?_⟩) (by assumption) ?_
        rotate_left
        · (intro w hSw; (try dsimp only at hSw); go_simp; (try with_reducible rfl))
        (try simp only [Act.put, List.setIfInBounds_toArray, List.set_cons_zero, List.set_cons_succ])
        refine wpAnyH_ready (rs := [32]) (by kernel_rfl) (by simp) ?_
        refine AllReadyH.cons (o := { dst := some 64, op := Op.call { callee := Callee.value (Operand.func 11), args := #[Operand.tmp 62, Operand.tmp 63], argTypes := #[29, 29] }, type := 3, pos := "outright.go:76", after := #[{ on := 30, ground := Ground.data }, { on := 31, ground := Ground.data }, { on := 29, ground := Ground.chain }, { on := 29, ground := Ground.guard }], guard := some (29, false) }) rfl (fun K hK => ?_) AllReadyH.nil
        go_simp
        (go_at_call 11; ((with_reducible refine (HC6.out _ ?hq).mono ?_); (case hq => exact (((((((Kp.refl Wc).drew.step hbR_0).step hbR_1).step hbR_2).step hbR_3).step hbR_4).step hbR_5)); rintro x wR_6 ⟨rfl, hbR_6⟩))
        go_wp2_with fail
        refine hK.out _ _ ?_ (fun hH7 => ?_)
        · with_reducible exact sv3 ((((((((Kp.refl Wc).drew.step hbR_0).step hbR_1).step hbR_2).step hbR_3).step hbR_4).step hbR_5).step hbR_6) qa0 qa1 qa2 qa3 qb0 qb1 qb2 qb3 qc0 qc1 qc2 qc3
        clear hK K hH6
        (try simp only [Act.put, List.setIfInBounds_toArray, List.set_cons_zero, List.set_cons_succ])
        refine wpAnyH_take (i := 33) (oi := { dst := some 65, op := Op.binOp BinOp.gtr 3 (Operand.tmp 64) (Operand.const (Value.int IntKind.i64 0)) 3, type := 4, pos := "outright.go:76", after := #[{ on := 32, ground := Ground.data }, { on := 29, ground := Ground.guard }], guard := some (29, false) }) (v := ?_) rfl (by kernel_rfl) (by kernel_rfl) (by kernel_rfl) (fun _ _ _ h => h) (Or.inl ⟨by rfl, ?_⟩) (by assumption) ?_
        rotate_left
        · (intro w hSw; (try dsimp only at hSw); go_simp; (try with_reducible rfl))
        (try simp only [Act.put, List.setIfInBounds_toArray, List.set_cons_zero, List.set_cons_succ])
        refine wpAnyH_take (i := 34) (oi := { dst := some 66, op := Op.move (Operand.tmp 65), type := 4, pos := "outright.go:76", after := #[{ on := 33, ground := Ground.data }, { on := 32, ground := Ground.chain }, { on := 29, ground := Ground.guard }], guard := some (29, false) }) (v := ?_) rfl (by kernel_rfl) (by kernel_rfl) (by kernel_rfl) (fun _ _ _ h => h) (Or.inl ⟨by rfl, ?_⟩) (by assumption) ?_
        rotate_left
        · (intro w hSw; (try dsimp only at hSw); go_simp; (try with_reducible rfl))
        (try simp only [Act.put, List.setIfInBounds_toArray, List.set_cons_zero, List.set_cons_succ])
        refine wpAnyH_take (i := 35) (oi := { dst := some 67, op := Op.load 29 (Operand.tmp 3), type := 29, pos := "outright.go:76", after := #[{ on := 34, ground := Ground.guard }], guard := some (34, true) }) (v := ?_) rfl (by kernel_rfl) (by kernel_rfl) (by kernel_rfl) (fun _ _ _ h => h) (Or.inl ⟨by rfl, ?_⟩) (by assumption) ?_
        rotate_left
        · (intro w hSw; (try dsimp only at hSw); go_simp; (try with_reducible rfl))
        (try simp only [Act.put, List.setIfInBounds_toArray, List.set_cons_zero, List.set_cons_succ])
        refine wpAnyH_take (i := 37) (oi := { dst := some 69, op := Op.load 29 (Operand.tmp 4), type := 29, pos := "outright.go:76", after := #[{ on := 34, ground := Ground.guard }], guard := some (34, true) }) (v := ?_) rfl (by kernel_rfl) (by kernel_rfl) (by kernel_rfl) (fun _ _ _ h => h) (Or.inl ⟨by rfl, ?_⟩) (by assumption) ?_
        rotate_left
        · (intro w hSw; (try dsimp only at hSw); go_simp; (try with_reducible rfl))
        (try simp only [Act.put, List.setIfInBounds_toArray, List.set_cons_zero, List.set_cons_succ])
        refine wpAnyH_ready (rs := [36]) (by kernel_rfl) (by simp) ?_
        refine AllReadyH.cons (o := { dst := some 68, op := Op.call { callee := Callee.value (Operand.func 19), args := #[Operand.tmp 67], argTypes := #[29] }, type := 22, pos := "outright.go:76", after := #[{ on := 35, ground := Ground.data }, { on := 34, ground := Ground.chain }, { on := 34, ground := Ground.guard }], guard := some (34, true) }) rfl (fun K hK => ?_) AllReadyH.nil
        go_simp
        (go_at_call 19; ((with_reducible refine (HC7.out _ ?hq).mono ?_); (case hq => exact ((((((((Kp.refl Wc).drew.step hbR_0).step hbR_1).step hbR_2).step hbR_3).step hbR_4).step hbR_5).step hbR_6)); rintro x wR_7 ⟨fR_7, rfl, hfR_7, hbR_7⟩))
        go_wp2_with fail
        refine hK.out _ _ ?_ (fun hH8 => ?_)
        · with_reducible exact sv3 (((((((((Kp.refl Wc).drew.step hbR_0).step hbR_1).step hbR_2).step hbR_3).step hbR_4).step hbR_5).step hbR_6).step hbR_7) qa0 qa1 qa2 qa3 qb0 qb1 qb2 qb3 qc0 qc1 qc2 qc3
        clear hK K hH7
        (try simp only [Act.put, List.setIfInBounds_toArray, List.set_cons_zero, List.set_cons_succ])
        refine wpAnyH_ready (rs := [38]) (by kernel_rfl) (by simp) ?_
        refine AllReadyH.cons (o := { dst := some 70, op := Op.call { callee := Callee.value (Operand.func 19), args := #[Operand.tmp 69], argTypes := #[29] }, type := 22, pos := "outright.go:76", after := #[{ on := 37, ground := Ground.data }, { on := 36, ground := Ground.chain }, { on := 34, ground := Ground.guard }], guard := some (34, true) }) rfl (fun K hK => ?_) AllReadyH.nil
        go_simp
        (go_at_call 19; ((with_reducible refine (HC8.out _ ?hq).mono ?_); (case hq => exact (((((((((Kp.refl Wc).drew.step hbR_0).step hbR_1).step hbR_2).step hbR_3).step hbR_4).step hbR_5).step hbR_6).step hbR_7)); rintro x wR_8 ⟨fR_8, rfl, hfR_8, hbR_8⟩; have nlt := FloOf.not_lt hfR_7 hfR_8 HF4.out; clear hfR_7 hfR_8))
        go_wp2_with fail
        refine hK.out _ _ ?_ (fun hH9 => ?_)
        · with_reducible exact sv3 ((((((((((Kp.refl Wc).drew.step hbR_0).step hbR_1).step hbR_2).step hbR_3).step hbR_4).step hbR_5).step hbR_6).step hbR_7).step hbR_8) qa0 qa1 qa2 qa3 qb0 qb1 qb2 qb3 qc0 qc1 qc2 qc3
        clear hK K hH8
        (try simp only [Act.put, List.setIfInBounds_toArray, List.set_cons_zero, List.set_cons_succ])
        refine wpAnyH_take (i := 39) (oi := { dst := some 71, op := Op.binOp BinOp.lss 22 (Operand.tmp 68) (Operand.tmp 70) 22, type := 4, pos := "outright.go:76", after := #[{ on := 36, ground := Ground.data }, { on := 38, ground := Ground.data }, { on := 34, ground := Ground.guard }], guard := some (34, true) }) (v := ?_) rfl (by kernel_rfl) (by kernel_rfl) (by kernel_rfl) (fun _ _ _ h => h) (Or.inl ⟨by rfl, ?_⟩) (by assumption) ?_
        rotate_left
        · (intro w hSw; (try dsimp only at hSw); go_simp; (try with_reducible rfl))
        (try simp only [Act.put, List.setIfInBounds_toArray, List.set_cons_zero, List.set_cons_succ])
        refine wpAnyH_take (i := 40) (oi := { dst := some 72, op := Op.pick (Operand.tmp 66) (Operand.tmp 71) (Operand.const (Value.bool false)), type := 4, pos := "outright.go:76", after := #[{ on := 34, ground := Ground.data }, { on := 39, ground := Ground.data }, { on := 29, ground := Ground.guard }], guard := some (29, false) }) (v := ?_) rfl (by kernel_rfl) (by kernel_rfl) (by kernel_rfl) (fun _ _ _ h => h) (Or.inl ⟨by rfl, ?_⟩) (by assumption) ?_
        rotate_left
        · (intro w hSw; (try dsimp only at hSw); go_simp; (try with_reducible rfl))
        (try simp only [Act.put, List.setIfInBounds_toArray, List.set_cons_zero, List.set_cons_succ])
        refine wpAnyH_take (i := 41) (oi := { dst := some 73, op := Op.pick (Operand.tmp 61) (Operand.const (Value.bool true)) (Operand.tmp 72), type := 4, pos := "outright.go:76", after := #[{ on := 29, ground := Ground.data }, { on := 40, ground := Ground.data }], guard := none }) (v := ?_) rfl (by kernel_rfl) (by kernel_rfl) (by kernel_rfl) (fun _ _ _ h => h) (Or.inl ⟨by rfl, ?_⟩) (by assumption) ?_
        rotate_left
        · (intro w hSw; (try dsimp only at hSw); go_simp; (try with_reducible rfl))
        (try simp only [Act.put, List.setIfInBounds_toArray, List.set_cons_zero, List.set_cons_succ])
        refine wpAnyH_done (by kernel_rfl) ?_ _
        clear hH9
        go_wp2_with fail
        go_meet
        exact ⟨rfl, ((((((((((Kp.refl Wc).drew.step hbR_0).step hbR_1).step hbR_2).step hbR_3).step hbR_4).step hbR_5).step hbR_6).step hbR_7).step hbR_8)⟩
  case rest =>
    obtain ⟨rfl, hK⟩ := hcut
    have HT := Lib.hid (HT.out.keep hK.out)
    have HW := Lib.hid (bl_pack HW.out HW.out.size hK.out)
    have Na := Lib.hid (Na.out.keep hK.out)
    have Nb := Lib.hid (Nb.out.keep hK.out)
    have Nc := Lib.hid (Nc.out.keep hK.out)
    have Ka := Lib.hid (keep_block hK.out Ka.out)
    have Kb := Lib.hid (keep_block hK.out Kb.out)
    have Kc := Lib.hid (keep_block hK.out Kc.out)
    clear qa0 qa1 qa2 qa3 qb0 qb1 qb2 qb3 qc0 qc1 qc2 qc3 f3 f4 hK HS HS2 HS3 HSA
    obtain ⟨wz, rfl⟩ : ∃ z : World, z = wc := ⟨_, rfl⟩
    by_cases z : ra = 0
    · have hz : rs ra = 0 := by rw [z]; rfl
      obtain ⟨qa0, qa1, qa2, qa3, -, -, -, -⟩ := res4_facts Ka.out
      go_wp2_with fail
      refine (signBn 0 Na.out hz).mono ?_
      rintro _ w21 ⟨rfl, b21⟩
      have HT := Lib.hid (HT.out.keep b21)
      have HW := Lib.hid (bl_pack HW.out HW.out.size b21)
      have Na := Lib.hid (Na.out.keep b21)
      have Ka := Lib.hid (keep_block b21 Ka.out)
      clear b21
      clear qa0 qa1 qa2 qa3
      obtain ⟨qa0, qa1, qa2, qa3, -, -, -, -⟩ := res4_facts Ka.out
      go_wp2_with fail
      refine (highB 0 Na.out (Or.inr ⟨z, rfl⟩)).mono ?_
      rintro _ w22 ⟨rfl, b22⟩
      have HT := Lib.hid (HT.out.keep b22)
      have HW := Lib.hid (bl_pack HW.out HW.out.size b22)
      have Na := Lib.hid (Na.out.keep b22)
      have Ka := Lib.hid (keep_block b22 Ka.out)
      clear b22
      clear qa0 qa1 qa2 qa3
      obtain ⟨qa0, qa1, qa2, qa3, -, -, -, -⟩ := res4_facts Ka.out
      go_wp2_with fail
      refine (lowB 0 Na.out HT.out (Or.inr ⟨z, rfl⟩)).mono ?_
      rintro _ w23 ⟨rfl, b23⟩
      have HT := Lib.hid (HT.out.keep b23)
      have HW := Lib.hid (bl_pack HW.out HW.out.size b23)
      have Na := Lib.hid (Na.out.keep b23)
      have Ka := Lib.hid (keep_block b23 Ka.out)
      clear b23
      go_wp2_with fail
      go_ret
      exact ⟨rfl, HW.out⟩
    · obtain ⟨h, l, eh, el, hb, lb⟩ := Na.out.2.ends z
      have hlh := low_le_high eh el
      by_cases hp : 0 < ra
      · have hz : rs ra = 1 := rs_pos hp
        obtain ⟨qa0, qa1, qa2, qa3, -, -, -, -⟩ := res4_facts Ka.out
        go_wp2_with fail
        refine (signBn 1 Na.out hz).mono ?_
        rintro _ w21 ⟨rfl, b21⟩
        have HT := Lib.hid (HT.out.keep b21)
        have HW := Lib.hid (bl_pack HW.out HW.out.size b21)
        have Na := Lib.hid (Na.out.keep b21)
        have Ka := Lib.hid (keep_block b21 Ka.out)
        clear b21
        clear qa0 qa1 qa2 qa3
        obtain ⟨qa0, qa1, qa2, qa3, -, -, -, -⟩ := res4_facts Ka.out
        go_upto_region 10 with (fail)
        obtain ⟨Wm, hWm, Bm, -, Jm⟩ := box_res w21 (.cells #[.slice pa na ca, .int .i64 ea, .bool ga, .bool false] 29)
        go_upto_region 11 with (fail)
        rw [← hWm]
        clear hWm
        clear qa0 qa1 qa2 qa3
        have HT := Lib.hid (HT.out.keep Bm)
        have HW := Lib.hid (bl_pack HW.out HW.out.size Bm)
        have Na := Lib.hid (Na.out.keep Bm)
        have Ka := Lib.hid (keep_block Bm Ka.out)
        have Km := Lib.hid Jm
        clear Bm Jm
        obtain ⟨qm0, qm1, qm2, qm3, -, -, -, -⟩ := res4_facts Km.out
        go_wp2_with fail
        refine (signBn 1 Na.out hz).mono ?_
        rintro _ w22 ⟨rfl, b22⟩
        have HT := Lib.hid (HT.out.keep b22)
        have HW := Lib.hid (bl_pack HW.out HW.out.size b22)
        have Na := Lib.hid (Na.out.keep b22)
        have Ka := Lib.hid (keep_block b22 Ka.out)
        have Km := Lib.hid (keep_block b22 Km.out)
        clear b22
        clear qm0 qm1 qm2 qm3
        have Nm := Na
        obtain ⟨qa0, qa1, qa2, qa3, -, -, -, -⟩ := res4_facts Ka.out
        obtain ⟨qm0, qm1, qm2, qm3, -, -, -, -⟩ := res4_facts Km.out
        go_wp2_with fail
        refine (intB 1 (by decide) (by decide) HT.out).mono ?_
        rintro _ w23 ⟨vo, rfl, Mo, b23⟩
        have HT := Lib.hid (HT.out.keep b23)
        have HW := Lib.hid (bl_pack HW.out HW.out.size b23)
        have Na := Lib.hid (Na.out.keep b23)
        have Nm := Lib.hid (Nm.out.keep b23)
        have Ka := Lib.hid (keep_block b23 Ka.out)
        have Km := Lib.hid (keep_block b23 Km.out)
        have No := Lib.hid Mo
        clear b23 Mo
        clear qa0 qa1 qa2 qa3 qm0 qm1 qm2 qm3
        obtain ⟨po, no, co, eo, go, rfl⟩ := No.out.form
        obtain ⟨Wo, hWo, Bo, -, Jo⟩ := box_res w23 (.cells #[.slice po no co, .int .i64 eo, .bool go, .bool false] 29)
        go_upto_region 14 with (fail)
        rw [← hWo]
        clear hWo
        have HT := Lib.hid (HT.out.keep Bo)
        have HW := Lib.hid (bl_pack HW.out HW.out.size Bo)
        have Na := Lib.hid (Na.out.keep Bo)
        have Nm := Lib.hid (Nm.out.keep Bo)
        have No := Lib.hid (No.out.keep Bo)
        have Ka := Lib.hid (keep_block Bo Ka.out)
        have Km := Lib.hid (keep_block Bo Km.out)
        have Ko := Lib.hid Jo
        clear Bo Jo
        obtain ⟨qa0, qa1, qa2, qa3, -, -, -, -⟩ := res4_facts Ka.out
        obtain ⟨qm0, qm1, qm2, qm3, -, -, -, -⟩ := res4_facts Km.out
        obtain ⟨qo0, qo1, qo2, qo3, -, -, -, -⟩ := res4_facts Ko.out
        go_wp2_with fail
        refine (highB h Na.out (Or.inl eh)).mono ?_
        rintro _ w24 ⟨rfl, b24⟩
        have HT := Lib.hid (HT.out.keep b24)
        have HW := Lib.hid (bl_pack HW.out HW.out.size b24)
        have Na := Lib.hid (Na.out.keep b24)
        have Nm := Lib.hid (Nm.out.keep b24)
        have No := Lib.hid (No.out.keep b24)
        have Ka := Lib.hid (keep_block b24 Ka.out)
        have Km := Lib.hid (keep_block b24 Km.out)
        have Ko := Lib.hid (keep_block b24 Ko.out)
        clear b24
        clear qa0 qa1 qa2 qa3 qm0 qm1 qm2 qm3 qo0 qo1 qo2 qo3
        obtain ⟨qa0, qa1, qa2, qa3, -, -, -, -⟩ := res4_facts Ka.out
        obtain ⟨qm0, qm1, qm2, qm3, -, -, -, -⟩ := res4_facts Km.out
        obtain ⟨qo0, qo1, qo2, qo3, -, -, -, -⟩ := res4_facts Ko.out
        have b1 : IntKind.i64.wrap (h + 1) = h + 1 := IntWalk.i64_in _ (by omega)
        have b2 : decide (l ≤ h) = true := decide_eq_true hlh
        obtain ⟨m1, m2⟩ := (high_abs eh).1 hp
        obtain ⟨s1, hs1⟩ : ∃ s1, rs (ra - ((1 : Int) : Rat) * (2 : Rat) ^ h) = s1 := ⟨_, rfl⟩
        have b3 : decide (0 ≤ s1) = true := decide_eq_true (by rw [← hs1]; exact rs_ge (by rw [show ((1 : Int) : Rat) = 1 from rfl, Rat.one_mul]; exact m1))
        have hs2 : rs (ra - ((1 : Int) : Rat) * (2 : Rat) ^ (h + 1)) = -1 := rs_neg (by rw [show ((1 : Int) : Rat) = 1 from rfl, Rat.one_mul]; grind)
        have HS1 := Lib.hid hs1
        have HS2 := Lib.hid hs2
        have HL := Lib.hid el
        have HB := Lib.hid (show 64 + h.natAbs ≤ 2300 ∧ 64 + (h + 1).natAbs ≤ 2300 by omega)
        clear hs1 hs2 m1 m2 el eh hb lb hlh hp z hz
        go_wp2_with fail
        have HC0 := Lib.hid (fun (Y : World) (h' : Kp w24 Y) => lowB l (Na.out.keep h'.out) (HT.out.keep h'.out) (Or.inl HL.out))
        have HC1 := Lib.hid (fun (Y : World) (h' : Kp w24 Y) => shiftB 2300 h (No.out.keep h'.out) (HT.out.keep h'.out) HB.out.1 (by decide))
        have HC2 := Lib.hid (fun (Y : World) (h' : Kp w24 Y) (v : Value) (hv : NumB 0 Y v (((1 : Int) : Rat) * (2 : Rat) ^ h) 2300) => cmpBn s1 (Nm.out.keep h'.out) hv (HT.out.keep h'.out) (by decide) (by decide) HS1.out)
        have HC3 := Lib.hid (fun (Y : World) (h' : Kp w24 Y) => shiftB 2300 (h + 1) (No.out.keep h'.out) (HT.out.keep h'.out) HB.out.2 (by decide))
        have HC4 := Lib.hid (fun (Y : World) (h' : Kp w24 Y) (v : Value) (hv : NumB 0 Y v (((1 : Int) : Rat) * (2 : Rat) ^ (h + 1)) 2300) => cmpBn (-1) (Nm.out.keep h'.out) hv (HT.out.keep h'.out) (by decide) (by decide) HS2.out)
        go_region_held3 (fun w' => w'.cell? ⟨w2.heap.size, 0, none⟩ = some (.slice pa na ca) ∧ w'.cell? ⟨w2.heap.size, 1, none⟩ = some (.int .i64 ea) ∧ w'.cell? ⟨w2.heap.size, 2, none⟩ = some (.bool ga) ∧ w'.cell? ⟨w2.heap.size, 3, none⟩ = some (.bool false) ∧ w'.cell? ⟨w21.heap.size, 0, none⟩ = some (.slice pa na ca) ∧ w'.cell? ⟨w21.heap.size, 1, none⟩ = some (.int .i64 ea) ∧ w'.cell? ⟨w21.heap.size, 2, none⟩ = some (.bool ga) ∧ w'.cell? ⟨w21.heap.size, 3, none⟩ = some (.bool false) ∧ w'.cell? ⟨w23.heap.size, 0, none⟩ = some (.slice po no co) ∧ w'.cell? ⟨w23.heap.size, 1, none⟩ = some (.int .i64 eo) ∧ w'.cell? ⟨w23.heap.size, 2, none⟩ = some (.bool go) ∧ w'.cell? ⟨w23.heap.size, 3, none⟩ = some (.bool false) ∧ Kp w24 w')
          (first | with_reducible exact sv3 ((((((Kp.refl w24).drew.step hbT_0).step hbT_1).step hbT_2).step hbT_3).step hbT_4) qa0 qa1 qa2 qa3 qm0 qm1 qm2 qm3 qo0 qo1 qo2 qo3 | with_reducible exact sv3 (((((Kp.refl w24).drew.step hbT_0).step hbT_1).step hbT_2).step hbT_3) qa0 qa1 qa2 qa3 qm0 qm1 qm2 qm3 qo0 qo1 qo2 qo3 | with_reducible exact sv3 ((((Kp.refl w24).drew.step hbT_0).step hbT_1).step hbT_2) qa0 qa1 qa2 qa3 qm0 qm1 qm2 qm3 qo0 qo1 qo2 qo3 | with_reducible exact sv3 (((Kp.refl w24).drew.step hbT_0).step hbT_1) qa0 qa1 qa2 qa3 qm0 qm1 qm2 qm3 qo0 qo1 qo2 qo3 | with_reducible exact sv3 ((Kp.refl w24).drew.step hbT_0) qa0 qa1 qa2 qa3 qm0 qm1 qm2 qm3 qo0 qo1 qo2 qo3 | with_reducible exact sv3 (Kp.refl w24).drew qa0 qa1 qa2 qa3 qm0 qm1 qm2 qm3 qo0 qo1 qo2 qo3)
          (first
            | (go_at_call 11; ((with_reducible refine (HC4.out _ ?hq _ ?ha0).mono ?_); (case hq => exact (((((Kp.refl w24).drew.step hbT_0).step hbT_1).step hbT_2).step hbT_3)); (case ha0 => exact MT_3); rintro x wT_4 ⟨rfl, hbT_4⟩))
            | (go_at_call 16; ((with_reducible refine (HC3.out _ ?hq).mono ?_); (case hq => exact ((((Kp.refl w24).drew.step hbT_0).step hbT_1).step hbT_2)); rintro x wT_3 ⟨vT_3, rfl, MT_3, hbT_3⟩; obtain ⟨pT_3, nT_3, cT_3, eT_3, gT_3, rfl⟩ := NumB.form MT_3))
            | (go_at_call 11; ((with_reducible refine (HC2.out _ ?hq _ ?ha0).mono ?_); (case hq => exact (((Kp.refl w24).drew.step hbT_0).step hbT_1)); (case ha0 => exact MT_1); rintro x wT_2 ⟨rfl, hbT_2⟩))
            | (go_at_call 16; ((with_reducible refine (HC1.out _ ?hq).mono ?_); (case hq => exact ((Kp.refl w24).drew.step hbT_0)); rintro x wT_1 ⟨vT_1, rfl, MT_1, hbT_1⟩; obtain ⟨pT_1, nT_1, cT_1, eT_1, gT_1, rfl⟩ := NumB.form MT_1))
            | (go_at_call 21; ((with_reducible refine (HC0.out _ ?hq).mono ?_); (case hq => exact (Kp.refl w24).drew); rintro x wT_0 ⟨rfl, hbT_0⟩)))
        go_wp2_with fail
        go_ret
        exact ⟨rfl, bl_pack HW.out HW.out.size ((((((Kp.refl w24).drew.step hbT_0).step hbT_1).step hbT_2).step hbT_3).step hbT_4).out⟩
      · have hp : ra < 0 := Rat.not_le.1 (fun h => hp (Rat.lt_of_le_of_ne h (fun e => z e.symm)))
        have hz : rs ra = -1 := rs_neg hp
        obtain ⟨qa0, qa1, qa2, qa3, -, -, -, -⟩ := res4_facts Ka.out
        go_wp2_with fail
        refine (signBn (-1) Na.out hz).mono ?_
        rintro _ w21 ⟨rfl, b21⟩
        have HT := Lib.hid (HT.out.keep b21)
        have HW := Lib.hid (bl_pack HW.out HW.out.size b21)
        have Na := Lib.hid (Na.out.keep b21)
        have Ka := Lib.hid (keep_block b21 Ka.out)
        clear b21
        clear qa0 qa1 qa2 qa3
        obtain ⟨qa0, qa1, qa2, qa3, -, -, -, -⟩ := res4_facts Ka.out
        have NL : WNum (fun b => b < w21.heap.size) w21 _ (some ra) := Na.out.1.lt.mono fun b h => h.2
        have HTs := HT
        have Nas := Na
        have Kas := Ka
        have HWs := HW
        have HM := Lib.hid (Below.refl w21.heap.size w21)
        go_upto_region 10 with (fail)
        obtain ⟨Wm, hWm, Bm, -, Jm⟩ := box_res w21 (.cells #[.slice pa na ca, .int .i64 ea, .bool ga, .bool false] 29)
        go_upto_region 11 with (fail)
        rw [← hWm]
        clear hWm
        clear qa0 qa1 qa2 qa3
        have HT := Lib.hid (HT.out.keep Bm)
        have HW := Lib.hid (bl_pack HW.out HW.out.size Bm)
        have HM := Lib.hid (bl_pack HM.out HM.out.size Bm)
        have Na := Lib.hid (Na.out.keep Bm)
        have Ka := Lib.hid (keep_block Bm Ka.out)
        have NL := NL.keep Bm
        have Km := Lib.hid Jm
        clear Bm Jm
        obtain ⟨qm0, qm1, qm2, qm3, -, -, -, -⟩ := res4_facts Km.out
        go_wp2_with fail
        refine (signBn (-1) Na.out hz).mono ?_
        rintro _ w22 ⟨rfl, b22⟩
        have HT := Lib.hid (HT.out.keep b22)
        have HW := Lib.hid (bl_pack HW.out HW.out.size b22)
        have HM := Lib.hid (bl_pack HM.out HM.out.size b22)
        have Na := Lib.hid (Na.out.keep b22)
        have Ka := Lib.hid (keep_block b22 Ka.out)
        have Km := Lib.hid (keep_block b22 Km.out)
        have NL := NL.keep b22
        clear b22
        clear qm0 qm1 qm2 qm3
        obtain ⟨qm0, qm1, qm2, qm3, fm0, fm1, fm2, fm3⟩ := res4_facts Km.out
        go_wp2_with fail
        refine (wNeg_num NL).mono ?_
        rintro _ w23 ⟨vn, rfl, Nn, b23⟩
        have HT := Lib.hid (HT.out.keep b23)
        have HW := Lib.hid (bl_pack HW.out HW.out.size b23)
        have HM := Lib.hid (bl_pack HM.out HM.out.size b23)
        have Na := Lib.hid (Na.out.keep b23)
        have Ka := Lib.hid (keep_block b23 Ka.out)
        have Km := Lib.hid (keep_block b23 Km.out)
        clear b23 qm0 qm1 qm2 qm3 fm0 fm1 fm2 fm3
        obtain ⟨pn, nn, cn, en, gn, hnv⟩ := NumB.form (F := 0) (⟨Nn.mono fun _ _ => Nat.zero_le _, Na.out.2.neg⟩ : NumB 0 w23 vn (-ra) 2149)
        subst hnv
        obtain ⟨qm0, qm1, qm2, qm3, fm0, fm1, fm2, fm3⟩ := res4_facts Km.out
        obtain ⟨Wn, hWn⟩ : ∃ W, W = ((((w23.setCell ⟨w21.heap.size, 0, none⟩ (.slice pn nn cn)).setCell ⟨w21.heap.size, 1, none⟩ (.int .i64 en)).setCell ⟨w21.heap.size, 2, none⟩ (.bool gn)).setCell ⟨w21.heap.size, 3, none⟩ (.bool false)) := ⟨_, rfl⟩
        have hM : Below w21.heap.size w21 Wn := by rw [hWn]; exact bl_put4 HM.out (Nat.le_refl _) _ _ _ _
        have hNm : NumB 0 Wn (.agg #[.slice pn nn cn, .int .i64 en, .bool gn, .bool false]) (-ra) 2149 := by rw [hWn]; exact ⟨(Nn.put4 (b := w21.heap.size) (Nat.lt_irrefl _) _ _ _ _).mono fun _ _ => Nat.zero_le _, Na.out.2.neg⟩
        have hKm : Wn.heap[w21.heap.size]? = some (.cells #[.slice pn nn cn, .int .i64 en, .bool gn, .bool false] 29 (0, 0)) := by rw [hWn]; exact put4_block Km.out _ _ _ _
        go_upto_region 13 with (fail)
        rw [← hWn]
        have HT := Lib.hid (HTs.out.keep hM)
        have HW := Lib.hid (bl_pack HWs.out HWs.out.size hM)
        have Na := Lib.hid (Nas.out.keep hM)
        have Ka := Lib.hid (keep_block hM Kas.out)
        have Nm := Lib.hid hNm
        have Km := Lib.hid hKm
        clear qm0 qm1 qm2 qm3 fm0 fm1 fm2 fm3 hWn hM hNm hKm Nn NL HTs HWs Nas Kas HM
        obtain ⟨qa0, qa1, qa2, qa3, -, -, -, -⟩ := res4_facts Ka.out
        obtain ⟨qm0, qm1, qm2, qm3, -, -, -, -⟩ := res4_facts Km.out
        go_wp2_with fail
        refine (intB 1 (by decide) (by decide) HT.out).mono ?_
        rintro _ w24 ⟨vo, rfl, Mo, b24⟩
        have HT := Lib.hid (HT.out.keep b24)
        have HW := Lib.hid (bl_pack HW.out HW.out.size b24)
        have Na := Lib.hid (Na.out.keep b24)
        have Nm := Lib.hid (Nm.out.keep b24)
        have Ka := Lib.hid (keep_block b24 Ka.out)
        have Km := Lib.hid (keep_block b24 Km.out)
        have No := Lib.hid Mo
        clear b24 Mo
        clear qa0 qa1 qa2 qa3 qm0 qm1 qm2 qm3
        obtain ⟨po, no, co, eo, go, rfl⟩ := No.out.form
        obtain ⟨Wo, hWo, Bo, -, Jo⟩ := box_res w24 (.cells #[.slice po no co, .int .i64 eo, .bool go, .bool false] 29)
        go_upto_region 14 with (fail)
        rw [← hWo]
        clear hWo
        have HT := Lib.hid (HT.out.keep Bo)
        have HW := Lib.hid (bl_pack HW.out HW.out.size Bo)
        have Na := Lib.hid (Na.out.keep Bo)
        have Nm := Lib.hid (Nm.out.keep Bo)
        have No := Lib.hid (No.out.keep Bo)
        have Ka := Lib.hid (keep_block Bo Ka.out)
        have Km := Lib.hid (keep_block Bo Km.out)
        have Ko := Lib.hid Jo
        clear Bo Jo
        obtain ⟨qa0, qa1, qa2, qa3, -, -, -, -⟩ := res4_facts Ka.out
        obtain ⟨qm0, qm1, qm2, qm3, -, -, -, -⟩ := res4_facts Km.out
        obtain ⟨qo0, qo1, qo2, qo3, -, -, -, -⟩ := res4_facts Ko.out
        go_wp2_with fail
        refine (highB h Na.out (Or.inl eh)).mono ?_
        rintro _ w25 ⟨rfl, b25⟩
        have HT := Lib.hid (HT.out.keep b25)
        have HW := Lib.hid (bl_pack HW.out HW.out.size b25)
        have Na := Lib.hid (Na.out.keep b25)
        have Nm := Lib.hid (Nm.out.keep b25)
        have No := Lib.hid (No.out.keep b25)
        have Ka := Lib.hid (keep_block b25 Ka.out)
        have Km := Lib.hid (keep_block b25 Km.out)
        have Ko := Lib.hid (keep_block b25 Ko.out)
        clear b25
        clear qa0 qa1 qa2 qa3 qm0 qm1 qm2 qm3 qo0 qo1 qo2 qo3
        obtain ⟨qa0, qa1, qa2, qa3, -, -, -, -⟩ := res4_facts Ka.out
        obtain ⟨qm0, qm1, qm2, qm3, -, -, -, -⟩ := res4_facts Km.out
        obtain ⟨qo0, qo1, qo2, qo3, -, -, -, -⟩ := res4_facts Ko.out
        have b1 : IntKind.i64.wrap (h + 1) = h + 1 := IntWalk.i64_in _ (by omega)
        have b2 : decide (l ≤ h) = true := decide_eq_true hlh
        obtain ⟨m1, m2⟩ := (high_abs eh).2 hp
        obtain ⟨s1, hs1⟩ : ∃ s1, rs (-ra - ((1 : Int) : Rat) * (2 : Rat) ^ h) = s1 := ⟨_, rfl⟩
        have b3 : decide (0 ≤ s1) = true := decide_eq_true (by rw [← hs1]; exact rs_ge (by rw [show ((1 : Int) : Rat) = 1 from rfl, Rat.one_mul]; exact m1))
        have hs2 : rs (-ra - ((1 : Int) : Rat) * (2 : Rat) ^ (h + 1)) = -1 := rs_neg (by rw [show ((1 : Int) : Rat) = 1 from rfl, Rat.one_mul]; grind)
        have HS1 := Lib.hid hs1
        have HS2 := Lib.hid hs2
        have HL := Lib.hid el
        have HB := Lib.hid (show 64 + h.natAbs ≤ 2300 ∧ 64 + (h + 1).natAbs ≤ 2300 by omega)
        clear hs1 hs2 m1 m2 el eh hb lb hlh hp z hz
        go_wp2_with fail
        have HC0 := Lib.hid (fun (Y : World) (h' : Kp w25 Y) => lowB l (Na.out.keep h'.out) (HT.out.keep h'.out) (Or.inl HL.out))
        have HC1 := Lib.hid (fun (Y : World) (h' : Kp w25 Y) => shiftB 2300 h (No.out.keep h'.out) (HT.out.keep h'.out) HB.out.1 (by decide))
        have HC2 := Lib.hid (fun (Y : World) (h' : Kp w25 Y) (v : Value) (hv : NumB 0 Y v (((1 : Int) : Rat) * (2 : Rat) ^ h) 2300) => cmpBn s1 (Nm.out.keep h'.out) hv (HT.out.keep h'.out) (by decide) (by decide) HS1.out)
        have HC3 := Lib.hid (fun (Y : World) (h' : Kp w25 Y) => shiftB 2300 (h + 1) (No.out.keep h'.out) (HT.out.keep h'.out) HB.out.2 (by decide))
        have HC4 := Lib.hid (fun (Y : World) (h' : Kp w25 Y) (v : Value) (hv : NumB 0 Y v (((1 : Int) : Rat) * (2 : Rat) ^ (h + 1)) 2300) => cmpBn (-1) (Nm.out.keep h'.out) hv (HT.out.keep h'.out) (by decide) (by decide) HS2.out)
        go_region_held3 (fun w' => w'.cell? ⟨w2.heap.size, 0, none⟩ = some (.slice pa na ca) ∧ w'.cell? ⟨w2.heap.size, 1, none⟩ = some (.int .i64 ea) ∧ w'.cell? ⟨w2.heap.size, 2, none⟩ = some (.bool ga) ∧ w'.cell? ⟨w2.heap.size, 3, none⟩ = some (.bool false) ∧ w'.cell? ⟨w21.heap.size, 0, none⟩ = some (.slice pn nn cn) ∧ w'.cell? ⟨w21.heap.size, 1, none⟩ = some (.int .i64 en) ∧ w'.cell? ⟨w21.heap.size, 2, none⟩ = some (.bool gn) ∧ w'.cell? ⟨w21.heap.size, 3, none⟩ = some (.bool false) ∧ w'.cell? ⟨w24.heap.size, 0, none⟩ = some (.slice po no co) ∧ w'.cell? ⟨w24.heap.size, 1, none⟩ = some (.int .i64 eo) ∧ w'.cell? ⟨w24.heap.size, 2, none⟩ = some (.bool go) ∧ w'.cell? ⟨w24.heap.size, 3, none⟩ = some (.bool false) ∧ Kp w25 w')
          (first | with_reducible exact sv3 ((((((Kp.refl w25).drew.step hbT_0).step hbT_1).step hbT_2).step hbT_3).step hbT_4) qa0 qa1 qa2 qa3 qm0 qm1 qm2 qm3 qo0 qo1 qo2 qo3 | with_reducible exact sv3 (((((Kp.refl w25).drew.step hbT_0).step hbT_1).step hbT_2).step hbT_3) qa0 qa1 qa2 qa3 qm0 qm1 qm2 qm3 qo0 qo1 qo2 qo3 | with_reducible exact sv3 ((((Kp.refl w25).drew.step hbT_0).step hbT_1).step hbT_2) qa0 qa1 qa2 qa3 qm0 qm1 qm2 qm3 qo0 qo1 qo2 qo3 | with_reducible exact sv3 (((Kp.refl w25).drew.step hbT_0).step hbT_1) qa0 qa1 qa2 qa3 qm0 qm1 qm2 qm3 qo0 qo1 qo2 qo3 | with_reducible exact sv3 ((Kp.refl w25).drew.step hbT_0) qa0 qa1 qa2 qa3 qm0 qm1 qm2 qm3 qo0 qo1 qo2 qo3 | with_reducible exact sv3 (Kp.refl w25).drew qa0 qa1 qa2 qa3 qm0 qm1 qm2 qm3 qo0 qo1 qo2 qo3)
          (first
            | (go_at_call 11; ((with_reducible refine (HC4.out _ ?hq _ ?ha0).mono ?_); (case hq => exact (((((Kp.refl w25).drew.step hbT_0).step hbT_1).step hbT_2).step hbT_3)); (case ha0 => exact MT_3); rintro x wT_4 ⟨rfl, hbT_4⟩))
            | (go_at_call 16; ((with_reducible refine (HC3.out _ ?hq).mono ?_); (case hq => exact ((((Kp.refl w25).drew.step hbT_0).step hbT_1).step hbT_2)); rintro x wT_3 ⟨vT_3, rfl, MT_3, hbT_3⟩; obtain ⟨pT_3, nT_3, cT_3, eT_3, gT_3, rfl⟩ := NumB.form MT_3))
            | (go_at_call 11; ((with_reducible refine (HC2.out _ ?hq _ ?ha0).mono ?_); (case hq => exact (((Kp.refl w25).drew.step hbT_0).step hbT_1)); (case ha0 => exact MT_1); rintro x wT_2 ⟨rfl, hbT_2⟩))
            | (go_at_call 16; ((with_reducible refine (HC1.out _ ?hq).mono ?_); (case hq => exact ((Kp.refl w25).drew.step hbT_0)); rintro x wT_1 ⟨vT_1, rfl, MT_1, hbT_1⟩; obtain ⟨pT_1, nT_1, cT_1, eT_1, gT_1, rfl⟩ := NumB.form MT_1))
            | (go_at_call 21; ((with_reducible refine (HC0.out _ ?hq).mono ?_); (case hq => exact (Kp.refl w25).drew); rintro x wT_0 ⟨rfl, hbT_0⟩)))
        go_wp2_with fail
        go_ret
        exact ⟨rfl, bl_pack HW.out HW.out.size ((((((Kp.refl w25).drew.step hbT_0).step hbT_1).step hbT_2).step hbT_3).step hbT_4).out⟩
end Go.Proofs.YtiiipgbfhcbjdaaDoor
