/- WholeNames walked. (Printed by gen_WiO.py.) -/
import Derived.Test.YtiiipgbfhcbjdaaDoorWiO
namespace Go.Proofs.YtiiipgbfhcbjdaaDoor
open Go.RowKit TV
set_option linter.unusedVariables false
set_option exponentiation.threshold 70000
set_option maxRecDepth 100000

set_option maxRecDepth 100000 in
set_option maxHeartbeats 4000000 in
theorem names_walk {w : World} (ht : TabOk w) :
    Calls Tryd.prog 5 #[] w fun x w' => x = .returned (.bool true) ∧ Below w.heap.size w w' := by
  go_enter Tryd.func5, Tryd.ntmps5
  have HT := Lib.hid (show Tb 0 w from ⟨ht, Nat.zero_le _⟩)
  have HW := Lib.hid (Below.refl w.heap.size w)
  clear ht
  go_wp2_with fail
  refine (works_calls HT.out).mono ?_
  rintro _ w1 ⟨rfl, b1⟩
  have HT := Lib.hid (HT.out.keep b1)
  have HW := Lib.hid (bl_pack HW.out HW.out.size b1)
  clear b1
  go_wp2_with fail
  refine (intB 1 (by decide) (by decide) HT.out).mono ?_
  rintro _ w2 ⟨vo, rfl, Mo, b2⟩
  have HT := Lib.hid (HT.out.keep b2)
  have HW := Lib.hid (bl_pack HW.out HW.out.size b2)
  have No := Lib.hid Mo
  clear b2 Mo
  obtain ⟨po, no, co, eo, go, rfl⟩ := No.out.form
  obtain ⟨Wo, hWo, Bo, -, Jo⟩ := box_res w2 (.cells #[.slice po no co, .int .i64 eo, .bool go, .bool false] 29)
  go_upto_region 4 with (fail)
  rw [← hWo]
  clear hWo
  have HT := Lib.hid (HT.out.keep Bo)
  have HW := Lib.hid (bl_pack HW.out HW.out.size Bo)
  have No := Lib.hid (No.out.keep Bo)
  have Ko := Lib.hid Jo
  clear Bo Jo
  obtain ⟨qo0, qo1, qo2, qo3, -, -, -, -⟩ := res4_facts Ko.out
  go_wp2_with fail
  refine (shiftP 65600 65536 No.out HT.out (by decide) (ok_pow (by decide))).mono ?_
  rintro _ w3 ⟨vt, rfl, Mt, b3⟩
  have HT := Lib.hid (HT.out.keep b3)
  have HW := Lib.hid (bl_pack HW.out HW.out.size b3)
  have No := Lib.hid (No.out.keep b3)
  have Ko := Lib.hid (keep_block b3 Ko.out)
  have Nt := Lib.hid Mt
  clear b3 Mt
  clear qo0 qo1 qo2 qo3
  obtain ⟨pt, nt, ct, et, gt, rfl⟩ := Nt.out.form
  obtain ⟨Wt, hWt, Bt, -, Jt⟩ := box_res w3 (.cells #[.slice pt nt ct, .int .i64 et, .bool gt, .bool false] 29)
  go_upto_region 5 with (fail)
  rw [← hWt]
  clear hWt
  have HT := Lib.hid (HT.out.keep Bt)
  have HW := Lib.hid (bl_pack HW.out HW.out.size Bt)
  have No := Lib.hid (No.out.keep Bt)
  have Nt := Lib.hid (Nt.out.keep Bt)
  have Ko := Lib.hid (keep_block Bt Ko.out)
  have Kt := Lib.hid Jt
  clear Bt Jt
  obtain ⟨qo0, qo1, qo2, qo3, -, -, -, -⟩ := res4_facts Ko.out
  go_wp2_with fail
  refine (shiftP 65600 (-65536) No.out HT.out (by decide) (ok_pow (by decide))).mono ?_
  rintro _ w4 ⟨vl, rfl, Ml, b4⟩
  have HT := Lib.hid (HT.out.keep b4)
  have HW := Lib.hid (bl_pack HW.out HW.out.size b4)
  have No := Lib.hid (No.out.keep b4)
  have Nt := Lib.hid (Nt.out.keep b4)
  have Ko := Lib.hid (keep_block b4 Ko.out)
  have Kt := Lib.hid (keep_block b4 Kt.out)
  have Nl := Lib.hid Ml
  clear b4 Ml
  clear qo0 qo1 qo2 qo3
  obtain ⟨pl, nl, cl, el, gl, rfl⟩ := Nl.out.form
  obtain ⟨Wl, hWl, Bl, -, Jl⟩ := box_res w4 (.cells #[.slice pl nl cl, .int .i64 el, .bool gl, .bool false] 29)
  go_upto_region 6 with (fail)
  rw [← hWl]
  clear hWl
  have HT := Lib.hid (HT.out.keep Bl)
  have HW := Lib.hid (bl_pack HW.out HW.out.size Bl)
  have No := Lib.hid (No.out.keep Bl)
  have Nt := Lib.hid (Nt.out.keep Bl)
  have Nl := Lib.hid (Nl.out.keep Bl)
  have Ko := Lib.hid (keep_block Bl Ko.out)
  have Kt := Lib.hid (keep_block Bl Kt.out)
  have Kl := Lib.hid Jl
  clear Bl Jl
  obtain ⟨Wz, hWz, Bz, -, Jz⟩ := box_res Wl (.cells #[.slice none 0 0, .int .i64 0, .bool false, .bool false] 29)
  go_wp2_with fail
  rw [← hWz]
  clear hWz
  have HT := Lib.hid (HT.out.keep Bz)
  have HW := Lib.hid (bl_pack HW.out HW.out.size Bz)
  have No := Lib.hid (No.out.keep Bz)
  have Nt := Lib.hid (Nt.out.keep Bz)
  have Nl := Lib.hid (Nl.out.keep Bz)
  have Ko := Lib.hid (keep_block Bz Ko.out)
  have Kt := Lib.hid (keep_block Bz Kt.out)
  have Kl := Lib.hid (keep_block Bz Kl.out)
  have Kz := Lib.hid Jz
  clear Bz Jz
  have Nz := Lib.hid (NumB.zero 0 Wz)
  obtain ⟨T, hT⟩ : ∃ q, q = (2 : Rat) ^ (65536 : Int) := ⟨_, rfl⟩
  obtain ⟨L, hL⟩ : ∃ q, q = (2 : Rat) ^ (-65536 : Int) := ⟨_, rfl⟩
  have E1 := Lib.hid (show ¬ OkR (T + T) by rw [hT]; exact no_dbl)
  have E2 := Lib.hid (show OkR (T + L) by rw [hT, hL]; exact ok_wide)
  have E3 := Lib.hid (nm_E3 (T := T) (show OkR L by rw [hL]; exact ok_pow (by decide)))
  have E4 := Lib.hid (nm_E4 T L)
  have E5 := Lib.hid (nm_E5 T L)
  have E6 := Lib.hid (show ¬ OkR (T * ((2 : Int) : Rat)) by rw [hT]; exact no_two)
  have E7 := Lib.hid (show OkR (T * L) by rw [hT, hL, ← two_zpow_add]; exact ok_pow (by decide))
  have E8 := Lib.hid (show FloOf (T * L) 4607182418800017408 by rw [hT, hL, ← two_zpow_add]; exact flo_one)
  have E9 := Lib.hid (show ¬ OkR (L * fr 4602678819172646912) by rw [hL]; exact no_half)
  have HG := Lib.hid (show gq ≤ T by rw [hT]; exact gq_le (by decide))
  have HLz := Lib.hid (show FloOf L 0 by rw [hL]; exact flo_tiny (by decide))
  rw [← hT] at Nt
  rw [← hL] at Nl
  clear hT
  have HL := Lib.hid hL
  clear hL
  obtain ⟨qo0, qo1, qo2, qo3, -, -, -, -⟩ := res4_facts Ko.out
  obtain ⟨qt0, qt1, qt2, qt3, -, -, -, -⟩ := res4_facts Kt.out
  obtain ⟨ql0, ql1, ql2, ql3, -, -, -, -⟩ := res4_facts Kl.out
  obtain ⟨qz0, qz1, qz2, qz3, -, -, -, -⟩ := res4_facts Kz.out
  go_upto_region 7 with (fail)
  go_cut [113] (fun x wx => x = .bool false ∧ Kp Wz wx)
  case first =>
    as_aux_lemma =>
    have HC0 := Lib.hid (fun (Y : World) (h' : Kp Wz Y) => okB (Nz.out.keep h'.out))
    have HC1 := Lib.hid (fun (Y : World) (h' : Kp Wz Y) => signBn 0 (Nz.out.keep h'.out) rfl)
    have HC2 := Lib.hid (fun (Y : World) (h' : Kp Wz Y) => floatB (Nz.out.keep h'.out))
    have HC3 := Lib.hid (fun (Y : World) (h' : Kp Wz Y) => okB (Nt.out.keep h'.out))
    have HC4 := Lib.hid (fun (Y : World) (h' : Kp Wz Y) => shift1N (65537) (No.out.keep h'.out) (HT.out.keep h'.out) (no_pow1 (by decide)))
    have HC5 := Lib.hid (fun (Y : World) (h' : Kp Wz Y) => okNo (w := Y))
    have HC6 := Lib.hid (fun (Y : World) (h' : Kp Wz Y) => okB (Nl.out.keep h'.out))
    have HC7 := Lib.hid (fun (Y : World) (h' : Kp Wz Y) => shift1N (-65537) (No.out.keep h'.out) (HT.out.keep h'.out) (no_pow1 (by decide)))
    have HC8 := Lib.hid (fun (Y : World) (h' : Kp Wz Y) => okNo (w := Y))
    have HC9 := Lib.hid (fun (Y : World) (h' : Kp Wz Y) => shift1N (9223372036854775807) (No.out.keep h'.out) (HT.out.keep h'.out) (no_pow1 (by decide)))
    have HC10 := Lib.hid (fun (Y : World) (h' : Kp Wz Y) => okNo (w := Y))
    have HC11 := Lib.hid (fun (Y : World) (h' : Kp Wz Y) => shift1N (-9223372036854775808) (No.out.keep h'.out) (HT.out.keep h'.out) (no_pow1 (by decide)))
    have HC12 := Lib.hid (fun (Y : World) (h' : Kp Wz Y) => okNo (w := Y))
    have HC13 := Lib.hid (fun (Y : World) (h' : Kp Wz Y) => shiftZ 9223372036854775807 (Nz.out.keep h'.out) (HT.out.keep h'.out))
    have HC14 := Lib.hid (fun (Y : World) (h' : Kp Wz Y) (v0 : Value) (hv0 : NumB 0 Y v0 (0) 0) => okB hv0)
    have HC15 := Lib.hid (fun (Y : World) (h' : Kp Wz Y) => addNo (Nt.out.keep h'.out) (Nt.out.keep h'.out) (HT.out.keep h'.out) E1.out)
    have HC16 := Lib.hid (fun (Y : World) (h' : Kp Wz Y) => okNo (w := Y))
    have HC17 := Lib.hid (fun (Y : World) (h' : Kp Wz Y) => addQ 65601 (Nt.out.keep h'.out) (Nl.out.keep h'.out) (HT.out.keep h'.out) (by decide) (by decide) E2.out)
    have HC18 := Lib.hid (fun (Y : World) (h' : Kp Wz Y) (v0 : Value) (hv0 : NumB 0 Y v0 (T + L) 65601) => okB hv0)
    have HC19 := Lib.hid (fun (Y : World) (h' : Kp Wz Y) => addQ 65601 (Nt.out.keep h'.out) (Nl.out.keep h'.out) (HT.out.keep h'.out) (by decide) (by decide) E2.out)
    have HC20 := Lib.hid (fun (Y : World) (h' : Kp Wz Y) (v0 : Value) (hv0 : NumB 0 Y v0 (T + L) 65601) => subQ 65602 hv0 (Nt.out.keep h'.out) (HT.out.keep h'.out) (by decide) (by decide) E3.out)
    have HC21 := Lib.hid (fun (Y : World) (h' : Kp Wz Y) (v0 : Value) (hv0 : NumB 0 Y v0 (T + L - T) 65602) => cmpQ 0 hv0 (Nl.out.keep h'.out) (HT.out.keep h'.out) E4.out E5.out)
    have HC22 := Lib.hid (fun (Y : World) (h' : Kp Wz Y) => intB 2 (by decide) (by decide) (HT.out.keep h'.out))
    have HC23 := Lib.hid (fun (Y : World) (h' : Kp Wz Y) (v0 : Value) (hv0 : NumB 0 Y v0 (((2 : Int) : Rat)) 64) => mulNo (Nt.out.keep h'.out) hv0 (HT.out.keep h'.out) E6.out)
    have HC24 := Lib.hid (fun (Y : World) (h' : Kp Wz Y) => okNo (w := Y))
    have HC25 := Lib.hid (fun (Y : World) (h' : Kp Wz Y) => mulQ 131200 (Nt.out.keep h'.out) (Nl.out.keep h'.out) (HT.out.keep h'.out) (by decide) E7.out)
    have HC26 := Lib.hid (fun (Y : World) (h' : Kp Wz Y) (v0 : Value) (hv0 : NumB 0 Y v0 (T * L) 131200) => okB hv0)
    have HC27 := Lib.hid (fun (Y : World) (h' : Kp Wz Y) => mulQ 131200 (Nt.out.keep h'.out) (Nl.out.keep h'.out) (HT.out.keep h'.out) (by decide) E7.out)
    have HC28 := Lib.hid (fun (Y : World) (h' : Kp Wz Y) (v0 : Value) (hv0 : NumB 0 Y v0 (T * L) 131200) => floatB hv0)
    have HC29 := Lib.hid (fun (Y : World) (h' : Kp Wz Y) => ofB 4602678819172646912 (by decide) (by decide) (HT.out.keep h'.out))
    have HC30 := Lib.hid (fun (Y : World) (h' : Kp Wz Y) (v0 : Value) (hv0 : NumB 0 Y v0 (fr 4602678819172646912) 1074) => mulNo (Nl.out.keep h'.out) hv0 (HT.out.keep h'.out) E9.out)
    have HC31 := Lib.hid (fun (Y : World) (h' : Kp Wz Y) => okNo (w := Y))
    refine wp_region_held_drew (S := fun w' => w'.cell? ⟨w2.heap.size, 0, none⟩ = some (.slice po no co) ∧ w'.cell? ⟨w2.heap.size, 1, none⟩ = some (.int .i64 eo) ∧ w'.cell? ⟨w2.heap.size, 2, none⟩ = some (.bool go) ∧ w'.cell? ⟨w2.heap.size, 3, none⟩ = some (.bool false) ∧ w'.cell? ⟨w3.heap.size, 0, none⟩ = some (.slice pt nt ct) ∧ w'.cell? ⟨w3.heap.size, 1, none⟩ = some (.int .i64 et) ∧ w'.cell? ⟨w3.heap.size, 2, none⟩ = some (.bool gt) ∧ w'.cell? ⟨w3.heap.size, 3, none⟩ = some (.bool false) ∧ w'.cell? ⟨w4.heap.size, 0, none⟩ = some (.slice pl nl cl) ∧ w'.cell? ⟨w4.heap.size, 1, none⟩ = some (.int .i64 el) ∧ w'.cell? ⟨w4.heap.size, 2, none⟩ = some (.bool gl) ∧ w'.cell? ⟨w4.heap.size, 3, none⟩ = some (.bool false) ∧ w'.cell? ⟨Wl.heap.size, 0, none⟩ = some (.slice none 0 0) ∧ w'.cell? ⟨Wl.heap.size, 1, none⟩ = some (.int .i64 0) ∧ w'.cell? ⟨Wl.heap.size, 2, none⟩ = some (.bool false) ∧ w'.cell? ⟨Wl.heap.size, 3, none⟩ = some (.bool false) ∧ Kp Wz w') (by kernel_rfl) ?_ (fun hH0 => ?_)
    · with_reducible exact sv4 (Kp.refl Wz).drew qo0 qo1 qo2 qo3 qt0 qt1 qt2 qt3 ql0 ql1 ql2 ql3 qz0 qz1 qz2 qz3
    show wpAnyH _ _ oNA _ _ _ (lsN 98 0) _ _
    refine wpAnyH_take (i := 0) (oi := oNA_0) (v := ?_) rfl oNA_s oNA_f0 oNA_r0 (fun _ _ _ h => h) (Or.inl ⟨by rfl, ?_⟩) (by assumption) ?_
    rotate_left
    · (intro w hSw; (try dsimp only at hSw); delta oNA_0; go_simp; (try with_reducible rfl))
    (show wpAnyH _ _ oNA _ _ _ (lsN 98 1) { tmps := (c100 (c100 (c100 (c10 (c1 (c1 (c1 (c1 (c1 ([])))))))))).toArray, defers := [] } _); delta c100 c10 c1
    refine wpAnyH_ready (rs := [1]) oNA_c1 (by simp) ?_
    refine AllReadyH.cons (o := oNA_1) rfl (fun K hK => ?_) AllReadyH.nil
    delta oNA_1
    rw [if_pos (by rfl)]
    go_simp
    (go_at_call 18; ((with_reducible refine (HC0.out _ ?hq).mono ?_); (case hq => exact (Kp.refl Wz).drew); rintro x wA_0 ⟨rfl, hbA_0⟩))
    go_wp2_with fail
    refine hK.out _ _ ?_ (fun hH1 => ?_)
    · with_reducible exact sv4 ((Kp.refl Wz).drew.step hbA_0) qo0 qo1 qo2 qo3 qt0 qt1 qt2 qt3 ql0 ql1 ql2 ql3 qz0 qz1 qz2 qz3
    clear hK K hH0
    (show wpAnyH _ _ oNA _ _ _ (lsN 98 2) { tmps := (c100 (c100 (c100 (c10 (c1 (c1 (c1 (c1 (c1 ([])))))))))).toArray, defers := [] } _); delta c100 c10 c1
    refine wpAnyH_take (i := 2) (oi := oNA_2) (v := ?_) rfl oNA_s oNA_f2 oNA_r2 (fun _ _ _ h => h) (Or.inl ⟨by rfl, ?_⟩) (by assumption) ?_
    rotate_left
    · (intro w hSw; (try dsimp only at hSw); delta oNA_2; go_simp; (try with_reducible rfl))
    (show wpAnyH _ _ oNA _ _ _ (lsN 98 3) { tmps := (c100 (c100 (c100 (c10 (c1 (c1 (c1 (c1 (c1 ([])))))))))).toArray, defers := [] } _); delta c100 c10 c1
    refine wpAnyH_take (i := 3) (oi := oNA_3) (v := ?_) rfl oNA_s oNA_f3 oNA_r3 (fun _ _ _ h => h) (Or.inl ⟨by rfl, ?_⟩) (by assumption) ?_
    rotate_left
    · (intro w hSw; (try dsimp only at hSw); delta oNA_3; go_simp; (try with_reducible rfl))
    (show wpAnyH _ _ oNA _ _ _ (lsN 98 4) { tmps := (c100 (c100 (c100 (c10 (c1 (c1 (c1 (c1 (c1 ([])))))))))).toArray, defers := [] } _); delta c100 c10 c1
    refine wpAnyH_take (i := 4) (oi := oNA_4) (v := ?_) rfl oNA_s oNA_f4 oNA_r4 (fun _ _ _ h => h) (Or.inl ⟨by rfl, ?_⟩) (by assumption) ?_
    rotate_left
    · (intro w hSw; (try dsimp only at hSw); delta oNA_4; go_simp; (try with_reducible rfl))
    (show wpAnyH _ _ oNA _ _ _ (lsN 98 5) { tmps := (c100 (c100 (c100 (c10 (c1 (c1 (c1 (c1 (c1 ([])))))))))).toArray, defers := [] } _); delta c100 c10 c1
    refine wpAnyH_ready (rs := [5]) oNA_c5 (by simp) ?_
    refine AllReadyH.cons (o := oNA_5) rfl (fun K hK => ?_) AllReadyH.nil
    delta oNA_5
    rw [if_pos (by rfl)]
    go_simp
    (go_at_call 13; ((with_reducible refine (HC1.out _ ?hq).mono ?_); (case hq => exact ((Kp.refl Wz).drew.step hbA_0)); rintro x wA_1 ⟨rfl, hbA_1⟩))
    go_wp2_with fail
    refine hK.out _ _ ?_ (fun hH2 => ?_)
    · with_reducible exact sv4 (((Kp.refl Wz).drew.step hbA_0).step hbA_1) qo0 qo1 qo2 qo3 qt0 qt1 qt2 qt3 ql0 ql1 ql2 ql3 qz0 qz1 qz2 qz3
    clear hK K hH1
    (show wpAnyH _ _ oNA _ _ _ (lsN 98 6) { tmps := (c100 (c100 (c100 (c10 (c1 (c1 (c1 (c1 (c1 ([])))))))))).toArray, defers := [] } _); delta c100 c10 c1
    refine wpAnyH_take (i := 6) (oi := oNA_6) (v := ?_) rfl oNA_s oNA_f6 oNA_r6 (fun _ _ _ h => h) (Or.inl ⟨by rfl, ?_⟩) (by assumption) ?_
    rotate_left
    · (intro w hSw; (try dsimp only at hSw); delta oNA_6; go_simp; (try with_reducible rfl))
    (show wpAnyH _ _ oNA _ _ _ (lsN 98 7) { tmps := (c100 (c100 (c100 (c10 (c1 (c1 (c1 (c1 (c1 ([])))))))))).toArray, defers := [] } _); delta c100 c10 c1
    refine wpAnyH_take (i := 7) (oi := oNA_7) (v := ?_) rfl oNA_s oNA_f7 oNA_r7 (fun _ _ _ h => h) (Or.inl ⟨by rfl, ?_⟩) (by assumption) ?_
    rotate_left
    · (intro w hSw; (try dsimp only at hSw); delta oNA_7; go_simp; (try with_reducible rfl))
    (show wpAnyH _ _ oNA _ _ _ (lsN 98 8) { tmps := (c100 (c100 (c100 (c10 (c1 (c1 (c1 (c1 (c1 ([])))))))))).toArray, defers := [] } _); delta c100 c10 c1
    refine wpAnyH_take (i := 8) (oi := oNA_8) (v := ?_) rfl oNA_s oNA_f8 oNA_r8 (fun _ _ _ h => h) (Or.inl ⟨by rfl, ?_⟩) (by assumption) ?_
    rotate_left
    · (intro w hSw; (try dsimp only at hSw); delta oNA_8; go_simp; (try with_reducible rfl))
    (show wpAnyH _ _ oNA _ _ _ (lsN 98 9) { tmps := (c100 (c100 (c100 (c10 (c1 (c1 (c1 (c1 (c1 ([])))))))))).toArray, defers := [] } _); delta c100 c10 c1
    refine wpAnyH_take (i := 9) (oi := oNA_9) (v := ?_) rfl oNA_s oNA_f9 oNA_r9 (fun _ _ _ h => h) (Or.inl ⟨by rfl, ?_⟩) (by assumption) ?_
    rotate_left
    · (intro w hSw; (try dsimp only at hSw); delta oNA_9; go_simp; (try with_reducible rfl))
    (show wpAnyH _ _ oNA _ _ _ (lsN 98 10) { tmps := (c100 (c100 (c100 (c10 (c1 (c1 (c1 (c1 (c1 ([])))))))))).toArray, defers := [] } _); delta c100 c10 c1
    refine wpAnyH_ready (rs := [10]) oNA_c10 (by simp) ?_
    refine AllReadyH.cons (o := oNA_10) rfl (fun K hK => ?_) AllReadyH.nil
    delta oNA_10
    rw [if_pos (by rfl)]
    go_simp
    (go_at_call 19; ((with_reducible refine (HC2.out _ ?hq).mono ?_); (case hq => exact (((Kp.refl Wz).drew.step hbA_0).step hbA_1)); rintro x wA_2 ⟨fA_2, rfl, hfA_2, hbA_2⟩; have oA_2 := FloOf.eq hfA_2 FloOf.zero; clear hfA_2))
    go_wp2_with fail
    refine hK.out _ _ ?_ (fun hH3 => ?_)
    · with_reducible exact sv4 ((((Kp.refl Wz).drew.step hbA_0).step hbA_1).step hbA_2) qo0 qo1 qo2 qo3 qt0 qt1 qt2 qt3 ql0 ql1 ql2 ql3 qz0 qz1 qz2 qz3
    clear hK K hH2
    (show wpAnyH _ _ oNA _ _ _ (lsN 98 11) { tmps := (c100 (c100 (c100 (c10 (c1 (c1 (c1 (c1 (c1 ([])))))))))).toArray, defers := [] } _); delta c100 c10 c1
    refine wpAnyH_take (i := 11) (oi := oNA_11) (v := ?_) rfl oNA_s oNA_f11 oNA_r11 (fun _ _ _ h => h) (Or.inl ⟨by rfl, ?_⟩) (by assumption) ?_
    rotate_left
    · (intro w hSw; (try dsimp only at hSw); delta oNA_11; go_simp; (try with_reducible rfl))
    (show wpAnyH _ _ oNA _ _ _ (lsN 98 12) { tmps := (c100 (c100 (c100 (c10 (c1 (c1 (c1 (c1 (c1 ([])))))))))).toArray, defers := [] } _); delta c100 c10 c1
    as_aux_lemma =>
    refine wpAnyH_take (i := 12) (oi := oNA_12) (v := ?_) rfl oNA_s oNA_f12 oNA_r12 (fun _ _ _ h => h) (Or.inl ⟨by rfl, ?_⟩) (by assumption) ?_
    rotate_left
    · (intro w hSw; (try dsimp only at hSw); delta oNA_12; go_simp; (try with_reducible rfl))
    (show wpAnyH _ _ oNA _ _ _ (lsN 98 13) { tmps := (c100 (c100 (c100 (c10 (c1 (c1 (c1 (c1 (c1 ([])))))))))).toArray, defers := [] } _); delta c100 c10 c1
    refine wpAnyH_take (i := 13) (oi := oNA_13) (v := ?_) rfl oNA_s oNA_f13 oNA_r13 (fun _ _ _ h => h) (Or.inl ⟨by rfl, ?_⟩) (by assumption) ?_
    rotate_left
    · (intro w hSw; (try dsimp only at hSw); delta oNA_13; go_simp; (try with_reducible rfl))
    (show wpAnyH _ _ oNA _ _ _ (lsN 98 14) { tmps := (c100 (c100 (c100 (c10 (c1 (c1 (c1 (c1 (c1 ([])))))))))).toArray, defers := [] } _); delta c100 c10 c1
    refine wpAnyH_take (i := 14) (oi := oNA_14) (v := ?_) rfl oNA_s oNA_f14 oNA_r14 (fun _ _ _ h => h) (Or.inl ⟨by rfl, ?_⟩) (by assumption) ?_
    rotate_left
    · (intro w hSw; (try dsimp only at hSw); delta oNA_14; go_simp; (try with_reducible rfl))
    (show wpAnyH _ _ oNA _ _ _ (lsN 98 15) { tmps := (c100 (c100 (c100 (c10 (c1 (c1 (c1 (c1 (c1 ([])))))))))).toArray, defers := [] } _); delta c100 c10 c1
    refine wpAnyH_ready (rs := [15]) oNA_c15 (by simp) ?_
    refine AllReadyH.cons (o := oNA_15) rfl (fun K hK => ?_) AllReadyH.nil
    delta oNA_15
    rw [if_pos (by rfl)]
    go_simp
    (go_at_call 18; ((with_reducible refine (HC3.out _ ?hq).mono ?_); (case hq => exact ((((Kp.refl Wz).drew.step hbA_0).step hbA_1).step hbA_2)); rintro x wA_3 ⟨rfl, hbA_3⟩))
    go_wp2_with fail
    refine hK.out _ _ ?_ (fun hH4 => ?_)
    · with_reducible exact sv4 (((((Kp.refl Wz).drew.step hbA_0).step hbA_1).step hbA_2).step hbA_3) qo0 qo1 qo2 qo3 qt0 qt1 qt2 qt3 ql0 ql1 ql2 ql3 qz0 qz1 qz2 qz3
    clear hK K hH3
    (show wpAnyH _ _ oNA _ _ _ (lsN 98 16) { tmps := (c100 (c100 (c100 (c10 (c1 (c1 (c1 (c1 (c1 ([])))))))))).toArray, defers := [] } _); delta c100 c10 c1
    refine wpAnyH_take (i := 16) (oi := oNA_16) (v := ?_) rfl oNA_s oNA_f16 oNA_r16 (fun _ _ _ h => h) (Or.inl ⟨by rfl, ?_⟩) (by assumption) ?_
    rotate_left
    · (intro w hSw; (try dsimp only at hSw); delta oNA_16; go_simp; (try with_reducible rfl))
    (show wpAnyH _ _ oNA _ _ _ (lsN 98 17) { tmps := (c100 (c100 (c100 (c10 (c1 (c1 (c1 (c1 (c1 ([])))))))))).toArray, defers := [] } _); delta c100 c10 c1
    refine wpAnyH_take (i := 17) (oi := oNA_17) (v := ?_) rfl oNA_s oNA_f17 oNA_r17 (fun _ _ _ h => h) (Or.inl ⟨by rfl, ?_⟩) (by assumption) ?_
    rotate_left
    · (intro w hSw; (try dsimp only at hSw); delta oNA_17; go_simp; (try with_reducible rfl))
    (show wpAnyH _ _ oNA _ _ _ (lsN 98 18) { tmps := (c100 (c100 (c100 (c10 (c1 (c1 (c1 (c1 (c1 ([])))))))))).toArray, defers := [] } _); delta c100 c10 c1
    refine wpAnyH_take (i := 18) (oi := oNA_18) (v := ?_) rfl oNA_s oNA_f18 oNA_r18 (fun _ _ _ h => h) (Or.inl ⟨by rfl, ?_⟩) (by assumption) ?_
    rotate_left
    · (intro w hSw; (try dsimp only at hSw); delta oNA_18; go_simp; (try with_reducible rfl))
    (show wpAnyH _ _ oNA _ _ _ (lsN 98 19) { tmps := (c100 (c100 (c100 (c10 (c1 (c1 (c1 (c1 (c1 ([])))))))))).toArray, defers := [] } _); delta c100 c10 c1
    refine wpAnyH_take (i := 19) (oi := oNA_19) (v := ?_) rfl oNA_s oNA_f19 oNA_r19 (fun _ _ _ h => h) (Or.inl ⟨by rfl, ?_⟩) (by assumption) ?_
    rotate_left
    · (intro w hSw; (try dsimp only at hSw); delta oNA_19; go_simp; (try with_reducible rfl))
    (show wpAnyH _ _ oNA _ _ _ (lsN 98 20) { tmps := (c100 (c100 (c100 (c10 (c1 (c1 (c1 (c1 (c1 ([])))))))))).toArray, defers := [] } _); delta c100 c10 c1
    refine wpAnyH_ready (rs := [20]) oNA_c20 (by simp) ?_
    refine AllReadyH.cons (o := oNA_20) rfl (fun K hK => ?_) AllReadyH.nil
    delta oNA_20
    rw [if_pos (by rfl)]
    go_simp
    (go_at_call 16; ((with_reducible refine (HC4.out _ ?hq).mono ?_); (case hq => exact (((((Kp.refl Wz).drew.step hbA_0).step hbA_1).step hbA_2).step hbA_3)); rintro x wA_4 ⟨rfl, hbA_4⟩))
    go_wp2_with fail
    refine hK.out _ _ ?_ (fun hH5 => ?_)
    · with_reducible exact sv4 ((((((Kp.refl Wz).drew.step hbA_0).step hbA_1).step hbA_2).step hbA_3).step hbA_4) qo0 qo1 qo2 qo3 qt0 qt1 qt2 qt3 ql0 ql1 ql2 ql3 qz0 qz1 qz2 qz3
    clear hK K hH4
    (show wpAnyH _ _ oNA _ _ _ (lsN 98 21) { tmps := (c100 (c100 (c100 (c10 (c1 (c1 (c1 (c1 (c1 ([])))))))))).toArray, defers := [] } _); delta c100 c10 c1
    refine wpAnyH_ready (rs := [21]) oNA_c21 (by simp) ?_
    refine AllReadyH.cons (o := oNA_21) rfl (fun K hK => ?_) AllReadyH.nil
    delta oNA_21
    rw [if_pos (by rfl)]
    go_simp
    (go_at_call 18; ((with_reducible refine (HC5.out _ ?hq).mono ?_); (case hq => exact ((((((Kp.refl Wz).drew.step hbA_0).step hbA_1).step hbA_2).step hbA_3).step hbA_4)); rintro x wA_5 ⟨rfl, hbA_5⟩))
    go_wp2_with fail
    refine hK.out _ _ ?_ (fun hH6 => ?_)
    · with_reducible exact sv4 (((((((Kp.refl Wz).drew.step hbA_0).step hbA_1).step hbA_2).step hbA_3).step hbA_4).step hbA_5) qo0 qo1 qo2 qo3 qt0 qt1 qt2 qt3 ql0 ql1 ql2 ql3 qz0 qz1 qz2 qz3
    clear hK K hH5
    (show wpAnyH _ _ oNA _ _ _ (lsN 98 22) { tmps := (c100 (c100 (c100 (c10 (c1 (c1 (c1 (c1 (c1 ([])))))))))).toArray, defers := [] } _); delta c100 c10 c1
    refine wpAnyH_take (i := 22) (oi := oNA_22) (v := ?_) rfl oNA_s oNA_f22 oNA_r22 (fun _ _ _ h => h) (Or.inl ⟨by rfl, ?_⟩) (by assumption) ?_
    rotate_left
    · (intro w hSw; (try dsimp only at hSw); delta oNA_22; go_simp; (try with_reducible rfl))
    (show wpAnyH _ _ oNA _ _ _ (lsN 98 23) { tmps := (c100 (c100 (c100 (c10 (c1 (c1 (c1 (c1 (c1 ([])))))))))).toArray, defers := [] } _); delta c100 c10 c1
    refine wpAnyH_take (i := 23) (oi := oNA_23) (v := ?_) rfl oNA_s oNA_f23 oNA_r23 (fun _ _ _ h => h) (Or.inl ⟨by rfl, ?_⟩) (by assumption) ?_
    rotate_left
    · (intro w hSw; (try dsimp only at hSw); delta oNA_23; go_simp; (try with_reducible rfl))
    (show wpAnyH _ _ oNA _ _ _ (lsN 98 24) { tmps := (c100 (c100 (c100 (c10 (c1 (c1 (c1 (c1 (c1 ([])))))))))).toArray, defers := [] } _); delta c100 c10 c1
    as_aux_lemma =>
    refine wpAnyH_take (i := 24) (oi := oNA_24) (v := ?_) rfl oNA_s oNA_f24 oNA_r24 (fun _ _ _ h => h) (Or.inl ⟨by rfl, ?_⟩) (by assumption) ?_
    rotate_left
    · (intro w hSw; (try dsimp only at hSw); delta oNA_24; go_simp; (try with_reducible rfl))
    (show wpAnyH _ _ oNA _ _ _ (lsN 98 25) { tmps := (c100 (c100 (c100 (c10 (c1 (c1 (c1 (c1 (c1 ([])))))))))).toArray, defers := [] } _); delta c100 c10 c1
    refine wpAnyH_ready (rs := [25]) oNA_c25 (by simp) ?_
    refine AllReadyH.cons (o := oNA_25) rfl (fun K hK => ?_) AllReadyH.nil
    delta oNA_25
    rw [if_pos (by rfl)]
    go_simp
    (go_at_call 18; ((with_reducible refine (HC6.out _ ?hq).mono ?_); (case hq => exact (((((((Kp.refl Wz).drew.step hbA_0).step hbA_1).step hbA_2).step hbA_3).step hbA_4).step hbA_5)); rintro x wA_6 ⟨rfl, hbA_6⟩))
    go_wp2_with fail
    refine hK.out _ _ ?_ (fun hH7 => ?_)
    · with_reducible exact sv4 ((((((((Kp.refl Wz).drew.step hbA_0).step hbA_1).step hbA_2).step hbA_3).step hbA_4).step hbA_5).step hbA_6) qo0 qo1 qo2 qo3 qt0 qt1 qt2 qt3 ql0 ql1 ql2 ql3 qz0 qz1 qz2 qz3
    clear hK K hH6
    (show wpAnyH _ _ oNA _ _ _ (lsN 98 26) { tmps := (c100 (c100 (c100 (c10 (c1 (c1 (c1 (c1 (c1 ([])))))))))).toArray, defers := [] } _); delta c100 c10 c1
    refine wpAnyH_take (i := 26) (oi := oNA_26) (v := ?_) rfl oNA_s oNA_f26 oNA_r26 (fun _ _ _ h => h) (Or.inl ⟨by rfl, ?_⟩) (by assumption) ?_
    rotate_left
    · (intro w hSw; (try dsimp only at hSw); delta oNA_26; go_simp; (try with_reducible rfl))
    (show wpAnyH _ _ oNA _ _ _ (lsN 98 27) { tmps := (c100 (c100 (c100 (c10 (c1 (c1 (c1 (c1 (c1 ([])))))))))).toArray, defers := [] } _); delta c100 c10 c1
    refine wpAnyH_take (i := 27) (oi := oNA_27) (v := ?_) rfl oNA_s oNA_f27 oNA_r27 (fun _ _ _ h => h) (Or.inl ⟨by rfl, ?_⟩) (by assumption) ?_
    rotate_left
    · (intro w hSw; (try dsimp only at hSw); delta oNA_27; go_simp; (try with_reducible rfl))
    (show wpAnyH _ _ oNA _ _ _ (lsN 98 28) { tmps := (c100 (c100 (c100 (c10 (c1 (c1 (c1 (c1 (c1 ([])))))))))).toArray, defers := [] } _); delta c100 c10 c1
    refine wpAnyH_take (i := 28) (oi := oNA_28) (v := ?_) rfl oNA_s oNA_f28 oNA_r28 (fun _ _ _ h => h) (Or.inl ⟨by rfl, ?_⟩) (by assumption) ?_
    rotate_left
    · (intro w hSw; (try dsimp only at hSw); delta oNA_28; go_simp; (try with_reducible rfl))
    (show wpAnyH _ _ oNA _ _ _ (lsN 98 29) { tmps := (c100 (c100 (c100 (c10 (c1 (c1 (c1 (c1 (c1 ([])))))))))).toArray, defers := [] } _); delta c100 c10 c1
    refine wpAnyH_take (i := 29) (oi := oNA_29) (v := ?_) rfl oNA_s oNA_f29 oNA_r29 (fun _ _ _ h => h) (Or.inl ⟨by rfl, ?_⟩) (by assumption) ?_
    rotate_left
    · (intro w hSw; (try dsimp only at hSw); delta oNA_29; go_simp; (try with_reducible rfl))
    (show wpAnyH _ _ oNA _ _ _ (lsN 98 30) { tmps := (c100 (c100 (c100 (c10 (c1 (c1 (c1 (c1 (c1 ([])))))))))).toArray, defers := [] } _); delta c100 c10 c1
    refine wpAnyH_ready (rs := [30]) oNA_c30 (by simp) ?_
    refine AllReadyH.cons (o := oNA_30) rfl (fun K hK => ?_) AllReadyH.nil
    delta oNA_30
    rw [if_pos (by rfl)]
    go_simp
    (go_at_call 16; ((with_reducible refine (HC7.out _ ?hq).mono ?_); (case hq => exact ((((((((Kp.refl Wz).drew.step hbA_0).step hbA_1).step hbA_2).step hbA_3).step hbA_4).step hbA_5).step hbA_6)); rintro x wA_7 ⟨rfl, hbA_7⟩))
    go_wp2_with fail
    refine hK.out _ _ ?_ (fun hH8 => ?_)
    · with_reducible exact sv4 (((((((((Kp.refl Wz).drew.step hbA_0).step hbA_1).step hbA_2).step hbA_3).step hbA_4).step hbA_5).step hbA_6).step hbA_7) qo0 qo1 qo2 qo3 qt0 qt1 qt2 qt3 ql0 ql1 ql2 ql3 qz0 qz1 qz2 qz3
    clear hK K hH7
    (show wpAnyH _ _ oNA _ _ _ (lsN 98 31) { tmps := (c100 (c100 (c100 (c10 (c1 (c1 (c1 (c1 (c1 ([])))))))))).toArray, defers := [] } _); delta c100 c10 c1
    refine wpAnyH_ready (rs := [31]) oNA_c31 (by simp) ?_
    refine AllReadyH.cons (o := oNA_31) rfl (fun K hK => ?_) AllReadyH.nil
    delta oNA_31
    rw [if_pos (by rfl)]
    go_simp
    (go_at_call 18; ((with_reducible refine (HC8.out _ ?hq).mono ?_); (case hq => exact (((((((((Kp.refl Wz).drew.step hbA_0).step hbA_1).step hbA_2).step hbA_3).step hbA_4).step hbA_5).step hbA_6).step hbA_7)); rintro x wA_8 ⟨rfl, hbA_8⟩))
    go_wp2_with fail
    refine hK.out _ _ ?_ (fun hH9 => ?_)
    · with_reducible exact sv4 ((((((((((Kp.refl Wz).drew.step hbA_0).step hbA_1).step hbA_2).step hbA_3).step hbA_4).step hbA_5).step hbA_6).step hbA_7).step hbA_8) qo0 qo1 qo2 qo3 qt0 qt1 qt2 qt3 ql0 ql1 ql2 ql3 qz0 qz1 qz2 qz3
    clear hK K hH8
    (show wpAnyH _ _ oNA _ _ _ (lsN 98 32) { tmps := (c100 (c100 (c100 (c10 (c1 (c1 (c1 (c1 (c1 ([])))))))))).toArray, defers := [] } _); delta c100 c10 c1
    refine wpAnyH_take (i := 32) (oi := oNA_32) (v := ?_) rfl oNA_s oNA_f32 oNA_r32 (fun _ _ _ h => h) (Or.inl ⟨by rfl, ?_⟩) (by assumption) ?_
    rotate_left
    · (intro w hSw; (try dsimp only at hSw); delta oNA_32; go_simp; (try with_reducible rfl))
    (show wpAnyH _ _ oNA _ _ _ (lsN 98 33) { tmps := (c100 (c100 (c100 (c10 (c1 (c1 (c1 (c1 (c1 ([])))))))))).toArray, defers := [] } _); delta c100 c10 c1
    refine wpAnyH_take (i := 33) (oi := oNA_33) (v := ?_) rfl oNA_s oNA_f33 oNA_r33 (fun _ _ _ h => h) (Or.inl ⟨by rfl, ?_⟩) (by assumption) ?_
    rotate_left
    · (intro w hSw; (try dsimp only at hSw); delta oNA_33; go_simp; (try with_reducible rfl))
    (show wpAnyH _ _ oNA _ _ _ (lsN 98 34) { tmps := (c100 (c100 (c100 (c10 (c1 (c1 (c1 (c1 (c1 ([])))))))))).toArray, defers := [] } _); delta c100 c10 c1
    refine wpAnyH_take (i := 34) (oi := oNA_34) (v := ?_) rfl oNA_s oNA_f34 oNA_r34 (fun _ _ _ h => h) (Or.inl ⟨by rfl, ?_⟩) (by assumption) ?_
    rotate_left
    · (intro w hSw; (try dsimp only at hSw); delta oNA_34; go_simp; (try with_reducible rfl))
    (show wpAnyH _ _ oNA _ _ _ (lsN 98 35) { tmps := (c100 (c100 (c100 (c10 (c1 (c1 (c1 (c1 (c1 ([])))))))))).toArray, defers := [] } _); delta c100 c10 c1
    refine wpAnyH_ready (rs := [35]) oNA_c35 (by simp) ?_
    refine AllReadyH.cons (o := oNA_35) rfl (fun K hK => ?_) AllReadyH.nil
    delta oNA_35
    rw [if_pos (by rfl)]
    go_simp
    (go_at_call 16; ((with_reducible refine (HC9.out _ ?hq).mono ?_); (case hq => exact ((((((((((Kp.refl Wz).drew.step hbA_0).step hbA_1).step hbA_2).step hbA_3).step hbA_4).step hbA_5).step hbA_6).step hbA_7).step hbA_8)); rintro x wA_9 ⟨rfl, hbA_9⟩))
    go_wp2_with fail
    refine hK.out _ _ ?_ (fun hH10 => ?_)
    · with_reducible exact sv4 (((((((((((Kp.refl Wz).drew.step hbA_0).step hbA_1).step hbA_2).step hbA_3).step hbA_4).step hbA_5).step hbA_6).step hbA_7).step hbA_8).step hbA_9) qo0 qo1 qo2 qo3 qt0 qt1 qt2 qt3 ql0 ql1 ql2 ql3 qz0 qz1 qz2 qz3
    clear hK K hH9
    (show wpAnyH _ _ oNA _ _ _ (lsN 98 36) { tmps := (c100 (c100 (c100 (c10 (c1 (c1 (c1 (c1 (c1 ([])))))))))).toArray, defers := [] } _); delta c100 c10 c1
    as_aux_lemma =>
    refine wpAnyH_ready (rs := [36]) oNA_c36 (by simp) ?_
    refine AllReadyH.cons (o := oNA_36) rfl (fun K hK => ?_) AllReadyH.nil
    delta oNA_36
    rw [if_pos (by rfl)]
    go_simp
    (go_at_call 18; ((with_reducible refine (HC10.out _ ?hq).mono ?_); (case hq => exact (((((((((((Kp.refl Wz).drew.step hbA_0).step hbA_1).step hbA_2).step hbA_3).step hbA_4).step hbA_5).step hbA_6).step hbA_7).step hbA_8).step hbA_9)); rintro x wA_10 ⟨rfl, hbA_10⟩))
    go_wp2_with fail
    refine hK.out _ _ ?_ (fun hH11 => ?_)
    · with_reducible exact sv4 ((((((((((((Kp.refl Wz).drew.step hbA_0).step hbA_1).step hbA_2).step hbA_3).step hbA_4).step hbA_5).step hbA_6).step hbA_7).step hbA_8).step hbA_9).step hbA_10) qo0 qo1 qo2 qo3 qt0 qt1 qt2 qt3 ql0 ql1 ql2 ql3 qz0 qz1 qz2 qz3
    clear hK K hH10
    (show wpAnyH _ _ oNA _ _ _ (lsN 98 37) { tmps := (c100 (c100 (c100 (c10 (c1 (c1 (c1 (c1 (c1 ([])))))))))).toArray, defers := [] } _); delta c100 c10 c1
    refine wpAnyH_take (i := 37) (oi := oNA_37) (v := ?_) rfl oNA_s oNA_f37 oNA_r37 (fun _ _ _ h => h) (Or.inl ⟨by rfl, ?_⟩) (by assumption) ?_
    rotate_left
    · (intro w hSw; (try dsimp only at hSw); delta oNA_37; go_simp; (try with_reducible rfl))
    (show wpAnyH _ _ oNA _ _ _ (lsN 98 38) { tmps := (c100 (c100 (c100 (c10 (c1 (c1 (c1 (c1 (c1 ([])))))))))).toArray, defers := [] } _); delta c100 c10 c1
    refine wpAnyH_take (i := 38) (oi := oNA_38) (v := ?_) rfl oNA_s oNA_f38 oNA_r38 (fun _ _ _ h => h) (Or.inl ⟨by rfl, ?_⟩) (by assumption) ?_
    rotate_left
    · (intro w hSw; (try dsimp only at hSw); delta oNA_38; go_simp; (try with_reducible rfl))
    (show wpAnyH _ _ oNA _ _ _ (lsN 98 39) { tmps := (c100 (c100 (c100 (c10 (c1 (c1 (c1 (c1 (c1 ([])))))))))).toArray, defers := [] } _); delta c100 c10 c1
    refine wpAnyH_take (i := 39) (oi := oNA_39) (v := ?_) rfl oNA_s oNA_f39 oNA_r39 (fun _ _ _ h => h) (Or.inl ⟨by rfl, ?_⟩) (by assumption) ?_
    rotate_left
    · (intro w hSw; (try dsimp only at hSw); delta oNA_39; go_simp; (try with_reducible rfl))
    (show wpAnyH _ _ oNA _ _ _ (lsN 98 40) { tmps := (c100 (c100 (c100 (c10 (c1 (c1 (c1 (c1 (c1 ([])))))))))).toArray, defers := [] } _); delta c100 c10 c1
    refine wpAnyH_ready (rs := [40]) oNA_c40 (by simp) ?_
    refine AllReadyH.cons (o := oNA_40) rfl (fun K hK => ?_) AllReadyH.nil
    delta oNA_40
    rw [if_pos (by rfl)]
    go_simp
    (go_at_call 16; ((with_reducible refine (HC11.out _ ?hq).mono ?_); (case hq => exact ((((((((((((Kp.refl Wz).drew.step hbA_0).step hbA_1).step hbA_2).step hbA_3).step hbA_4).step hbA_5).step hbA_6).step hbA_7).step hbA_8).step hbA_9).step hbA_10)); rintro x wA_11 ⟨rfl, hbA_11⟩))
    go_wp2_with fail
    refine hK.out _ _ ?_ (fun hH12 => ?_)
    · with_reducible exact sv4 (((((((((((((Kp.refl Wz).drew.step hbA_0).step hbA_1).step hbA_2).step hbA_3).step hbA_4).step hbA_5).step hbA_6).step hbA_7).step hbA_8).step hbA_9).step hbA_10).step hbA_11) qo0 qo1 qo2 qo3 qt0 qt1 qt2 qt3 ql0 ql1 ql2 ql3 qz0 qz1 qz2 qz3
    clear hK K hH11
    (show wpAnyH _ _ oNA _ _ _ (lsN 98 41) { tmps := (c100 (c100 (c100 (c10 (c1 (c1 (c1 (c1 (c1 ([])))))))))).toArray, defers := [] } _); delta c100 c10 c1
    refine wpAnyH_ready (rs := [41]) oNA_c41 (by simp) ?_
    refine AllReadyH.cons (o := oNA_41) rfl (fun K hK => ?_) AllReadyH.nil
    delta oNA_41
    rw [if_pos (by rfl)]
    go_simp
    (go_at_call 18; ((with_reducible refine (HC12.out _ ?hq).mono ?_); (case hq => exact (((((((((((((Kp.refl Wz).drew.step hbA_0).step hbA_1).step hbA_2).step hbA_3).step hbA_4).step hbA_5).step hbA_6).step hbA_7).step hbA_8).step hbA_9).step hbA_10).step hbA_11)); rintro x wA_12 ⟨rfl, hbA_12⟩))
    go_wp2_with fail
    refine hK.out _ _ ?_ (fun hH13 => ?_)
    · with_reducible exact sv4 ((((((((((((((Kp.refl Wz).drew.step hbA_0).step hbA_1).step hbA_2).step hbA_3).step hbA_4).step hbA_5).step hbA_6).step hbA_7).step hbA_8).step hbA_9).step hbA_10).step hbA_11).step hbA_12) qo0 qo1 qo2 qo3 qt0 qt1 qt2 qt3 ql0 ql1 ql2 ql3 qz0 qz1 qz2 qz3
    clear hK K hH12
    (show wpAnyH _ _ oNA _ _ _ (lsN 98 42) { tmps := (c100 (c100 (c100 (c10 (c1 (c1 (c1 (c1 (c1 ([])))))))))).toArray, defers := [] } _); delta c100 c10 c1
    refine wpAnyH_take (i := 42) (oi := oNA_42) (v := ?_) rfl oNA_s oNA_f42 oNA_r42 (fun _ _ _ h => h) (Or.inl ⟨by rfl, ?_⟩) (by assumption) ?_
    rotate_left
    · (intro w hSw; (try dsimp only at hSw); delta oNA_42; go_simp; (try with_reducible rfl))
    (show wpAnyH _ _ oNA _ _ _ (lsN 98 43) { tmps := (c100 (c100 (c100 (c10 (c1 (c1 (c1 (c1 (c1 ([])))))))))).toArray, defers := [] } _); delta c100 c10 c1
    refine wpAnyH_take (i := 43) (oi := oNA_43) (v := ?_) rfl oNA_s oNA_f43 oNA_r43 (fun _ _ _ h => h) (Or.inl ⟨by rfl, ?_⟩) (by assumption) ?_
    rotate_left
    · (intro w hSw; (try dsimp only at hSw); delta oNA_43; go_simp; (try with_reducible rfl))
    (show wpAnyH _ _ oNA _ _ _ (lsN 98 44) { tmps := (c100 (c100 (c100 (c10 (c1 (c1 (c1 (c1 (c1 ([])))))))))).toArray, defers := [] } _); delta c100 c10 c1
    refine wpAnyH_take (i := 44) (oi := oNA_44) (v := ?_) rfl oNA_s oNA_f44 oNA_r44 (fun _ _ _ h => h) (Or.inl ⟨by rfl, ?_⟩) (by assumption) ?_
    rotate_left
    · (intro w hSw; (try dsimp only at hSw); delta oNA_44; go_simp; (try with_reducible rfl))
    (show wpAnyH _ _ oNA _ _ _ (lsN 98 45) { tmps := (c100 (c100 (c100 (c10 (c1 (c1 (c1 (c1 (c1 ([])))))))))).toArray, defers := [] } _); delta c100 c10 c1
    refine wpAnyH_ready (rs := [45]) oNA_c45 (by simp) ?_
    refine AllReadyH.cons (o := oNA_45) rfl (fun K hK => ?_) AllReadyH.nil
    delta oNA_45
    rw [if_pos (by rfl)]
    go_simp
    (go_at_call 16; ((with_reducible refine (HC13.out _ ?hq).mono ?_); (case hq => exact ((((((((((((((Kp.refl Wz).drew.step hbA_0).step hbA_1).step hbA_2).step hbA_3).step hbA_4).step hbA_5).step hbA_6).step hbA_7).step hbA_8).step hbA_9).step hbA_10).step hbA_11).step hbA_12)); rintro x wA_13 ⟨vA_13, rfl, MA_13, hbA_13⟩; obtain ⟨pA_13, nA_13, cA_13, eA_13, gA_13, rfl⟩ := NumB.form MA_13))
    go_wp2_with fail
    refine hK.out _ _ ?_ (fun hH14 => ?_)
    · with_reducible exact sv4 (((((((((((((((Kp.refl Wz).drew.step hbA_0).step hbA_1).step hbA_2).step hbA_3).step hbA_4).step hbA_5).step hbA_6).step hbA_7).step hbA_8).step hbA_9).step hbA_10).step hbA_11).step hbA_12).step hbA_13) qo0 qo1 qo2 qo3 qt0 qt1 qt2 qt3 ql0 ql1 ql2 ql3 qz0 qz1 qz2 qz3
    clear hK K hH13
    (show wpAnyH _ _ oNA _ _ _ (lsN 98 46) { tmps := (c100 (c100 (c100 (c10 (c1 (c1 (c1 (c1 (c1 ([])))))))))).toArray, defers := [] } _); delta c100 c10 c1
    refine wpAnyH_ready (rs := [46]) oNA_c46 (by simp) ?_
    refine AllReadyH.cons (o := oNA_46) rfl (fun K hK => ?_) AllReadyH.nil
    delta oNA_46
    rw [if_pos (by rfl)]
    go_simp
    (go_at_call 18; ((with_reducible refine (HC14.out _ ?hq _ ?ha0).mono ?_); (case hq => exact (((((((((((((((Kp.refl Wz).drew.step hbA_0).step hbA_1).step hbA_2).step hbA_3).step hbA_4).step hbA_5).step hbA_6).step hbA_7).step hbA_8).step hbA_9).step hbA_10).step hbA_11).step hbA_12).step hbA_13)); (case ha0 => exact MA_13); rintro x wA_14 ⟨rfl, hbA_14⟩))
    go_wp2_with fail
    refine hK.out _ _ ?_ (fun hH15 => ?_)
    · with_reducible exact sv4 ((((((((((((((((Kp.refl Wz).drew.step hbA_0).step hbA_1).step hbA_2).step hbA_3).step hbA_4).step hbA_5).step hbA_6).step hbA_7).step hbA_8).step hbA_9).step hbA_10).step hbA_11).step hbA_12).step hbA_13).step hbA_14) qo0 qo1 qo2 qo3 qt0 qt1 qt2 qt3 ql0 ql1 ql2 ql3 qz0 qz1 qz2 qz3
    clear hK K hH14
    (show wpAnyH _ _ oNA _ _ _ (lsN 98 47) { tmps := (c100 (c100 (c100 (c10 (c1 (c1 (c1 (c1 (c1 ([])))))))))).toArray, defers := [] } _); delta c100 c10 c1
    refine wpAnyH_take (i := 47) (oi := oNA_47) (v := ?_) rfl oNA_s oNA_f47 oNA_r47 (fun _ _ _ h => h) (Or.inl ⟨by rfl, ?_⟩) (by assumption) ?_
    rotate_left
    · (intro w hSw; (try dsimp only at hSw); delta oNA_47; go_simp; (try with_reducible rfl))
    (show wpAnyH _ _ oNA _ _ _ (lsN 98 48) { tmps := (c100 (c100 (c100 (c10 (c1 (c1 (c1 (c1 (c1 ([])))))))))).toArray, defers := [] } _); delta c100 c10 c1
    as_aux_lemma =>
    refine wpAnyH_take (i := 48) (oi := oNA_48) (v := ?_) rfl oNA_s oNA_f48 oNA_r48 (fun _ _ _ h => h) (Or.inl ⟨by rfl, ?_⟩) (by assumption) ?_
    rotate_left
    · (intro w hSw; (try dsimp only at hSw); delta oNA_48; go_simp; (try with_reducible rfl))
    (show wpAnyH _ _ oNA _ _ _ (lsN 98 49) { tmps := (c100 (c100 (c100 (c10 (c1 (c1 (c1 (c1 (c1 ([])))))))))).toArray, defers := [] } _); delta c100 c10 c1
    refine wpAnyH_take (i := 49) (oi := oNA_49) (v := ?_) rfl oNA_s oNA_f49 oNA_r49 (fun _ _ _ h => h) (Or.inl ⟨by rfl, ?_⟩) (by assumption) ?_
    rotate_left
    · (intro w hSw; (try dsimp only at hSw); delta oNA_49; go_simp; (try with_reducible rfl))
    (show wpAnyH _ _ oNA _ _ _ (lsN 98 50) { tmps := (c100 (c100 (c100 (c10 (c1 (c1 (c1 (c1 (c1 ([])))))))))).toArray, defers := [] } _); delta c100 c10 c1
    refine wpAnyH_take (i := 50) (oi := oNA_50) (v := ?_) rfl oNA_s oNA_f50 oNA_r50 (fun _ _ _ h => h) (Or.inl ⟨by rfl, ?_⟩) (by assumption) ?_
    rotate_left
    · (intro w hSw; (try dsimp only at hSw); delta oNA_50; go_simp; (try with_reducible rfl))
    (show wpAnyH _ _ oNA _ _ _ (lsN 98 51) { tmps := (c100 (c100 (c100 (c10 (c1 (c1 (c1 (c1 (c1 ([])))))))))).toArray, defers := [] } _); delta c100 c10 c1
    refine wpAnyH_take (i := 51) (oi := oNA_51) (v := ?_) rfl oNA_s oNA_f51 oNA_r51 (fun _ _ _ h => h) (Or.inl ⟨by rfl, ?_⟩) (by assumption) ?_
    rotate_left
    · (intro w hSw; (try dsimp only at hSw); delta oNA_51; go_simp; (try with_reducible rfl))
    (show wpAnyH _ _ oNA _ _ _ (lsN 98 52) { tmps := (c100 (c100 (c100 (c10 (c1 (c1 (c1 (c1 (c1 ([])))))))))).toArray, defers := [] } _); delta c100 c10 c1
    refine wpAnyH_ready (rs := [52]) oNA_c52 (by simp) ?_
    refine AllReadyH.cons (o := oNA_52) rfl (fun K hK => ?_) AllReadyH.nil
    delta oNA_52
    rw [if_pos (by rfl)]
    go_simp
    (go_at_call 10; ((with_reducible refine (HC15.out _ ?hq).mono ?_); (case hq => exact ((((((((((((((((Kp.refl Wz).drew.step hbA_0).step hbA_1).step hbA_2).step hbA_3).step hbA_4).step hbA_5).step hbA_6).step hbA_7).step hbA_8).step hbA_9).step hbA_10).step hbA_11).step hbA_12).step hbA_13).step hbA_14)); rintro x wA_15 ⟨rfl, hbA_15⟩))
    go_wp2_with fail
    refine hK.out _ _ ?_ (fun hH16 => ?_)
    · with_reducible exact sv4 (((((((((((((((((Kp.refl Wz).drew.step hbA_0).step hbA_1).step hbA_2).step hbA_3).step hbA_4).step hbA_5).step hbA_6).step hbA_7).step hbA_8).step hbA_9).step hbA_10).step hbA_11).step hbA_12).step hbA_13).step hbA_14).step hbA_15) qo0 qo1 qo2 qo3 qt0 qt1 qt2 qt3 ql0 ql1 ql2 ql3 qz0 qz1 qz2 qz3
    clear hK K hH15
    (show wpAnyH _ _ oNA _ _ _ (lsN 98 53) { tmps := (c100 (c100 (c100 (c10 (c1 (c1 (c1 (c1 (c1 ([])))))))))).toArray, defers := [] } _); delta c100 c10 c1
    refine wpAnyH_ready (rs := [53]) oNA_c53 (by simp) ?_
    refine AllReadyH.cons (o := oNA_53) rfl (fun K hK => ?_) AllReadyH.nil
    delta oNA_53
    rw [if_pos (by rfl)]
    go_simp
    (go_at_call 18; ((with_reducible refine (HC16.out _ ?hq).mono ?_); (case hq => exact (((((((((((((((((Kp.refl Wz).drew.step hbA_0).step hbA_1).step hbA_2).step hbA_3).step hbA_4).step hbA_5).step hbA_6).step hbA_7).step hbA_8).step hbA_9).step hbA_10).step hbA_11).step hbA_12).step hbA_13).step hbA_14).step hbA_15)); rintro x wA_16 ⟨rfl, hbA_16⟩))
    go_wp2_with fail
    refine hK.out _ _ ?_ (fun hH17 => ?_)
    · with_reducible exact sv4 ((((((((((((((((((Kp.refl Wz).drew.step hbA_0).step hbA_1).step hbA_2).step hbA_3).step hbA_4).step hbA_5).step hbA_6).step hbA_7).step hbA_8).step hbA_9).step hbA_10).step hbA_11).step hbA_12).step hbA_13).step hbA_14).step hbA_15).step hbA_16) qo0 qo1 qo2 qo3 qt0 qt1 qt2 qt3 ql0 ql1 ql2 ql3 qz0 qz1 qz2 qz3
    clear hK K hH16
    (show wpAnyH _ _ oNA _ _ _ (lsN 98 54) { tmps := (c100 (c100 (c100 (c10 (c1 (c1 (c1 (c1 (c1 ([])))))))))).toArray, defers := [] } _); delta c100 c10 c1
    refine wpAnyH_take (i := 54) (oi := oNA_54) (v := ?_) rfl oNA_s oNA_f54 oNA_r54 (fun _ _ _ h => h) (Or.inl ⟨by rfl, ?_⟩) (by assumption) ?_
    rotate_left
    · (intro w hSw; (try dsimp only at hSw); delta oNA_54; go_simp; (try with_reducible rfl))
    (show wpAnyH _ _ oNA _ _ _ (lsN 98 55) { tmps := (c100 (c100 (c100 (c10 (c1 (c1 (c1 (c1 (c1 ([])))))))))).toArray, defers := [] } _); delta c100 c10 c1
    refine wpAnyH_take (i := 55) (oi := oNA_55) (v := ?_) rfl oNA_s oNA_f55 oNA_r55 (fun _ _ _ h => h) (Or.inl ⟨by rfl, ?_⟩) (by assumption) ?_
    rotate_left
    · (intro w hSw; (try dsimp only at hSw); delta oNA_55; go_simp; (try with_reducible rfl))
    (show wpAnyH _ _ oNA _ _ _ (lsN 98 56) { tmps := (c100 (c100 (c100 (c10 (c1 (c1 (c1 (c1 (c1 ([])))))))))).toArray, defers := [] } _); delta c100 c10 c1
    refine wpAnyH_take (i := 56) (oi := oNA_56) (v := ?_) rfl oNA_s oNA_f56 oNA_r56 (fun _ _ _ h => h) (Or.inl ⟨by rfl, ?_⟩) (by assumption) ?_
    rotate_left
    · (intro w hSw; (try dsimp only at hSw); delta oNA_56; go_simp; (try with_reducible rfl))
    (show wpAnyH _ _ oNA _ _ _ (lsN 98 57) { tmps := (c100 (c100 (c100 (c10 (c1 (c1 (c1 (c1 (c1 ([])))))))))).toArray, defers := [] } _); delta c100 c10 c1
    refine wpAnyH_take (i := 57) (oi := oNA_57) (v := ?_) rfl oNA_s oNA_f57 oNA_r57 (fun _ _ _ h => h) (Or.inl ⟨by rfl, ?_⟩) (by assumption) ?_
    rotate_left
    · (intro w hSw; (try dsimp only at hSw); delta oNA_57; go_simp; (try with_reducible rfl))
    (show wpAnyH _ _ oNA _ _ _ (lsN 98 58) { tmps := (c100 (c100 (c100 (c10 (c1 (c1 (c1 (c1 (c1 ([])))))))))).toArray, defers := [] } _); delta c100 c10 c1
    refine wpAnyH_ready (rs := [58]) oNA_c58 (by simp) ?_
    refine AllReadyH.cons (o := oNA_58) rfl (fun K hK => ?_) AllReadyH.nil
    delta oNA_58
    rw [if_pos (by rfl)]
    go_simp
    (go_at_call 10; ((with_reducible refine (HC17.out _ ?hq).mono ?_); (case hq => exact ((((((((((((((((((Kp.refl Wz).drew.step hbA_0).step hbA_1).step hbA_2).step hbA_3).step hbA_4).step hbA_5).step hbA_6).step hbA_7).step hbA_8).step hbA_9).step hbA_10).step hbA_11).step hbA_12).step hbA_13).step hbA_14).step hbA_15).step hbA_16)); rintro x wA_17 ⟨vA_17, rfl, MA_17, hbA_17⟩; obtain ⟨pA_17, nA_17, cA_17, eA_17, gA_17, rfl⟩ := NumB.form MA_17))
    go_wp2_with fail
    refine hK.out _ _ ?_ (fun hH18 => ?_)
    · with_reducible exact sv4 (((((((((((((((((((Kp.refl Wz).drew.step hbA_0).step hbA_1).step hbA_2).step hbA_3).step hbA_4).step hbA_5).step hbA_6).step hbA_7).step hbA_8).step hbA_9).step hbA_10).step hbA_11).step hbA_12).step hbA_13).step hbA_14).step hbA_15).step hbA_16).step hbA_17) qo0 qo1 qo2 qo3 qt0 qt1 qt2 qt3 ql0 ql1 ql2 ql3 qz0 qz1 qz2 qz3
    clear hK K hH17
    (show wpAnyH _ _ oNA _ _ _ (lsN 98 59) { tmps := (c100 (c100 (c100 (c10 (c1 (c1 (c1 (c1 (c1 ([])))))))))).toArray, defers := [] } _); delta c100 c10 c1
    refine wpAnyH_ready (rs := [59]) oNA_c59 (by simp) ?_
    refine AllReadyH.cons (o := oNA_59) rfl (fun K hK => ?_) AllReadyH.nil
    delta oNA_59
    rw [if_pos (by rfl)]
    go_simp
    (go_at_call 18; ((with_reducible refine (HC18.out _ ?hq _ ?ha0).mono ?_); (case hq => exact (((((((((((((((((((Kp.refl Wz).drew.step hbA_0).step hbA_1).step hbA_2).step hbA_3).step hbA_4).step hbA_5).step hbA_6).step hbA_7).step hbA_8).step hbA_9).step hbA_10).step hbA_11).step hbA_12).step hbA_13).step hbA_14).step hbA_15).step hbA_16).step hbA_17)); (case ha0 => exact MA_17); rintro x wA_18 ⟨rfl, hbA_18⟩))
    go_wp2_with fail
    refine hK.out _ _ ?_ (fun hH19 => ?_)
    · with_reducible exact sv4 ((((((((((((((((((((Kp.refl Wz).drew.step hbA_0).step hbA_1).step hbA_2).step hbA_3).step hbA_4).step hbA_5).step hbA_6).step hbA_7).step hbA_8).step hbA_9).step hbA_10).step hbA_11).step hbA_12).step hbA_13).step hbA_14).step hbA_15).step hbA_16).step hbA_17).step hbA_18) qo0 qo1 qo2 qo3 qt0 qt1 qt2 qt3 ql0 ql1 ql2 ql3 qz0 qz1 qz2 qz3
    clear hK K hH18
    (show wpAnyH _ _ oNA _ _ _ (lsN 98 60) { tmps := (c100 (c100 (c100 (c10 (c1 (c1 (c1 (c1 (c1 ([])))))))))).toArray, defers := [] } _); delta c100 c10 c1
    as_aux_lemma =>
    refine wpAnyH_take (i := 60) (oi := oNA_60) (v := ?_) rfl oNA_s oNA_f60 oNA_r60 (fun _ _ _ h => h) (Or.inl ⟨by rfl, ?_⟩) (by assumption) ?_
    rotate_left
    · (intro w hSw; (try dsimp only at hSw); delta oNA_60; go_simp; (try with_reducible rfl))
    (show wpAnyH _ _ oNA _ _ _ (lsN 98 61) { tmps := (c100 (c100 (c100 (c10 (c1 (c1 (c1 (c1 (c1 ([])))))))))).toArray, defers := [] } _); delta c100 c10 c1
    refine wpAnyH_take (i := 61) (oi := oNA_61) (v := ?_) rfl oNA_s oNA_f61 oNA_r61 (fun _ _ _ h => h) (Or.inl ⟨by rfl, ?_⟩) (by assumption) ?_
    rotate_left
    · (intro w hSw; (try dsimp only at hSw); delta oNA_61; go_simp; (try with_reducible rfl))
    (show wpAnyH _ _ oNA _ _ _ (lsN 98 62) { tmps := (c100 (c100 (c100 (c10 (c1 (c1 (c1 (c1 (c1 ([])))))))))).toArray, defers := [] } _); delta c100 c10 c1
    refine wpAnyH_take (i := 62) (oi := oNA_62) (v := ?_) rfl oNA_s oNA_f62 oNA_r62 (fun _ _ _ h => h) (Or.inl ⟨by rfl, ?_⟩) (by assumption) ?_
    rotate_left
    · (intro w hSw; (try dsimp only at hSw); delta oNA_62; go_simp; (try with_reducible rfl))
    (show wpAnyH _ _ oNA _ _ _ (lsN 98 63) { tmps := (c100 (c100 (c100 (c10 (c1 (c1 (c1 (c1 (c1 ([])))))))))).toArray, defers := [] } _); delta c100 c10 c1
    refine wpAnyH_take (i := 63) (oi := oNA_63) (v := ?_) rfl oNA_s oNA_f63 oNA_r63 (fun _ _ _ h => h) (Or.inl ⟨by rfl, ?_⟩) (by assumption) ?_
    rotate_left
    · (intro w hSw; (try dsimp only at hSw); delta oNA_63; go_simp; (try with_reducible rfl))
    (show wpAnyH _ _ oNA _ _ _ (lsN 98 64) { tmps := (c100 (c100 (c100 (c10 (c1 (c1 (c1 (c1 (c1 ([])))))))))).toArray, defers := [] } _); delta c100 c10 c1
    refine wpAnyH_take (i := 64) (oi := oNA_64) (v := ?_) rfl oNA_s oNA_f64 oNA_r64 (fun _ _ _ h => h) (Or.inl ⟨by rfl, ?_⟩) (by assumption) ?_
    rotate_left
    · (intro w hSw; (try dsimp only at hSw); delta oNA_64; go_simp; (try with_reducible rfl))
    (show wpAnyH _ _ oNA _ _ _ (lsN 98 65) { tmps := (c100 (c100 (c100 (c10 (c1 (c1 (c1 (c1 (c1 ([])))))))))).toArray, defers := [] } _); delta c100 c10 c1
    refine wpAnyH_take (i := 66) (oi := oNA_66) (v := ?_) rfl oNA_s oNA_f65 oNA_r65 (fun _ _ _ h => h) (Or.inl ⟨by rfl, ?_⟩) (by assumption) ?_
    rotate_left
    · (intro w hSw; (try dsimp only at hSw); delta oNA_66; go_simp; (try with_reducible rfl))
    (show wpAnyH _ _ oNA _ _ _ #[true, true, true, true, true, true, true, true, true, true, true, true, true, true, true, true, true, true, true, true, true, true, true, true, true, true, true, true, true, true, true, true, true, true, true, true, true, true, true, true, true, true, true, true, true, true, true, true, true, true, true, true, true, true, true, true, true, true, true, true, true, true, true, true, true, false, true, false, false, false, false, false, false, false, false, false, false, false, false, false, false, false, false, false, false, false, false, false, false, false, false, false, false, false, false, false, false, false] { tmps := (c100 (c100 (c100 (c10 (c1 (c1 (c1 (c1 (c1 ([])))))))))).toArray, defers := [] } _); delta c100 c10 c1
    refine wpAnyH_take (i := 68) (oi := oNA_68) (v := ?_) rfl oNA_s oNA_f66 oNA_r66 (fun _ _ _ h => h) (Or.inl ⟨by rfl, ?_⟩) (by assumption) ?_
    rotate_left
    · (intro w hSw; (try dsimp only at hSw); delta oNA_68; go_simp; (try with_reducible rfl))
    (show wpAnyH _ _ oNA _ _ _ #[true, true, true, true, true, true, true, true, true, true, true, true, true, true, true, true, true, true, true, true, true, true, true, true, true, true, true, true, true, true, true, true, true, true, true, true, true, true, true, true, true, true, true, true, true, true, true, true, true, true, true, true, true, true, true, true, true, true, true, true, true, true, true, true, true, false, true, false, true, false, false, false, false, false, false, false, false, false, false, false, false, false, false, false, false, false, false, false, false, false, false, false, false, false, false, false, false, false] { tmps := (c100 (c100 (c100 (c10 (c1 (c1 (c1 (c1 (c1 ([])))))))))).toArray, defers := [] } _); delta c100 c10 c1
    refine wpAnyH_ready (rs := [65]) oNA_c67 (by simp) ?_
    refine AllReadyH.cons (o := oNA_65) rfl (fun K hK => ?_) AllReadyH.nil
    delta oNA_65
    rw [if_pos (by rfl)]
    go_simp
    (go_at_call 10; ((with_reducible refine (HC19.out _ ?hq).mono ?_); (case hq => exact ((((((((((((((((((((Kp.refl Wz).drew.step hbA_0).step hbA_1).step hbA_2).step hbA_3).step hbA_4).step hbA_5).step hbA_6).step hbA_7).step hbA_8).step hbA_9).step hbA_10).step hbA_11).step hbA_12).step hbA_13).step hbA_14).step hbA_15).step hbA_16).step hbA_17).step hbA_18)); rintro x wA_19 ⟨vA_19, rfl, MA_19, hbA_19⟩; obtain ⟨pA_19, nA_19, cA_19, eA_19, gA_19, rfl⟩ := NumB.form MA_19))
    go_wp2_with fail
    refine hK.out _ _ ?_ (fun hH20 => ?_)
    · with_reducible exact sv4 (((((((((((((((((((((Kp.refl Wz).drew.step hbA_0).step hbA_1).step hbA_2).step hbA_3).step hbA_4).step hbA_5).step hbA_6).step hbA_7).step hbA_8).step hbA_9).step hbA_10).step hbA_11).step hbA_12).step hbA_13).step hbA_14).step hbA_15).step hbA_16).step hbA_17).step hbA_18).step hbA_19) qo0 qo1 qo2 qo3 qt0 qt1 qt2 qt3 ql0 ql1 ql2 ql3 qz0 qz1 qz2 qz3
    clear hK K hH19
    (show wpAnyH _ _ oNA _ _ _ #[true, true, true, true, true, true, true, true, true, true, true, true, true, true, true, true, true, true, true, true, true, true, true, true, true, true, true, true, true, true, true, true, true, true, true, true, true, true, true, true, true, true, true, true, true, true, true, true, true, true, true, true, true, true, true, true, true, true, true, true, true, true, true, true, true, true, true, false, true, false, false, false, false, false, false, false, false, false, false, false, false, false, false, false, false, false, false, false, false, false, false, false, false, false, false, false, false, false] { tmps := (c100 (c100 (c100 (c10 (c1 (c1 (c1 (c1 (c1 ([])))))))))).toArray, defers := [] } _); delta c100 c10 c1
    refine wpAnyH_ready (rs := [67]) oNA_c68 (by simp) ?_
    refine AllReadyH.cons (o := oNA_67) rfl (fun K hK => ?_) AllReadyH.nil
    delta oNA_67
    rw [if_pos (by rfl)]
    go_simp
    (go_at_call 12; ((with_reducible refine (HC20.out _ ?hq _ ?ha0).mono ?_); (case hq => exact (((((((((((((((((((((Kp.refl Wz).drew.step hbA_0).step hbA_1).step hbA_2).step hbA_3).step hbA_4).step hbA_5).step hbA_6).step hbA_7).step hbA_8).step hbA_9).step hbA_10).step hbA_11).step hbA_12).step hbA_13).step hbA_14).step hbA_15).step hbA_16).step hbA_17).step hbA_18).step hbA_19)); (case ha0 => exact MA_19); rintro x wA_20 ⟨vA_20, rfl, MA_20, hbA_20⟩; obtain ⟨pA_20, nA_20, cA_20, eA_20, gA_20, rfl⟩ := NumB.form MA_20))
    go_wp2_with fail
    refine hK.out _ _ ?_ (fun hH21 => ?_)
    · with_reducible exact sv4 ((((((((((((((((((((((Kp.refl Wz).drew.step hbA_0).step hbA_1).step hbA_2).step hbA_3).step hbA_4).step hbA_5).step hbA_6).step hbA_7).step hbA_8).step hbA_9).step hbA_10).step hbA_11).step hbA_12).step hbA_13).step hbA_14).step hbA_15).step hbA_16).step hbA_17).step hbA_18).step hbA_19).step hbA_20) qo0 qo1 qo2 qo3 qt0 qt1 qt2 qt3 ql0 ql1 ql2 ql3 qz0 qz1 qz2 qz3
    clear hK K hH20
    (show wpAnyH _ _ oNA _ _ _ (lsN 98 69) { tmps := (c100 (c100 (c100 (c10 (c1 (c1 (c1 (c1 (c1 ([])))))))))).toArray, defers := [] } _); delta c100 c10 c1
    refine wpAnyH_ready (rs := [69]) oNA_c69 (by simp) ?_
    refine AllReadyH.cons (o := oNA_69) rfl (fun K hK => ?_) AllReadyH.nil
    delta oNA_69
    rw [if_pos (by rfl)]
    go_simp
    (go_at_call 11; ((with_reducible refine (HC21.out _ ?hq _ ?ha0).mono ?_); (case hq => exact ((((((((((((((((((((((Kp.refl Wz).drew.step hbA_0).step hbA_1).step hbA_2).step hbA_3).step hbA_4).step hbA_5).step hbA_6).step hbA_7).step hbA_8).step hbA_9).step hbA_10).step hbA_11).step hbA_12).step hbA_13).step hbA_14).step hbA_15).step hbA_16).step hbA_17).step hbA_18).step hbA_19).step hbA_20)); (case ha0 => exact MA_20); rintro x wA_21 ⟨rfl, hbA_21⟩))
    go_wp2_with fail
    refine hK.out _ _ ?_ (fun hH22 => ?_)
    · with_reducible exact sv4 (((((((((((((((((((((((Kp.refl Wz).drew.step hbA_0).step hbA_1).step hbA_2).step hbA_3).step hbA_4).step hbA_5).step hbA_6).step hbA_7).step hbA_8).step hbA_9).step hbA_10).step hbA_11).step hbA_12).step hbA_13).step hbA_14).step hbA_15).step hbA_16).step hbA_17).step hbA_18).step hbA_19).step hbA_20).step hbA_21) qo0 qo1 qo2 qo3 qt0 qt1 qt2 qt3 ql0 ql1 ql2 ql3 qz0 qz1 qz2 qz3
    clear hK K hH21
    (show wpAnyH _ _ oNA _ _ _ (lsN 98 70) { tmps := (c100 (c100 (c100 (c10 (c1 (c1 (c1 (c1 (c1 ([])))))))))).toArray, defers := [] } _); delta c100 c10 c1
    refine wpAnyH_take (i := 70) (oi := oNA_70) (v := ?_) rfl oNA_s oNA_f70 oNA_r70 (fun _ _ _ h => h) (Or.inl ⟨by rfl, ?_⟩) (by assumption) ?_
    rotate_left
    · (intro w hSw; (try dsimp only at hSw); delta oNA_70; go_simp; (try with_reducible rfl))
    (show wpAnyH _ _ oNA _ _ _ (lsN 98 71) { tmps := (c100 (c100 (c100 (c10 (c1 (c1 (c1 (c1 (c1 ([])))))))))).toArray, defers := [] } _); delta c100 c10 c1
    refine wpAnyH_take (i := 71) (oi := oNA_71) (v := ?_) rfl oNA_s oNA_f71 oNA_r71 (fun _ _ _ h => h) (Or.inl ⟨by rfl, ?_⟩) (by assumption) ?_
    rotate_left
    · (intro w hSw; (try dsimp only at hSw); delta oNA_71; go_simp; (try with_reducible rfl))
    (show wpAnyH _ _ oNA _ _ _ (lsN 98 72) { tmps := (c100 (c100 (c100 (c10 (c1 (c1 (c1 (c1 (c1 ([])))))))))).toArray, defers := [] } _); delta c100 c10 c1
    as_aux_lemma =>
    refine wpAnyH_take (i := 72) (oi := oNA_72) (v := ?_) rfl oNA_s oNA_f72 oNA_r72 (fun _ _ _ h => h) (Or.inl ⟨by rfl, ?_⟩) (by assumption) ?_
    rotate_left
    · (intro w hSw; (try dsimp only at hSw); delta oNA_72; go_simp; (try with_reducible rfl))
    (show wpAnyH _ _ oNA _ _ _ (lsN 98 73) { tmps := (c100 (c100 (c100 (c10 (c1 (c1 (c1 (c1 (c1 ([])))))))))).toArray, defers := [] } _); delta c100 c10 c1
    refine wpAnyH_take (i := 73) (oi := oNA_73) (v := ?_) rfl oNA_s oNA_f73 oNA_r73 (fun _ _ _ h => h) (Or.inl ⟨by rfl, ?_⟩) (by assumption) ?_
    rotate_left
    · (intro w hSw; (try dsimp only at hSw); delta oNA_73; go_simp; (try with_reducible rfl))
    (show wpAnyH _ _ oNA _ _ _ (lsN 98 74) { tmps := (c100 (c100 (c100 (c10 (c1 (c1 (c1 (c1 (c1 ([])))))))))).toArray, defers := [] } _); delta c100 c10 c1
    refine wpAnyH_ready (rs := [74]) oNA_c74 (by simp) ?_
    refine AllReadyH.cons (o := oNA_74) rfl (fun K hK => ?_) AllReadyH.nil
    delta oNA_74
    rw [if_pos (by rfl)]
    go_simp
    (go_at_call 17; ((with_reducible refine (HC22.out _ ?hq).mono ?_); (case hq => exact (((((((((((((((((((((((Kp.refl Wz).drew.step hbA_0).step hbA_1).step hbA_2).step hbA_3).step hbA_4).step hbA_5).step hbA_6).step hbA_7).step hbA_8).step hbA_9).step hbA_10).step hbA_11).step hbA_12).step hbA_13).step hbA_14).step hbA_15).step hbA_16).step hbA_17).step hbA_18).step hbA_19).step hbA_20).step hbA_21)); rintro x wA_22 ⟨vA_22, rfl, MA_22, hbA_22⟩; obtain ⟨pA_22, nA_22, cA_22, eA_22, gA_22, rfl⟩ := NumB.form MA_22))
    go_wp2_with fail
    refine hK.out _ _ ?_ (fun hH23 => ?_)
    · with_reducible exact sv4 ((((((((((((((((((((((((Kp.refl Wz).drew.step hbA_0).step hbA_1).step hbA_2).step hbA_3).step hbA_4).step hbA_5).step hbA_6).step hbA_7).step hbA_8).step hbA_9).step hbA_10).step hbA_11).step hbA_12).step hbA_13).step hbA_14).step hbA_15).step hbA_16).step hbA_17).step hbA_18).step hbA_19).step hbA_20).step hbA_21).step hbA_22) qo0 qo1 qo2 qo3 qt0 qt1 qt2 qt3 ql0 ql1 ql2 ql3 qz0 qz1 qz2 qz3
    clear hK K hH22
    (show wpAnyH _ _ oNA _ _ _ (lsN 98 75) { tmps := (c100 (c100 (c100 (c10 (c1 (c1 (c1 (c1 (c1 ([])))))))))).toArray, defers := [] } _); delta c100 c10 c1
    refine wpAnyH_ready (rs := [75]) oNA_c75 (by simp) ?_
    refine AllReadyH.cons (o := oNA_75) rfl (fun K hK => ?_) AllReadyH.nil
    delta oNA_75
    rw [if_pos (by rfl)]
    go_simp
    (go_at_call 14; ((with_reducible refine (HC23.out _ ?hq _ ?ha0).mono ?_); (case hq => exact ((((((((((((((((((((((((Kp.refl Wz).drew.step hbA_0).step hbA_1).step hbA_2).step hbA_3).step hbA_4).step hbA_5).step hbA_6).step hbA_7).step hbA_8).step hbA_9).step hbA_10).step hbA_11).step hbA_12).step hbA_13).step hbA_14).step hbA_15).step hbA_16).step hbA_17).step hbA_18).step hbA_19).step hbA_20).step hbA_21).step hbA_22)); (case ha0 => exact MA_22); rintro x wA_23 ⟨rfl, hbA_23⟩))
    go_wp2_with fail
    refine hK.out _ _ ?_ (fun hH24 => ?_)
    · with_reducible exact sv4 (((((((((((((((((((((((((Kp.refl Wz).drew.step hbA_0).step hbA_1).step hbA_2).step hbA_3).step hbA_4).step hbA_5).step hbA_6).step hbA_7).step hbA_8).step hbA_9).step hbA_10).step hbA_11).step hbA_12).step hbA_13).step hbA_14).step hbA_15).step hbA_16).step hbA_17).step hbA_18).step hbA_19).step hbA_20).step hbA_21).step hbA_22).step hbA_23) qo0 qo1 qo2 qo3 qt0 qt1 qt2 qt3 ql0 ql1 ql2 ql3 qz0 qz1 qz2 qz3
    clear hK K hH23
    (show wpAnyH _ _ oNA _ _ _ (lsN 98 76) { tmps := (c100 (c100 (c100 (c10 (c1 (c1 (c1 (c1 (c1 ([])))))))))).toArray, defers := [] } _); delta c100 c10 c1
    refine wpAnyH_ready (rs := [76]) oNA_c76 (by simp) ?_
    refine AllReadyH.cons (o := oNA_76) rfl (fun K hK => ?_) AllReadyH.nil
    delta oNA_76
    rw [if_pos (by rfl)]
    go_simp
    (go_at_call 18; ((with_reducible refine (HC24.out _ ?hq).mono ?_); (case hq => exact (((((((((((((((((((((((((Kp.refl Wz).drew.step hbA_0).step hbA_1).step hbA_2).step hbA_3).step hbA_4).step hbA_5).step hbA_6).step hbA_7).step hbA_8).step hbA_9).step hbA_10).step hbA_11).step hbA_12).step hbA_13).step hbA_14).step hbA_15).step hbA_16).step hbA_17).step hbA_18).step hbA_19).step hbA_20).step hbA_21).step hbA_22).step hbA_23)); rintro x wA_24 ⟨rfl, hbA_24⟩))
    go_wp2_with fail
    refine hK.out _ _ ?_ (fun hH25 => ?_)
    · with_reducible exact sv4 ((((((((((((((((((((((((((Kp.refl Wz).drew.step hbA_0).step hbA_1).step hbA_2).step hbA_3).step hbA_4).step hbA_5).step hbA_6).step hbA_7).step hbA_8).step hbA_9).step hbA_10).step hbA_11).step hbA_12).step hbA_13).step hbA_14).step hbA_15).step hbA_16).step hbA_17).step hbA_18).step hbA_19).step hbA_20).step hbA_21).step hbA_22).step hbA_23).step hbA_24) qo0 qo1 qo2 qo3 qt0 qt1 qt2 qt3 ql0 ql1 ql2 ql3 qz0 qz1 qz2 qz3
    clear hK K hH24
    (show wpAnyH _ _ oNA _ _ _ (lsN 98 77) { tmps := (c100 (c100 (c100 (c10 (c1 (c1 (c1 (c1 (c1 ([])))))))))).toArray, defers := [] } _); delta c100 c10 c1
    refine wpAnyH_take (i := 77) (oi := oNA_77) (v := ?_) rfl oNA_s oNA_f77 oNA_r77 (fun _ _ _ h => h) (Or.inl ⟨by rfl, ?_⟩) (by assumption) ?_
    rotate_left
    · (intro w hSw; (try dsimp only at hSw); delta oNA_77; go_simp; (try with_reducible rfl))
    (show wpAnyH _ _ oNA _ _ _ (lsN 98 78) { tmps := (c100 (c100 (c100 (c10 (c1 (c1 (c1 (c1 (c1 ([])))))))))).toArray, defers := [] } _); delta c100 c10 c1
    refine wpAnyH_take (i := 78) (oi := oNA_78) (v := ?_) rfl oNA_s oNA_f78 oNA_r78 (fun _ _ _ h => h) (Or.inl ⟨by rfl, ?_⟩) (by assumption) ?_
    rotate_left
    · (intro w hSw; (try dsimp only at hSw); delta oNA_78; go_simp; (try with_reducible rfl))
    (show wpAnyH _ _ oNA _ _ _ (lsN 98 79) { tmps := (c100 (c100 (c100 (c10 (c1 (c1 (c1 (c1 (c1 ([])))))))))).toArray, defers := [] } _); delta c100 c10 c1
    refine wpAnyH_take (i := 79) (oi := oNA_79) (v := ?_) rfl oNA_s oNA_f79 oNA_r79 (fun _ _ _ h => h) (Or.inl ⟨by rfl, ?_⟩) (by assumption) ?_
    rotate_left
    · (intro w hSw; (try dsimp only at hSw); delta oNA_79; go_simp; (try with_reducible rfl))
    (show wpAnyH _ _ oNA _ _ _ (lsN 98 80) { tmps := (c100 (c100 (c100 (c10 (c1 (c1 (c1 (c1 (c1 ([])))))))))).toArray, defers := [] } _); delta c100 c10 c1
    refine wpAnyH_take (i := 80) (oi := oNA_80) (v := ?_) rfl oNA_s oNA_f80 oNA_r80 (fun _ _ _ h => h) (Or.inl ⟨by rfl, ?_⟩) (by assumption) ?_
    rotate_left
    · (intro w hSw; (try dsimp only at hSw); delta oNA_80; go_simp; (try with_reducible rfl))
    (show wpAnyH _ _ oNA _ _ _ (lsN 98 81) { tmps := (c100 (c100 (c100 (c10 (c1 (c1 (c1 (c1 (c1 ([])))))))))).toArray, defers := [] } _); delta c100 c10 c1
    refine wpAnyH_ready (rs := [81]) oNA_c81 (by simp) ?_
    refine AllReadyH.cons (o := oNA_81) rfl (fun K hK => ?_) AllReadyH.nil
    delta oNA_81
    rw [if_pos (by rfl)]
    go_simp
    (go_at_call 14; ((with_reducible refine (HC25.out _ ?hq).mono ?_); (case hq => exact ((((((((((((((((((((((((((Kp.refl Wz).drew.step hbA_0).step hbA_1).step hbA_2).step hbA_3).step hbA_4).step hbA_5).step hbA_6).step hbA_7).step hbA_8).step hbA_9).step hbA_10).step hbA_11).step hbA_12).step hbA_13).step hbA_14).step hbA_15).step hbA_16).step hbA_17).step hbA_18).step hbA_19).step hbA_20).step hbA_21).step hbA_22).step hbA_23).step hbA_24)); rintro x wA_25 ⟨vA_25, rfl, MA_25, hbA_25⟩; obtain ⟨pA_25, nA_25, cA_25, eA_25, gA_25, rfl⟩ := NumB.form MA_25))
    go_wp2_with fail
    refine hK.out _ _ ?_ (fun hH26 => ?_)
    · with_reducible exact sv4 (((((((((((((((((((((((((((Kp.refl Wz).drew.step hbA_0).step hbA_1).step hbA_2).step hbA_3).step hbA_4).step hbA_5).step hbA_6).step hbA_7).step hbA_8).step hbA_9).step hbA_10).step hbA_11).step hbA_12).step hbA_13).step hbA_14).step hbA_15).step hbA_16).step hbA_17).step hbA_18).step hbA_19).step hbA_20).step hbA_21).step hbA_22).step hbA_23).step hbA_24).step hbA_25) qo0 qo1 qo2 qo3 qt0 qt1 qt2 qt3 ql0 ql1 ql2 ql3 qz0 qz1 qz2 qz3
    clear hK K hH25
    (show wpAnyH _ _ oNA _ _ _ (lsN 98 82) { tmps := (c100 (c100 (c100 (c10 (c1 (c1 (c1 (c1 (c1 ([])))))))))).toArray, defers := [] } _); delta c100 c10 c1
    refine wpAnyH_ready (rs := [82]) oNA_c82 (by simp) ?_
    refine AllReadyH.cons (o := oNA_82) rfl (fun K hK => ?_) AllReadyH.nil
    delta oNA_82
    rw [if_pos (by rfl)]
    go_simp
    (go_at_call 18; ((with_reducible refine (HC26.out _ ?hq _ ?ha0).mono ?_); (case hq => exact (((((((((((((((((((((((((((Kp.refl Wz).drew.step hbA_0).step hbA_1).step hbA_2).step hbA_3).step hbA_4).step hbA_5).step hbA_6).step hbA_7).step hbA_8).step hbA_9).step hbA_10).step hbA_11).step hbA_12).step hbA_13).step hbA_14).step hbA_15).step hbA_16).step hbA_17).step hbA_18).step hbA_19).step hbA_20).step hbA_21).step hbA_22).step hbA_23).step hbA_24).step hbA_25)); (case ha0 => exact MA_25); rintro x wA_26 ⟨rfl, hbA_26⟩))
    go_wp2_with fail
    refine hK.out _ _ ?_ (fun hH27 => ?_)
    · with_reducible exact sv4 ((((((((((((((((((((((((((((Kp.refl Wz).drew.step hbA_0).step hbA_1).step hbA_2).step hbA_3).step hbA_4).step hbA_5).step hbA_6).step hbA_7).step hbA_8).step hbA_9).step hbA_10).step hbA_11).step hbA_12).step hbA_13).step hbA_14).step hbA_15).step hbA_16).step hbA_17).step hbA_18).step hbA_19).step hbA_20).step hbA_21).step hbA_22).step hbA_23).step hbA_24).step hbA_25).step hbA_26) qo0 qo1 qo2 qo3 qt0 qt1 qt2 qt3 ql0 ql1 ql2 ql3 qz0 qz1 qz2 qz3
    clear hK K hH26
    (show wpAnyH _ _ oNA _ _ _ (lsN 98 83) { tmps := (c100 (c100 (c100 (c10 (c1 (c1 (c1 (c1 (c1 ([])))))))))).toArray, defers := [] } _); delta c100 c10 c1
    refine wpAnyH_take (i := 83) (oi := oNA_83) (v := ?_) rfl oNA_s oNA_f83 oNA_r83 (fun _ _ _ h => h) (Or.inl ⟨by rfl, ?_⟩) (by assumption) ?_
    rotate_left
    · (intro w hSw; (try dsimp only at hSw); delta oNA_83; go_simp; (try with_reducible rfl))
    (show wpAnyH _ _ oNA _ _ _ (lsN 98 84) { tmps := (c100 (c100 (c100 (c10 (c1 (c1 (c1 (c1 (c1 ([])))))))))).toArray, defers := [] } _); delta c100 c10 c1
    as_aux_lemma =>
    refine wpAnyH_take (i := 84) (oi := oNA_84) (v := ?_) rfl oNA_s oNA_f84 oNA_r84 (fun _ _ _ h => h) (Or.inl ⟨by rfl, ?_⟩) (by assumption) ?_
    rotate_left
    · (intro w hSw; (try dsimp only at hSw); delta oNA_84; go_simp; (try with_reducible rfl))
    (show wpAnyH _ _ oNA _ _ _ (lsN 98 85) { tmps := (c100 (c100 (c100 (c10 (c1 (c1 (c1 (c1 (c1 ([])))))))))).toArray, defers := [] } _); delta c100 c10 c1
    refine wpAnyH_take (i := 85) (oi := oNA_85) (v := ?_) rfl oNA_s oNA_f85 oNA_r85 (fun _ _ _ h => h) (Or.inl ⟨by rfl, ?_⟩) (by assumption) ?_
    rotate_left
    · (intro w hSw; (try dsimp only at hSw); delta oNA_85; go_simp; (try with_reducible rfl))
    (show wpAnyH _ _ oNA _ _ _ (lsN 98 86) { tmps := (c100 (c100 (c100 (c10 (c1 (c1 (c1 (c1 (c1 ([])))))))))).toArray, defers := [] } _); delta c100 c10 c1
    refine wpAnyH_take (i := 86) (oi := oNA_86) (v := ?_) rfl oNA_s oNA_f86 oNA_r86 (fun _ _ _ h => h) (Or.inl ⟨by rfl, ?_⟩) (by assumption) ?_
    rotate_left
    · (intro w hSw; (try dsimp only at hSw); delta oNA_86; go_simp; (try with_reducible rfl))
    (show wpAnyH _ _ oNA _ _ _ (lsN 98 87) { tmps := (c100 (c100 (c100 (c10 (c1 (c1 (c1 (c1 (c1 ([])))))))))).toArray, defers := [] } _); delta c100 c10 c1
    refine wpAnyH_take (i := 87) (oi := oNA_87) (v := ?_) rfl oNA_s oNA_f87 oNA_r87 (fun _ _ _ h => h) (Or.inl ⟨by rfl, ?_⟩) (by assumption) ?_
    rotate_left
    · (intro w hSw; (try dsimp only at hSw); delta oNA_87; go_simp; (try with_reducible rfl))
    (show wpAnyH _ _ oNA _ _ _ (lsN 98 88) { tmps := (c100 (c100 (c100 (c10 (c1 (c1 (c1 (c1 (c1 ([])))))))))).toArray, defers := [] } _); delta c100 c10 c1
    refine wpAnyH_ready (rs := [88]) oNA_c88 (by simp) ?_
    refine AllReadyH.cons (o := oNA_88) rfl (fun K hK => ?_) AllReadyH.nil
    delta oNA_88
    rw [if_pos (by rfl)]
    go_simp
    (go_at_call 14; ((with_reducible refine (HC27.out _ ?hq).mono ?_); (case hq => exact ((((((((((((((((((((((((((((Kp.refl Wz).drew.step hbA_0).step hbA_1).step hbA_2).step hbA_3).step hbA_4).step hbA_5).step hbA_6).step hbA_7).step hbA_8).step hbA_9).step hbA_10).step hbA_11).step hbA_12).step hbA_13).step hbA_14).step hbA_15).step hbA_16).step hbA_17).step hbA_18).step hbA_19).step hbA_20).step hbA_21).step hbA_22).step hbA_23).step hbA_24).step hbA_25).step hbA_26)); rintro x wA_27 ⟨vA_27, rfl, MA_27, hbA_27⟩; obtain ⟨pA_27, nA_27, cA_27, eA_27, gA_27, rfl⟩ := NumB.form MA_27))
    go_wp2_with fail
    refine hK.out _ _ ?_ (fun hH28 => ?_)
    · with_reducible exact sv4 (((((((((((((((((((((((((((((Kp.refl Wz).drew.step hbA_0).step hbA_1).step hbA_2).step hbA_3).step hbA_4).step hbA_5).step hbA_6).step hbA_7).step hbA_8).step hbA_9).step hbA_10).step hbA_11).step hbA_12).step hbA_13).step hbA_14).step hbA_15).step hbA_16).step hbA_17).step hbA_18).step hbA_19).step hbA_20).step hbA_21).step hbA_22).step hbA_23).step hbA_24).step hbA_25).step hbA_26).step hbA_27) qo0 qo1 qo2 qo3 qt0 qt1 qt2 qt3 ql0 ql1 ql2 ql3 qz0 qz1 qz2 qz3
    clear hK K hH27
    (show wpAnyH _ _ oNA _ _ _ (lsN 98 89) { tmps := (c100 (c100 (c100 (c10 (c1 (c1 (c1 (c1 (c1 ([])))))))))).toArray, defers := [] } _); delta c100 c10 c1
    refine wpAnyH_ready (rs := [89]) oNA_c89 (by simp) ?_
    refine AllReadyH.cons (o := oNA_89) rfl (fun K hK => ?_) AllReadyH.nil
    delta oNA_89
    rw [if_pos (by rfl)]
    go_simp
    (go_at_call 19; ((with_reducible refine (HC28.out _ ?hq _ ?ha0).mono ?_); (case hq => exact (((((((((((((((((((((((((((((Kp.refl Wz).drew.step hbA_0).step hbA_1).step hbA_2).step hbA_3).step hbA_4).step hbA_5).step hbA_6).step hbA_7).step hbA_8).step hbA_9).step hbA_10).step hbA_11).step hbA_12).step hbA_13).step hbA_14).step hbA_15).step hbA_16).step hbA_17).step hbA_18).step hbA_19).step hbA_20).step hbA_21).step hbA_22).step hbA_23).step hbA_24).step hbA_25).step hbA_26).step hbA_27)); (case ha0 => exact MA_27); rintro x wA_28 ⟨fA_28, rfl, hfA_28, hbA_28⟩; have oA_28 := FloOf.eq hfA_28 E8.out; clear hfA_28))
    go_wp2_with fail
    refine hK.out _ _ ?_ (fun hH29 => ?_)
    · with_reducible exact sv4 ((((((((((((((((((((((((((((((Kp.refl Wz).drew.step hbA_0).step hbA_1).step hbA_2).step hbA_3).step hbA_4).step hbA_5).step hbA_6).step hbA_7).step hbA_8).step hbA_9).step hbA_10).step hbA_11).step hbA_12).step hbA_13).step hbA_14).step hbA_15).step hbA_16).step hbA_17).step hbA_18).step hbA_19).step hbA_20).step hbA_21).step hbA_22).step hbA_23).step hbA_24).step hbA_25).step hbA_26).step hbA_27).step hbA_28) qo0 qo1 qo2 qo3 qt0 qt1 qt2 qt3 ql0 ql1 ql2 ql3 qz0 qz1 qz2 qz3
    clear hK K hH28
    (show wpAnyH _ _ oNA _ _ _ (lsN 98 90) { tmps := (c100 (c100 (c100 (c10 (c1 (c1 (c1 (c1 (c1 ([])))))))))).toArray, defers := [] } _); delta c100 c10 c1
    refine wpAnyH_take (i := 90) (oi := oNA_90) (v := ?_) rfl oNA_s oNA_f90 oNA_r90 (fun _ _ _ h => h) (Or.inl ⟨by rfl, ?_⟩) (by assumption) ?_
    rotate_left
    · (intro w hSw; (try dsimp only at hSw); delta oNA_90; go_simp; (try with_reducible rfl))
    (show wpAnyH _ _ oNA _ _ _ (lsN 98 91) { tmps := (c100 (c100 (c100 (c10 (c1 (c1 (c1 (c1 (c1 ([])))))))))).toArray, defers := [] } _); delta c100 c10 c1
    refine wpAnyH_take (i := 91) (oi := oNA_91) (v := ?_) rfl oNA_s oNA_f91 oNA_r91 (fun _ _ _ h => h) (Or.inl ⟨by rfl, ?_⟩) (by assumption) ?_
    rotate_left
    · (intro w hSw; (try dsimp only at hSw); delta oNA_91; go_simp; (try with_reducible rfl))
    (show wpAnyH _ _ oNA _ _ _ (lsN 98 92) { tmps := (c100 (c100 (c100 (c10 (c1 (c1 (c1 (c1 (c1 ([])))))))))).toArray, defers := [] } _); delta c100 c10 c1
    refine wpAnyH_take (i := 92) (oi := oNA_92) (v := ?_) rfl oNA_s oNA_f92 oNA_r92 (fun _ _ _ h => h) (Or.inl ⟨by rfl, ?_⟩) (by assumption) ?_
    rotate_left
    · (intro w hSw; (try dsimp only at hSw); delta oNA_92; go_simp; (try with_reducible rfl))
    (show wpAnyH _ _ oNA _ _ _ (lsN 98 93) { tmps := (c100 (c100 (c100 (c10 (c1 (c1 (c1 (c1 (c1 ([])))))))))).toArray, defers := [] } _); delta c100 c10 c1
    refine wpAnyH_take (i := 93) (oi := oNA_93) (v := ?_) rfl oNA_s oNA_f93 oNA_r93 (fun _ _ _ h => h) (Or.inl ⟨by rfl, ?_⟩) (by assumption) ?_
    rotate_left
    · (intro w hSw; (try dsimp only at hSw); delta oNA_93; go_simp; (try with_reducible rfl))
    (show wpAnyH _ _ oNA _ _ _ (lsN 98 94) { tmps := (c100 (c100 (c100 (c10 (c1 (c1 (c1 (c1 (c1 ([])))))))))).toArray, defers := [] } _); delta c100 c10 c1
    refine wpAnyH_ready (rs := [94]) oNA_c94 (by simp) ?_
    refine AllReadyH.cons (o := oNA_94) rfl (fun K hK => ?_) AllReadyH.nil
    delta oNA_94
    rw [if_pos (by rfl)]
    go_simp
    (go_at_call 22; ((with_reducible refine (HC29.out _ ?hq).mono ?_); (case hq => exact ((((((((((((((((((((((((((((((Kp.refl Wz).drew.step hbA_0).step hbA_1).step hbA_2).step hbA_3).step hbA_4).step hbA_5).step hbA_6).step hbA_7).step hbA_8).step hbA_9).step hbA_10).step hbA_11).step hbA_12).step hbA_13).step hbA_14).step hbA_15).step hbA_16).step hbA_17).step hbA_18).step hbA_19).step hbA_20).step hbA_21).step hbA_22).step hbA_23).step hbA_24).step hbA_25).step hbA_26).step hbA_27).step hbA_28)); rintro x wA_29 ⟨vA_29, rfl, MA_29, hbA_29⟩; obtain ⟨pA_29, nA_29, cA_29, eA_29, gA_29, rfl⟩ := NumB.form MA_29))
    go_wp2_with fail
    refine hK.out _ _ ?_ (fun hH30 => ?_)
    · with_reducible exact sv4 (((((((((((((((((((((((((((((((Kp.refl Wz).drew.step hbA_0).step hbA_1).step hbA_2).step hbA_3).step hbA_4).step hbA_5).step hbA_6).step hbA_7).step hbA_8).step hbA_9).step hbA_10).step hbA_11).step hbA_12).step hbA_13).step hbA_14).step hbA_15).step hbA_16).step hbA_17).step hbA_18).step hbA_19).step hbA_20).step hbA_21).step hbA_22).step hbA_23).step hbA_24).step hbA_25).step hbA_26).step hbA_27).step hbA_28).step hbA_29) qo0 qo1 qo2 qo3 qt0 qt1 qt2 qt3 ql0 ql1 ql2 ql3 qz0 qz1 qz2 qz3
    clear hK K hH29
    (show wpAnyH _ _ oNA _ _ _ (lsN 98 95) { tmps := (c100 (c100 (c100 (c10 (c1 (c1 (c1 (c1 (c1 ([])))))))))).toArray, defers := [] } _); delta c100 c10 c1
    refine wpAnyH_ready (rs := [95]) oNA_c95 (by simp) ?_
    refine AllReadyH.cons (o := oNA_95) rfl (fun K hK => ?_) AllReadyH.nil
    delta oNA_95
    rw [if_pos (by rfl)]
    go_simp
    (go_at_call 14; ((with_reducible refine (HC30.out _ ?hq _ ?ha0).mono ?_); (case hq => exact (((((((((((((((((((((((((((((((Kp.refl Wz).drew.step hbA_0).step hbA_1).step hbA_2).step hbA_3).step hbA_4).step hbA_5).step hbA_6).step hbA_7).step hbA_8).step hbA_9).step hbA_10).step hbA_11).step hbA_12).step hbA_13).step hbA_14).step hbA_15).step hbA_16).step hbA_17).step hbA_18).step hbA_19).step hbA_20).step hbA_21).step hbA_22).step hbA_23).step hbA_24).step hbA_25).step hbA_26).step hbA_27).step hbA_28).step hbA_29)); (case ha0 => exact MA_29); rintro x wA_30 ⟨rfl, hbA_30⟩))
    go_wp2_with fail
    refine hK.out _ _ ?_ (fun hH31 => ?_)
    · with_reducible exact sv4 ((((((((((((((((((((((((((((((((Kp.refl Wz).drew.step hbA_0).step hbA_1).step hbA_2).step hbA_3).step hbA_4).step hbA_5).step hbA_6).step hbA_7).step hbA_8).step hbA_9).step hbA_10).step hbA_11).step hbA_12).step hbA_13).step hbA_14).step hbA_15).step hbA_16).step hbA_17).step hbA_18).step hbA_19).step hbA_20).step hbA_21).step hbA_22).step hbA_23).step hbA_24).step hbA_25).step hbA_26).step hbA_27).step hbA_28).step hbA_29).step hbA_30) qo0 qo1 qo2 qo3 qt0 qt1 qt2 qt3 ql0 ql1 ql2 ql3 qz0 qz1 qz2 qz3
    clear hK K hH30
    (show wpAnyH _ _ oNA _ _ _ (lsN 98 96) { tmps := (c100 (c100 (c100 (c10 (c1 (c1 (c1 (c1 (c1 ([])))))))))).toArray, defers := [] } _); delta c100 c10 c1
    as_aux_lemma =>
    refine wpAnyH_ready (rs := [96]) oNA_c96 (by simp) ?_
    refine AllReadyH.cons (o := oNA_96) rfl (fun K hK => ?_) AllReadyH.nil
    delta oNA_96
    rw [if_pos (by rfl)]
    go_simp
    (go_at_call 18; ((with_reducible refine (HC31.out _ ?hq).mono ?_); (case hq => exact ((((((((((((((((((((((((((((((((Kp.refl Wz).drew.step hbA_0).step hbA_1).step hbA_2).step hbA_3).step hbA_4).step hbA_5).step hbA_6).step hbA_7).step hbA_8).step hbA_9).step hbA_10).step hbA_11).step hbA_12).step hbA_13).step hbA_14).step hbA_15).step hbA_16).step hbA_17).step hbA_18).step hbA_19).step hbA_20).step hbA_21).step hbA_22).step hbA_23).step hbA_24).step hbA_25).step hbA_26).step hbA_27).step hbA_28).step hbA_29).step hbA_30)); rintro x wA_31 ⟨rfl, hbA_31⟩))
    go_wp2_with fail
    refine hK.out _ _ ?_ (fun hH32 => ?_)
    · with_reducible exact sv4 (((((((((((((((((((((((((((((((((Kp.refl Wz).drew.step hbA_0).step hbA_1).step hbA_2).step hbA_3).step hbA_4).step hbA_5).step hbA_6).step hbA_7).step hbA_8).step hbA_9).step hbA_10).step hbA_11).step hbA_12).step hbA_13).step hbA_14).step hbA_15).step hbA_16).step hbA_17).step hbA_18).step hbA_19).step hbA_20).step hbA_21).step hbA_22).step hbA_23).step hbA_24).step hbA_25).step hbA_26).step hbA_27).step hbA_28).step hbA_29).step hbA_30).step hbA_31) qo0 qo1 qo2 qo3 qt0 qt1 qt2 qt3 ql0 ql1 ql2 ql3 qz0 qz1 qz2 qz3
    clear hK K hH31
    (show wpAnyH _ _ oNA _ _ _ (lsN 98 97) { tmps := (c100 (c100 (c100 (c10 (c1 (c1 (c1 (c1 (c1 ([])))))))))).toArray, defers := [] } _); delta c100 c10 c1
    refine wpAnyH_take (i := 97) (oi := oNA_97) (v := ?_) rfl oNA_s oNA_f97 oNA_r97 (fun _ _ _ h => h) (Or.inl ⟨by rfl, ?_⟩) (by assumption) ?_
    rotate_left
    · (intro w hSw; (try dsimp only at hSw); delta oNA_97; go_simp; (try with_reducible rfl))
    (show wpAnyH _ _ oNA _ _ _ (lsN 98 98) { tmps := (c100 (c100 (c100 (c10 (c1 (c1 (c1 (c1 (c1 ([])))))))))).toArray, defers := [] } _); delta c100 c10 c1
    refine wpAnyH_done (by kernel_rfl) ?_ _
    clear hH32
    go_wp2_with fail
    go_meet
    exact ⟨rfl, (((((((((((((((((((((((((((((((((Kp.refl Wz).drew.step hbA_0).step hbA_1).step hbA_2).step hbA_3).step hbA_4).step hbA_5).step hbA_6).step hbA_7).step hbA_8).step hbA_9).step hbA_10).step hbA_11).step hbA_12).step hbA_13).step hbA_14).step hbA_15).step hbA_16).step hbA_17).step hbA_18).step hbA_19).step hbA_20).step hbA_21).step hbA_22).step hbA_23).step hbA_24).step hbA_25).step hbA_26).step hbA_27).step hbA_28).step hbA_29).step hbA_30).step hbA_31)⟩
  case rest =>
  as_aux_lemma =>
  obtain ⟨rfl, hK⟩ := hcut
  have HT := Lib.hid (HT.out.keep hK)
  have HW := Lib.hid (bl_pack HW.out HW.out.size hK)
  have No := Lib.hid (No.out.keep hK)
  have Nt := Lib.hid (Nt.out.keep hK)
  have Nl := Lib.hid (Nl.out.keep hK)
  have Nz := Lib.hid (Nz.out.keep hK)
  have Ko := Lib.hid (keep_block hK Ko.out)
  have Kt := Lib.hid (keep_block hK Kt.out)
  have Kl := Lib.hid (keep_block hK Kl.out)
  have Kz := Lib.hid (keep_block hK Kz.out)
  clear hK qo0 qo1 qo2 qo3 qt0 qt1 qt2 qt3 ql0 ql1 ql2 ql3 qz0 qz1 qz2 qz3
  obtain ⟨wzA, rfl⟩ : ∃ z : World, z = wc := ⟨_, rfl⟩
  clear E1 E2 E3 E4 E5 E6 E7 E8 E9
  obtain ⟨qo0, qo1, qo2, qo3, -, -, -, -⟩ := res4_facts Ko.out
  obtain ⟨qt0, qt1, qt2, qt3, -, -, -, -⟩ := res4_facts Kt.out
  obtain ⟨ql0, ql1, ql2, ql3, -, -, -, -⟩ := res4_facts Kl.out
  obtain ⟨qz0, qz1, qz2, qz3, -, -, -, -⟩ := res4_facts Kz.out
  go_wp2_with fail
  refine (inf1R _).mono ?_
  rintro _ w51 ⟨rfl, b51⟩
  have HT := Lib.hid (HT.out.keep b51)
  have HW := Lib.hid (bl_pack HW.out HW.out.size b51)
  have No := Lib.hid (No.out.keep b51)
  have Nt := Lib.hid (Nt.out.keep b51)
  have Nl := Lib.hid (Nl.out.keep b51)
  have Nz := Lib.hid (Nz.out.keep b51)
  have Ko := Lib.hid (keep_block b51 Ko.out)
  have Kt := Lib.hid (keep_block b51 Kt.out)
  have Kl := Lib.hid (keep_block b51 Kl.out)
  have Kz := Lib.hid (keep_block b51 Kz.out)
  clear b51
  clear qo0 qo1 qo2 qo3 qt0 qt1 qt2 qt3 ql0 ql1 ql2 ql3 qz0 qz1 qz2 qz3
  obtain ⟨qo0, qo1, qo2, qo3, -, -, -, -⟩ := res4_facts Ko.out
  obtain ⟨qt0, qt1, qt2, qt3, -, -, -, -⟩ := res4_facts Kt.out
  obtain ⟨ql0, ql1, ql2, ql3, -, -, -, -⟩ := res4_facts Kl.out
  obtain ⟨qz0, qz1, qz2, qz3, -, -, -, -⟩ := res4_facts Kz.out
  go_wp2_with fail
  refine (ofNo 9218868437227405312 (by decide) (by decide) HT.out).mono ?_
  rintro _ w52 ⟨rfl, b52⟩
  have HT := Lib.hid (HT.out.keep b52)
  have HW := Lib.hid (bl_pack HW.out HW.out.size b52)
  have No := Lib.hid (No.out.keep b52)
  have Nt := Lib.hid (Nt.out.keep b52)
  have Nl := Lib.hid (Nl.out.keep b52)
  have Nz := Lib.hid (Nz.out.keep b52)
  have Ko := Lib.hid (keep_block b52 Ko.out)
  have Kt := Lib.hid (keep_block b52 Kt.out)
  have Kl := Lib.hid (keep_block b52 Kl.out)
  have Kz := Lib.hid (keep_block b52 Kz.out)
  clear b52
  clear qo0 qo1 qo2 qo3 qt0 qt1 qt2 qt3 ql0 ql1 ql2 ql3 qz0 qz1 qz2 qz3
  obtain ⟨qo0, qo1, qo2, qo3, -, -, -, -⟩ := res4_facts Ko.out
  obtain ⟨qt0, qt1, qt2, qt3, -, -, -, -⟩ := res4_facts Kt.out
  obtain ⟨ql0, ql1, ql2, ql3, -, -, -, -⟩ := res4_facts Kl.out
  obtain ⟨qz0, qz1, qz2, qz3, -, -, -, -⟩ := res4_facts Kz.out
  go_wp2_with fail
  refine (okNo).mono ?_
  rintro _ w53 ⟨rfl, b53⟩
  have HT := Lib.hid (HT.out.keep b53)
  have HW := Lib.hid (bl_pack HW.out HW.out.size b53)
  have No := Lib.hid (No.out.keep b53)
  have Nt := Lib.hid (Nt.out.keep b53)
  have Nl := Lib.hid (Nl.out.keep b53)
  have Nz := Lib.hid (Nz.out.keep b53)
  have Ko := Lib.hid (keep_block b53 Ko.out)
  have Kt := Lib.hid (keep_block b53 Kt.out)
  have Kl := Lib.hid (keep_block b53 Kl.out)
  have Kz := Lib.hid (keep_block b53 Kz.out)
  clear b53
  clear qo0 qo1 qo2 qo3 qt0 qt1 qt2 qt3 ql0 ql1 ql2 ql3 qz0 qz1 qz2 qz3
  obtain ⟨qo0, qo1, qo2, qo3, -, -, -, -⟩ := res4_facts Ko.out
  obtain ⟨qt0, qt1, qt2, qt3, -, -, -, -⟩ := res4_facts Kt.out
  obtain ⟨ql0, ql1, ql2, ql3, -, -, -, -⟩ := res4_facts Kl.out
  obtain ⟨qz0, qz1, qz2, qz3, -, -, -, -⟩ := res4_facts Kz.out
  go_wp2_with fail
  refine (nanR _).mono ?_
  rintro _ w54 ⟨rfl, b54⟩
  have HT := Lib.hid (HT.out.keep b54)
  have HW := Lib.hid (bl_pack HW.out HW.out.size b54)
  have No := Lib.hid (No.out.keep b54)
  have Nt := Lib.hid (Nt.out.keep b54)
  have Nl := Lib.hid (Nl.out.keep b54)
  have Nz := Lib.hid (Nz.out.keep b54)
  have Ko := Lib.hid (keep_block b54 Ko.out)
  have Kt := Lib.hid (keep_block b54 Kt.out)
  have Kl := Lib.hid (keep_block b54 Kl.out)
  have Kz := Lib.hid (keep_block b54 Kz.out)
  clear b54
  clear qo0 qo1 qo2 qo3 qt0 qt1 qt2 qt3 ql0 ql1 ql2 ql3 qz0 qz1 qz2 qz3
  obtain ⟨qo0, qo1, qo2, qo3, -, -, -, -⟩ := res4_facts Ko.out
  obtain ⟨qt0, qt1, qt2, qt3, -, -, -, -⟩ := res4_facts Kt.out
  obtain ⟨ql0, ql1, ql2, ql3, -, -, -, -⟩ := res4_facts Kl.out
  obtain ⟨qz0, qz1, qz2, qz3, -, -, -, -⟩ := res4_facts Kz.out
  go_wp2_with fail
  refine (ofNo 9221120237041090561 (by decide) (by decide) HT.out).mono ?_
  rintro _ w55 ⟨rfl, b55⟩
  have HT := Lib.hid (HT.out.keep b55)
  have HW := Lib.hid (bl_pack HW.out HW.out.size b55)
  have No := Lib.hid (No.out.keep b55)
  have Nt := Lib.hid (Nt.out.keep b55)
  have Nl := Lib.hid (Nl.out.keep b55)
  have Nz := Lib.hid (Nz.out.keep b55)
  have Ko := Lib.hid (keep_block b55 Ko.out)
  have Kt := Lib.hid (keep_block b55 Kt.out)
  have Kl := Lib.hid (keep_block b55 Kl.out)
  have Kz := Lib.hid (keep_block b55 Kz.out)
  clear b55
  clear qo0 qo1 qo2 qo3 qt0 qt1 qt2 qt3 ql0 ql1 ql2 ql3 qz0 qz1 qz2 qz3
  obtain ⟨qo0, qo1, qo2, qo3, -, -, -, -⟩ := res4_facts Ko.out
  obtain ⟨qt0, qt1, qt2, qt3, -, -, -, -⟩ := res4_facts Kt.out
  obtain ⟨ql0, ql1, ql2, ql3, -, -, -, -⟩ := res4_facts Kl.out
  obtain ⟨qz0, qz1, qz2, qz3, -, -, -, -⟩ := res4_facts Kz.out
  go_wp2_with fail
  refine (okNo).mono ?_
  rintro _ w56 ⟨rfl, b56⟩
  have HT := Lib.hid (HT.out.keep b56)
  have HW := Lib.hid (bl_pack HW.out HW.out.size b56)
  have No := Lib.hid (No.out.keep b56)
  have Nt := Lib.hid (Nt.out.keep b56)
  have Nl := Lib.hid (Nl.out.keep b56)
  have Nz := Lib.hid (Nz.out.keep b56)
  have Ko := Lib.hid (keep_block b56 Ko.out)
  have Kt := Lib.hid (keep_block b56 Kt.out)
  have Kl := Lib.hid (keep_block b56 Kl.out)
  have Kz := Lib.hid (keep_block b56 Kz.out)
  clear b56
  clear qo0 qo1 qo2 qo3 qt0 qt1 qt2 qt3 ql0 ql1 ql2 ql3 qz0 qz1 qz2 qz3
  obtain ⟨qo0, qo1, qo2, qo3, -, -, -, -⟩ := res4_facts Ko.out
  obtain ⟨qt0, qt1, qt2, qt3, -, -, -, -⟩ := res4_facts Kt.out
  obtain ⟨ql0, ql1, ql2, ql3, -, -, -, -⟩ := res4_facts Kl.out
  obtain ⟨qz0, qz1, qz2, qz3, -, -, -, -⟩ := res4_facts Kz.out
  go_wp2_with fail
  refine (floatInf Nt.out HG.out).mono ?_
  rintro _ w57 ⟨rfl, b57⟩
  have HT := Lib.hid (HT.out.keep b57)
  have HW := Lib.hid (bl_pack HW.out HW.out.size b57)
  have No := Lib.hid (No.out.keep b57)
  have Nt := Lib.hid (Nt.out.keep b57)
  have Nl := Lib.hid (Nl.out.keep b57)
  have Nz := Lib.hid (Nz.out.keep b57)
  have Ko := Lib.hid (keep_block b57 Ko.out)
  have Kt := Lib.hid (keep_block b57 Kt.out)
  have Kl := Lib.hid (keep_block b57 Kl.out)
  have Kz := Lib.hid (keep_block b57 Kz.out)
  clear b57
  clear qo0 qo1 qo2 qo3 qt0 qt1 qt2 qt3 ql0 ql1 ql2 ql3 qz0 qz1 qz2 qz3
  obtain ⟨qo0, qo1, qo2, qo3, -, -, -, -⟩ := res4_facts Ko.out
  obtain ⟨qt0, qt1, qt2, qt3, -, -, -, -⟩ := res4_facts Kt.out
  obtain ⟨ql0, ql1, ql2, ql3, -, -, -, -⟩ := res4_facts Kl.out
  obtain ⟨qz0, qz1, qz2, qz3, -, -, -, -⟩ := res4_facts Kz.out
  go_wp2_with fail
  refine (isinfP _).mono ?_
  rintro _ w58 ⟨rfl, b58⟩
  have HT := Lib.hid (HT.out.keep b58)
  have HW := Lib.hid (bl_pack HW.out HW.out.size b58)
  have No := Lib.hid (No.out.keep b58)
  have Nt := Lib.hid (Nt.out.keep b58)
  have Nl := Lib.hid (Nl.out.keep b58)
  have Nz := Lib.hid (Nz.out.keep b58)
  have Ko := Lib.hid (keep_block b58 Ko.out)
  have Kt := Lib.hid (keep_block b58 Kt.out)
  have Kl := Lib.hid (keep_block b58 Kl.out)
  have Kz := Lib.hid (keep_block b58 Kz.out)
  clear b58
  clear qo0 qo1 qo2 qo3 qt0 qt1 qt2 qt3 ql0 ql1 ql2 ql3 qz0 qz1 qz2 qz3
  obtain ⟨qo0, qo1, qo2, qo3, -, -, -, -⟩ := res4_facts Ko.out
  obtain ⟨qt0, qt1, qt2, qt3, -, -, -, -⟩ := res4_facts Kt.out
  obtain ⟨ql0, ql1, ql2, ql3, -, -, -, -⟩ := res4_facts Kl.out
  obtain ⟨qz0, qz1, qz2, qz3, -, -, -, -⟩ := res4_facts Kz.out
  go_wp2_with fail
  refine (negB Nt.out).mono ?_
  rintro _ w59 ⟨vu, rfl, Mu, b59⟩
  have HT := Lib.hid (HT.out.keep b59)
  have HW := Lib.hid (bl_pack HW.out HW.out.size b59)
  have No := Lib.hid (No.out.keep b59)
  have Nt := Lib.hid (Nt.out.keep b59)
  have Nl := Lib.hid (Nl.out.keep b59)
  have Nz := Lib.hid (Nz.out.keep b59)
  have Ko := Lib.hid (keep_block b59 Ko.out)
  have Kt := Lib.hid (keep_block b59 Kt.out)
  have Kl := Lib.hid (keep_block b59 Kl.out)
  have Kz := Lib.hid (keep_block b59 Kz.out)
  have Nu := Lib.hid Mu
  clear b59 Mu
  clear qo0 qo1 qo2 qo3 qt0 qt1 qt2 qt3 ql0 ql1 ql2 ql3 qz0 qz1 qz2 qz3
  obtain ⟨qo0, qo1, qo2, qo3, -, -, -, -⟩ := res4_facts Ko.out
  obtain ⟨qt0, qt1, qt2, qt3, -, -, -, -⟩ := res4_facts Kt.out
  obtain ⟨ql0, ql1, ql2, ql3, -, -, -, -⟩ := res4_facts Kl.out
  obtain ⟨qz0, qz1, qz2, qz3, -, -, -, -⟩ := res4_facts Kz.out
  go_wp2_with fail
  refine (floatMinf Nu.out HG.out).mono ?_
  rintro _ w60 ⟨rfl, b60⟩
  have HT := Lib.hid (HT.out.keep b60)
  have HW := Lib.hid (bl_pack HW.out HW.out.size b60)
  have No := Lib.hid (No.out.keep b60)
  have Nt := Lib.hid (Nt.out.keep b60)
  have Nl := Lib.hid (Nl.out.keep b60)
  have Nz := Lib.hid (Nz.out.keep b60)
  have Nu := Lib.hid (Nu.out.keep b60)
  have Ko := Lib.hid (keep_block b60 Ko.out)
  have Kt := Lib.hid (keep_block b60 Kt.out)
  have Kl := Lib.hid (keep_block b60 Kl.out)
  have Kz := Lib.hid (keep_block b60 Kz.out)
  clear b60
  clear qo0 qo1 qo2 qo3 qt0 qt1 qt2 qt3 ql0 ql1 ql2 ql3 qz0 qz1 qz2 qz3
  obtain ⟨qo0, qo1, qo2, qo3, -, -, -, -⟩ := res4_facts Ko.out
  obtain ⟨qt0, qt1, qt2, qt3, -, -, -, -⟩ := res4_facts Kt.out
  obtain ⟨ql0, ql1, ql2, ql3, -, -, -, -⟩ := res4_facts Kl.out
  obtain ⟨qz0, qz1, qz2, qz3, -, -, -, -⟩ := res4_facts Kz.out
  go_wp2_with fail
  refine (isinfM _).mono ?_
  rintro _ w61 ⟨rfl, b61⟩
  have HT := Lib.hid (HT.out.keep b61)
  have HW := Lib.hid (bl_pack HW.out HW.out.size b61)
  have No := Lib.hid (No.out.keep b61)
  have Nt := Lib.hid (Nt.out.keep b61)
  have Nl := Lib.hid (Nl.out.keep b61)
  have Nz := Lib.hid (Nz.out.keep b61)
  have Nu := Lib.hid (Nu.out.keep b61)
  have Ko := Lib.hid (keep_block b61 Ko.out)
  have Kt := Lib.hid (keep_block b61 Kt.out)
  have Kl := Lib.hid (keep_block b61 Kl.out)
  have Kz := Lib.hid (keep_block b61 Kz.out)
  clear b61
  clear qo0 qo1 qo2 qo3 qt0 qt1 qt2 qt3 ql0 ql1 ql2 ql3 qz0 qz1 qz2 qz3
  obtain ⟨qo0, qo1, qo2, qo3, -, -, -, -⟩ := res4_facts Ko.out
  obtain ⟨qt0, qt1, qt2, qt3, -, -, -, -⟩ := res4_facts Kt.out
  obtain ⟨ql0, ql1, ql2, ql3, -, -, -, -⟩ := res4_facts Kl.out
  obtain ⟨qz0, qz1, qz2, qz3, -, -, -, -⟩ := res4_facts Kz.out
  go_wp2_with fail
  refine (floatB Nl.out).mono ?_
  rintro _ w62 ⟨f62, rfl, hf62, b62⟩
  have o62 := hf62.eq HLz.out
  have HT := Lib.hid (HT.out.keep b62)
  have HW := Lib.hid (bl_pack HW.out HW.out.size b62)
  have No := Lib.hid (No.out.keep b62)
  have Nt := Lib.hid (Nt.out.keep b62)
  have Nl := Lib.hid (Nl.out.keep b62)
  have Nz := Lib.hid (Nz.out.keep b62)
  have Nu := Lib.hid (Nu.out.keep b62)
  have Ko := Lib.hid (keep_block b62 Ko.out)
  have Kt := Lib.hid (keep_block b62 Kt.out)
  have Kl := Lib.hid (keep_block b62 Kl.out)
  have Kz := Lib.hid (keep_block b62 Kz.out)
  clear qo0 qo1 qo2 qo3 qt0 qt1 qt2 qt3 ql0 ql1 ql2 ql3 qz0 qz1 qz2 qz3
  clear b62 hf62
  obtain ⟨qo0, qo1, qo2, qo3, -, -, -, -⟩ := res4_facts Ko.out
  obtain ⟨qt0, qt1, qt2, qt3, -, -, -, -⟩ := res4_facts Kt.out
  obtain ⟨ql0, ql1, ql2, ql3, -, -, -, -⟩ := res4_facts Kl.out
  obtain ⟨qz0, qz1, qz2, qz3, -, -, -, -⟩ := res4_facts Kz.out
  go_wp2_with fail
  refine (inf2R _).mono ?_
  rintro _ w63 ⟨rfl, b63⟩
  have HT := Lib.hid (HT.out.keep b63)
  have HW := Lib.hid (bl_pack HW.out HW.out.size b63)
  have No := Lib.hid (No.out.keep b63)
  have Nt := Lib.hid (Nt.out.keep b63)
  have Nl := Lib.hid (Nl.out.keep b63)
  have Nz := Lib.hid (Nz.out.keep b63)
  have Ko := Lib.hid (keep_block b63 Ko.out)
  have Kt := Lib.hid (keep_block b63 Kt.out)
  have Kl := Lib.hid (keep_block b63 Kl.out)
  have Kz := Lib.hid (keep_block b63 Kz.out)
  clear b63
  clear qo0 qo1 qo2 qo3 qt0 qt1 qt2 qt3 ql0 ql1 ql2 ql3 qz0 qz1 qz2 qz3
  obtain ⟨qo0, qo1, qo2, qo3, -, -, -, -⟩ := res4_facts Ko.out
  obtain ⟨qt0, qt1, qt2, qt3, -, -, -, -⟩ := res4_facts Kt.out
  obtain ⟨ql0, ql1, ql2, ql3, -, -, -, -⟩ := res4_facts Kl.out
  obtain ⟨qz0, qz1, qz2, qz3, -, -, -, -⟩ := res4_facts Kz.out
  go_wp2_with fail
  refine (ofNo 18442240474082181120 (by decide) (by decide) HT.out).mono ?_
  rintro _ w64 ⟨rfl, b64⟩
  have HT := Lib.hid (HT.out.keep b64)
  have HW := Lib.hid (bl_pack HW.out HW.out.size b64)
  have No := Lib.hid (No.out.keep b64)
  have Nt := Lib.hid (Nt.out.keep b64)
  have Nl := Lib.hid (Nl.out.keep b64)
  have Nz := Lib.hid (Nz.out.keep b64)
  have Ko := Lib.hid (keep_block b64 Ko.out)
  have Kt := Lib.hid (keep_block b64 Kt.out)
  have Kl := Lib.hid (keep_block b64 Kl.out)
  have Kz := Lib.hid (keep_block b64 Kz.out)
  clear b64
  clear qo0 qo1 qo2 qo3 qt0 qt1 qt2 qt3 ql0 ql1 ql2 ql3 qz0 qz1 qz2 qz3
  obtain ⟨Wn, hWn, Bn, -, Jn⟩ := box_res w64 (.cells #[.slice none 0 0, .int .i64 0, .bool false, .bool true] 29)
  obtain ⟨qo0, qo1, qo2, qo3, -, -, -, -⟩ := res4_facts Ko.out
  obtain ⟨qt0, qt1, qt2, qt3, -, -, -, -⟩ := res4_facts Kt.out
  obtain ⟨ql0, ql1, ql2, ql3, -, -, -, -⟩ := res4_facts Kl.out
  obtain ⟨qz0, qz1, qz2, qz3, -, -, -, -⟩ := res4_facts Kz.out
  go_wp2_with fail
  rw [← hWn]
  clear hWn
  clear qo0 qo1 qo2 qo3 qt0 qt1 qt2 qt3 ql0 ql1 ql2 ql3 qz0 qz1 qz2 qz3
  have HT := Lib.hid (HT.out.keep Bn)
  have HW := Lib.hid (bl_pack HW.out HW.out.size Bn)
  have No := Lib.hid (No.out.keep Bn)
  have Nt := Lib.hid (Nt.out.keep Bn)
  have Nl := Lib.hid (Nl.out.keep Bn)
  have Nz := Lib.hid (Nz.out.keep Bn)
  have Ko := Lib.hid (keep_block Bn Ko.out)
  have Kt := Lib.hid (keep_block Bn Kt.out)
  have Kl := Lib.hid (keep_block Bn Kl.out)
  have Kz := Lib.hid (keep_block Bn Kz.out)
  have Kn := Lib.hid Jn
  clear Bn Jn
  have oz := FloOf.eq FloOf.zero FloOf.zero
  obtain ⟨qo0, qo1, qo2, qo3, -, -, -, -⟩ := res4_facts Ko.out
  obtain ⟨qn0, qn1, qn2, qn3, -, -, -, -⟩ := res4_facts Kn.out
  obtain ⟨qz0, qz1, qz2, qz3, -, -, -, -⟩ := res4_facts Kz.out
  go_upto_region 12 with (fail)
  go_cut [229] (fun x wx => x = .bool false ∧ Kp Wn wx)
  case first =>
    as_aux_lemma =>
    have HC0 := Lib.hid (fun (Y : World) (h' : Kp Wn Y) => addNa (No.out.keep h'.out) (HT.out.keep h'.out))
    have HC1 := Lib.hid (fun (Y : World) (h' : Kp Wn Y) => okNo (w := Y))
    have HC2 := Lib.hid (fun (Y : World) (h' : Kp Wn Y) => addNb (No.out.keep h'.out) (HT.out.keep h'.out))
    have HC3 := Lib.hid (fun (Y : World) (h' : Kp Wn Y) => okNo (w := Y))
    have HC4 := Lib.hid (fun (Y : World) (h' : Kp Wn Y) => addNa (Nz.out.keep h'.out) (HT.out.keep h'.out))
    have HC5 := Lib.hid (fun (Y : World) (h' : Kp Wn Y) => okNo (w := Y))
    have HC6 := Lib.hid (fun (Y : World) (h' : Kp Wn Y) => addNb (Nz.out.keep h'.out) (HT.out.keep h'.out))
    have HC7 := Lib.hid (fun (Y : World) (h' : Kp Wn Y) => okNo (w := Y))
    have HC8 := Lib.hid (fun (Y : World) (h' : Kp Wn Y) => subNN (HT.out.keep h'.out))
    have HC9 := Lib.hid (fun (Y : World) (h' : Kp Wn Y) => okNo (w := Y))
    have HC10 := Lib.hid (fun (Y : World) (h' : Kp Wn Y) => subNb (No.out.keep h'.out) (HT.out.keep h'.out))
    have HC11 := Lib.hid (fun (Y : World) (h' : Kp Wn Y) => okNo (w := Y))
    have HC12 := Lib.hid (fun (Y : World) (h' : Kp Wn Y) => mulNa (Nz.out.keep h'.out) (HT.out.keep h'.out))
    have HC13 := Lib.hid (fun (Y : World) (h' : Kp Wn Y) => okNo (w := Y))
    have HC14 := Lib.hid (fun (Y : World) (h' : Kp Wn Y) => mulNb (No.out.keep h'.out) (HT.out.keep h'.out))
    have HC15 := Lib.hid (fun (Y : World) (h' : Kp Wn Y) => okNo (w := Y))
    have HC16 := Lib.hid (fun (Y : World) (h' : Kp Wn Y) => negNo (w := Y))
    have HC17 := Lib.hid (fun (Y : World) (h' : Kp Wn Y) => okNo (w := Y))
    have HC18 := Lib.hid (fun (Y : World) (h' : Kp Wn Y) => shiftNo 3 (HT.out.keep h'.out))
    have HC19 := Lib.hid (fun (Y : World) (h' : Kp Wn Y) => okNo (w := Y))
    have HC20 := Lib.hid (fun (Y : World) (h' : Kp Wn Y) => cmpNa (No.out.keep h'.out) (HT.out.keep h'.out))
    have HC21 := Lib.hid (fun (Y : World) (h' : Kp Wn Y) => cmpNb (No.out.keep h'.out) (HT.out.keep h'.out))
    have HC22 := Lib.hid (fun (Y : World) (h' : Kp Wn Y) => signNo (w := Y))
    have HC23 := Lib.hid (fun (Y : World) (h' : Kp Wn Y) => high_no 0 Y)
    have HC24 := Lib.hid (fun (Y : World) (h' : Kp Wn Y) => low_no 0 Y)
    have HC25 := Lib.hid (fun (Y : World) (h' : Kp Wn Y) => floatNo (w := Y))
    refine wp_region_held_drew (S := fun w' => w'.cell? ⟨w2.heap.size, 0, none⟩ = some (.slice po no co) ∧ w'.cell? ⟨w2.heap.size, 1, none⟩ = some (.int .i64 eo) ∧ w'.cell? ⟨w2.heap.size, 2, none⟩ = some (.bool go) ∧ w'.cell? ⟨w2.heap.size, 3, none⟩ = some (.bool false) ∧ w'.cell? ⟨w64.heap.size, 0, none⟩ = some (.slice none 0 0) ∧ w'.cell? ⟨w64.heap.size, 1, none⟩ = some (.int .i64 0) ∧ w'.cell? ⟨w64.heap.size, 2, none⟩ = some (.bool false) ∧ w'.cell? ⟨w64.heap.size, 3, none⟩ = some (.bool true) ∧ w'.cell? ⟨Wl.heap.size, 0, none⟩ = some (.slice none 0 0) ∧ w'.cell? ⟨Wl.heap.size, 1, none⟩ = some (.int .i64 0) ∧ w'.cell? ⟨Wl.heap.size, 2, none⟩ = some (.bool false) ∧ w'.cell? ⟨Wl.heap.size, 3, none⟩ = some (.bool false) ∧ Kp Wn w') (by kernel_rfl) ?_ (fun hH0 => ?_)
    · with_reducible exact sv3 (Kp.refl Wn).drew qo0 qo1 qo2 qo3 qn0 qn1 qn2 qn3 qz0 qz1 qz2 qz3
    show wpAnyH _ _ oNC _ _ _ (lsN 88 0) _ _
    refine wpAnyH_take (i := 0) (oi := oNC_0) (v := ?_) rfl oNC_s oNC_f0 oNC_r0 (fun _ _ _ h => h) (Or.inl ⟨by rfl, ?_⟩) (by assumption) ?_
    rotate_left
    · (intro w hSw; (try dsimp only at hSw); delta oNC_0; go_simp; (try with_reducible rfl))
    (show wpAnyH _ _ oNC _ _ _ (lsN 88 1) { tmps := (c100 (c100 (c100 (c10 (c1 (c1 (c1 (c1 (c1 ([])))))))))).toArray, defers := [] } _); delta c100 c10 c1
    refine wpAnyH_take (i := 1) (oi := oNC_1) (v := ?_) rfl oNC_s oNC_f1 oNC_r1 (fun _ _ _ h => h) (Or.inl ⟨by rfl, ?_⟩) (by assumption) ?_
    rotate_left
    · (intro w hSw; (try dsimp only at hSw); delta oNC_1; go_simp; (try with_reducible rfl))
    (show wpAnyH _ _ oNC _ _ _ (lsN 88 2) { tmps := (c100 (c100 (c100 (c10 (c1 (c1 (c1 (c1 (c1 ([])))))))))).toArray, defers := [] } _); delta c100 c10 c1
    refine wpAnyH_ready (rs := [2]) oNC_c2 (by simp) ?_
    refine AllReadyH.cons (o := oNC_2) rfl (fun K hK => ?_) AllReadyH.nil
    delta oNC_2
    rw [if_pos (by rfl)]
    go_simp
    (go_at_call 10; ((with_reducible refine (HC0.out _ ?hq).mono ?_); (case hq => exact (Kp.refl Wn).drew); rintro x wC_0 ⟨rfl, hbC_0⟩))
    go_wp2_with fail
    refine hK.out _ _ ?_ (fun hH1 => ?_)
    · with_reducible exact sv3 ((Kp.refl Wn).drew.step hbC_0) qo0 qo1 qo2 qo3 qn0 qn1 qn2 qn3 qz0 qz1 qz2 qz3
    clear hK K hH0
    (show wpAnyH _ _ oNC _ _ _ (lsN 88 3) { tmps := (c100 (c100 (c100 (c10 (c1 (c1 (c1 (c1 (c1 ([])))))))))).toArray, defers := [] } _); delta c100 c10 c1
    refine wpAnyH_ready (rs := [3]) oNC_c3 (by simp) ?_
    refine AllReadyH.cons (o := oNC_3) rfl (fun K hK => ?_) AllReadyH.nil
    delta oNC_3
    rw [if_pos (by rfl)]
    go_simp
    (go_at_call 18; ((with_reducible refine (HC1.out _ ?hq).mono ?_); (case hq => exact ((Kp.refl Wn).drew.step hbC_0)); rintro x wC_1 ⟨rfl, hbC_1⟩))
    go_wp2_with fail
    refine hK.out _ _ ?_ (fun hH2 => ?_)
    · with_reducible exact sv3 (((Kp.refl Wn).drew.step hbC_0).step hbC_1) qo0 qo1 qo2 qo3 qn0 qn1 qn2 qn3 qz0 qz1 qz2 qz3
    clear hK K hH1
    (show wpAnyH _ _ oNC _ _ _ (lsN 88 4) { tmps := (c100 (c100 (c100 (c10 (c1 (c1 (c1 (c1 (c1 ([])))))))))).toArray, defers := [] } _); delta c100 c10 c1
    refine wpAnyH_take (i := 4) (oi := oNC_4) (v := ?_) rfl oNC_s oNC_f4 oNC_r4 (fun _ _ _ h => h) (Or.inl ⟨by rfl, ?_⟩) (by assumption) ?_
    rotate_left
    · (intro w hSw; (try dsimp only at hSw); delta oNC_4; go_simp; (try with_reducible rfl))
    (show wpAnyH _ _ oNC _ _ _ (lsN 88 5) { tmps := (c100 (c100 (c100 (c10 (c1 (c1 (c1 (c1 (c1 ([])))))))))).toArray, defers := [] } _); delta c100 c10 c1
    refine wpAnyH_take (i := 5) (oi := oNC_5) (v := ?_) rfl oNC_s oNC_f5 oNC_r5 (fun _ _ _ h => h) (Or.inl ⟨by rfl, ?_⟩) (by assumption) ?_
    rotate_left
    · (intro w hSw; (try dsimp only at hSw); delta oNC_5; go_simp; (try with_reducible rfl))
    (show wpAnyH _ _ oNC _ _ _ (lsN 88 6) { tmps := (c100 (c100 (c100 (c10 (c1 (c1 (c1 (c1 (c1 ([])))))))))).toArray, defers := [] } _); delta c100 c10 c1
    refine wpAnyH_take (i := 6) (oi := oNC_6) (v := ?_) rfl oNC_s oNC_f6 oNC_r6 (fun _ _ _ h => h) (Or.inl ⟨by rfl, ?_⟩) (by assumption) ?_
    rotate_left
    · (intro w hSw; (try dsimp only at hSw); delta oNC_6; go_simp; (try with_reducible rfl))
    (show wpAnyH _ _ oNC _ _ _ (lsN 88 7) { tmps := (c100 (c100 (c100 (c10 (c1 (c1 (c1 (c1 (c1 ([])))))))))).toArray, defers := [] } _); delta c100 c10 c1
    refine wpAnyH_ready (rs := [7]) oNC_c7 (by simp) ?_
    refine AllReadyH.cons (o := oNC_7) rfl (fun K hK => ?_) AllReadyH.nil
    delta oNC_7
    rw [if_pos (by rfl)]
    go_simp
    (go_at_call 10; ((with_reducible refine (HC2.out _ ?hq).mono ?_); (case hq => exact (((Kp.refl Wn).drew.step hbC_0).step hbC_1)); rintro x wC_2 ⟨rfl, hbC_2⟩))
    go_wp2_with fail
    refine hK.out _ _ ?_ (fun hH3 => ?_)
    · with_reducible exact sv3 ((((Kp.refl Wn).drew.step hbC_0).step hbC_1).step hbC_2) qo0 qo1 qo2 qo3 qn0 qn1 qn2 qn3 qz0 qz1 qz2 qz3
    clear hK K hH2
    (show wpAnyH _ _ oNC _ _ _ (lsN 88 8) { tmps := (c100 (c100 (c100 (c10 (c1 (c1 (c1 (c1 (c1 ([])))))))))).toArray, defers := [] } _); delta c100 c10 c1
    refine wpAnyH_ready (rs := [8]) oNC_c8 (by simp) ?_
    refine AllReadyH.cons (o := oNC_8) rfl (fun K hK => ?_) AllReadyH.nil
    delta oNC_8
    rw [if_pos (by rfl)]
    go_simp
    (go_at_call 18; ((with_reducible refine (HC3.out _ ?hq).mono ?_); (case hq => exact ((((Kp.refl Wn).drew.step hbC_0).step hbC_1).step hbC_2)); rintro x wC_3 ⟨rfl, hbC_3⟩))
    go_wp2_with fail
    refine hK.out _ _ ?_ (fun hH4 => ?_)
    · with_reducible exact sv3 (((((Kp.refl Wn).drew.step hbC_0).step hbC_1).step hbC_2).step hbC_3) qo0 qo1 qo2 qo3 qn0 qn1 qn2 qn3 qz0 qz1 qz2 qz3
    clear hK K hH3
    (show wpAnyH _ _ oNC _ _ _ (lsN 88 9) { tmps := (c100 (c100 (c100 (c10 (c1 (c1 (c1 (c1 (c1 ([])))))))))).toArray, defers := [] } _); delta c100 c10 c1
    refine wpAnyH_take (i := 9) (oi := oNC_9) (v := ?_) rfl oNC_s oNC_f9 oNC_r9 (fun _ _ _ h => h) (Or.inl ⟨by rfl, ?_⟩) (by assumption) ?_
    rotate_left
    · (intro w hSw; (try dsimp only at hSw); delta oNC_9; go_simp; (try with_reducible rfl))
    (show wpAnyH _ _ oNC _ _ _ (lsN 88 10) { tmps := (c100 (c100 (c100 (c10 (c1 (c1 (c1 (c1 (c1 ([])))))))))).toArray, defers := [] } _); delta c100 c10 c1
    refine wpAnyH_take (i := 10) (oi := oNC_10) (v := ?_) rfl oNC_s oNC_f10 oNC_r10 (fun _ _ _ h => h) (Or.inl ⟨by rfl, ?_⟩) (by assumption) ?_
    rotate_left
    · (intro w hSw; (try dsimp only at hSw); delta oNC_10; go_simp; (try with_reducible rfl))
    (show wpAnyH _ _ oNC _ _ _ (lsN 88 11) { tmps := (c100 (c100 (c100 (c10 (c1 (c1 (c1 (c1 (c1 ([])))))))))).toArray, defers := [] } _); delta c100 c10 c1
    refine wpAnyH_take (i := 11) (oi := oNC_11) (v := ?_) rfl oNC_s oNC_f11 oNC_r11 (fun _ _ _ h => h) (Or.inl ⟨by rfl, ?_⟩) (by assumption) ?_
    rotate_left
    · (intro w hSw; (try dsimp only at hSw); delta oNC_11; go_simp; (try with_reducible rfl))
    (show wpAnyH _ _ oNC _ _ _ (lsN 88 12) { tmps := (c100 (c100 (c100 (c10 (c1 (c1 (c1 (c1 (c1 ([])))))))))).toArray, defers := [] } _); delta c100 c10 c1
    as_aux_lemma =>
    refine wpAnyH_take (i := 12) (oi := oNC_12) (v := ?_) rfl oNC_s oNC_f12 oNC_r12 (fun _ _ _ h => h) (Or.inl ⟨by rfl, ?_⟩) (by assumption) ?_
    rotate_left
    · (intro w hSw; (try dsimp only at hSw); delta oNC_12; go_simp; (try with_reducible rfl))
    (show wpAnyH _ _ oNC _ _ _ (lsN 88 13) { tmps := (c100 (c100 (c100 (c10 (c1 (c1 (c1 (c1 (c1 ([])))))))))).toArray, defers := [] } _); delta c100 c10 c1
    refine wpAnyH_ready (rs := [13]) oNC_c13 (by simp) ?_
    refine AllReadyH.cons (o := oNC_13) rfl (fun K hK => ?_) AllReadyH.nil
    delta oNC_13
    rw [if_pos (by rfl)]
    go_simp
    (go_at_call 10; ((with_reducible refine (HC4.out _ ?hq).mono ?_); (case hq => exact (((((Kp.refl Wn).drew.step hbC_0).step hbC_1).step hbC_2).step hbC_3)); rintro x wC_4 ⟨rfl, hbC_4⟩))
    go_wp2_with fail
    refine hK.out _ _ ?_ (fun hH5 => ?_)
    · with_reducible exact sv3 ((((((Kp.refl Wn).drew.step hbC_0).step hbC_1).step hbC_2).step hbC_3).step hbC_4) qo0 qo1 qo2 qo3 qn0 qn1 qn2 qn3 qz0 qz1 qz2 qz3
    clear hK K hH4
    (show wpAnyH _ _ oNC _ _ _ (lsN 88 14) { tmps := (c100 (c100 (c100 (c10 (c1 (c1 (c1 (c1 (c1 ([])))))))))).toArray, defers := [] } _); delta c100 c10 c1
    refine wpAnyH_ready (rs := [14]) oNC_c14 (by simp) ?_
    refine AllReadyH.cons (o := oNC_14) rfl (fun K hK => ?_) AllReadyH.nil
    delta oNC_14
    rw [if_pos (by rfl)]
    go_simp
    (go_at_call 18; ((with_reducible refine (HC5.out _ ?hq).mono ?_); (case hq => exact ((((((Kp.refl Wn).drew.step hbC_0).step hbC_1).step hbC_2).step hbC_3).step hbC_4)); rintro x wC_5 ⟨rfl, hbC_5⟩))
    go_wp2_with fail
    refine hK.out _ _ ?_ (fun hH6 => ?_)
    · with_reducible exact sv3 (((((((Kp.refl Wn).drew.step hbC_0).step hbC_1).step hbC_2).step hbC_3).step hbC_4).step hbC_5) qo0 qo1 qo2 qo3 qn0 qn1 qn2 qn3 qz0 qz1 qz2 qz3
    clear hK K hH5
    (show wpAnyH _ _ oNC _ _ _ (lsN 88 15) { tmps := (c100 (c100 (c100 (c10 (c1 (c1 (c1 (c1 (c1 ([])))))))))).toArray, defers := [] } _); delta c100 c10 c1
    refine wpAnyH_take (i := 15) (oi := oNC_15) (v := ?_) rfl oNC_s oNC_f15 oNC_r15 (fun _ _ _ h => h) (Or.inl ⟨by rfl, ?_⟩) (by assumption) ?_
    rotate_left
    · (intro w hSw; (try dsimp only at hSw); delta oNC_15; go_simp; (try with_reducible rfl))
    (show wpAnyH _ _ oNC _ _ _ (lsN 88 16) { tmps := (c100 (c100 (c100 (c10 (c1 (c1 (c1 (c1 (c1 ([])))))))))).toArray, defers := [] } _); delta c100 c10 c1
    refine wpAnyH_take (i := 16) (oi := oNC_16) (v := ?_) rfl oNC_s oNC_f16 oNC_r16 (fun _ _ _ h => h) (Or.inl ⟨by rfl, ?_⟩) (by assumption) ?_
    rotate_left
    · (intro w hSw; (try dsimp only at hSw); delta oNC_16; go_simp; (try with_reducible rfl))
    (show wpAnyH _ _ oNC _ _ _ (lsN 88 17) { tmps := (c100 (c100 (c100 (c10 (c1 (c1 (c1 (c1 (c1 ([])))))))))).toArray, defers := [] } _); delta c100 c10 c1
    refine wpAnyH_take (i := 17) (oi := oNC_17) (v := ?_) rfl oNC_s oNC_f17 oNC_r17 (fun _ _ _ h => h) (Or.inl ⟨by rfl, ?_⟩) (by assumption) ?_
    rotate_left
    · (intro w hSw; (try dsimp only at hSw); delta oNC_17; go_simp; (try with_reducible rfl))
    (show wpAnyH _ _ oNC _ _ _ (lsN 88 18) { tmps := (c100 (c100 (c100 (c10 (c1 (c1 (c1 (c1 (c1 ([])))))))))).toArray, defers := [] } _); delta c100 c10 c1
    refine wpAnyH_take (i := 18) (oi := oNC_18) (v := ?_) rfl oNC_s oNC_f18 oNC_r18 (fun _ _ _ h => h) (Or.inl ⟨by rfl, ?_⟩) (by assumption) ?_
    rotate_left
    · (intro w hSw; (try dsimp only at hSw); delta oNC_18; go_simp; (try with_reducible rfl))
    (show wpAnyH _ _ oNC _ _ _ (lsN 88 19) { tmps := (c100 (c100 (c100 (c10 (c1 (c1 (c1 (c1 (c1 ([])))))))))).toArray, defers := [] } _); delta c100 c10 c1
    refine wpAnyH_ready (rs := [19]) oNC_c19 (by simp) ?_
    refine AllReadyH.cons (o := oNC_19) rfl (fun K hK => ?_) AllReadyH.nil
    delta oNC_19
    rw [if_pos (by rfl)]
    go_simp
    (go_at_call 10; ((with_reducible refine (HC6.out _ ?hq).mono ?_); (case hq => exact (((((((Kp.refl Wn).drew.step hbC_0).step hbC_1).step hbC_2).step hbC_3).step hbC_4).step hbC_5)); rintro x wC_6 ⟨rfl, hbC_6⟩))
    go_wp2_with fail
    refine hK.out _ _ ?_ (fun hH7 => ?_)
    · with_reducible exact sv3 ((((((((Kp.refl Wn).drew.step hbC_0).step hbC_1).step hbC_2).step hbC_3).step hbC_4).step hbC_5).step hbC_6) qo0 qo1 qo2 qo3 qn0 qn1 qn2 qn3 qz0 qz1 qz2 qz3
    clear hK K hH6
    (show wpAnyH _ _ oNC _ _ _ (lsN 88 20) { tmps := (c100 (c100 (c100 (c10 (c1 (c1 (c1 (c1 (c1 ([])))))))))).toArray, defers := [] } _); delta c100 c10 c1
    refine wpAnyH_ready (rs := [20]) oNC_c20 (by simp) ?_
    refine AllReadyH.cons (o := oNC_20) rfl (fun K hK => ?_) AllReadyH.nil
    delta oNC_20
    rw [if_pos (by rfl)]
    go_simp
    (go_at_call 18; ((with_reducible refine (HC7.out _ ?hq).mono ?_); (case hq => exact ((((((((Kp.refl Wn).drew.step hbC_0).step hbC_1).step hbC_2).step hbC_3).step hbC_4).step hbC_5).step hbC_6)); rintro x wC_7 ⟨rfl, hbC_7⟩))
    go_wp2_with fail
    refine hK.out _ _ ?_ (fun hH8 => ?_)
    · with_reducible exact sv3 (((((((((Kp.refl Wn).drew.step hbC_0).step hbC_1).step hbC_2).step hbC_3).step hbC_4).step hbC_5).step hbC_6).step hbC_7) qo0 qo1 qo2 qo3 qn0 qn1 qn2 qn3 qz0 qz1 qz2 qz3
    clear hK K hH7
    (show wpAnyH _ _ oNC _ _ _ (lsN 88 21) { tmps := (c100 (c100 (c100 (c10 (c1 (c1 (c1 (c1 (c1 ([])))))))))).toArray, defers := [] } _); delta c100 c10 c1
    refine wpAnyH_take (i := 21) (oi := oNC_21) (v := ?_) rfl oNC_s oNC_f21 oNC_r21 (fun _ _ _ h => h) (Or.inl ⟨by rfl, ?_⟩) (by assumption) ?_
    rotate_left
    · (intro w hSw; (try dsimp only at hSw); delta oNC_21; go_simp; (try with_reducible rfl))
    (show wpAnyH _ _ oNC _ _ _ (lsN 88 22) { tmps := (c100 (c100 (c100 (c10 (c1 (c1 (c1 (c1 (c1 ([])))))))))).toArray, defers := [] } _); delta c100 c10 c1
    refine wpAnyH_take (i := 22) (oi := oNC_22) (v := ?_) rfl oNC_s oNC_f22 oNC_r22 (fun _ _ _ h => h) (Or.inl ⟨by rfl, ?_⟩) (by assumption) ?_
    rotate_left
    · (intro w hSw; (try dsimp only at hSw); delta oNC_22; go_simp; (try with_reducible rfl))
    (show wpAnyH _ _ oNC _ _ _ (lsN 88 23) { tmps := (c100 (c100 (c100 (c10 (c1 (c1 (c1 (c1 (c1 ([])))))))))).toArray, defers := [] } _); delta c100 c10 c1
    refine wpAnyH_take (i := 23) (oi := oNC_23) (v := ?_) rfl oNC_s oNC_f23 oNC_r23 (fun _ _ _ h => h) (Or.inl ⟨by rfl, ?_⟩) (by assumption) ?_
    rotate_left
    · (intro w hSw; (try dsimp only at hSw); delta oNC_23; go_simp; (try with_reducible rfl))
    (show wpAnyH _ _ oNC _ _ _ (lsN 88 24) { tmps := (c100 (c100 (c100 (c10 (c1 (c1 (c1 (c1 (c1 ([])))))))))).toArray, defers := [] } _); delta c100 c10 c1
    as_aux_lemma =>
    refine wpAnyH_take (i := 24) (oi := oNC_24) (v := ?_) rfl oNC_s oNC_f24 oNC_r24 (fun _ _ _ h => h) (Or.inl ⟨by rfl, ?_⟩) (by assumption) ?_
    rotate_left
    · (intro w hSw; (try dsimp only at hSw); delta oNC_24; go_simp; (try with_reducible rfl))
    (show wpAnyH _ _ oNC _ _ _ (lsN 88 25) { tmps := (c100 (c100 (c100 (c10 (c1 (c1 (c1 (c1 (c1 ([])))))))))).toArray, defers := [] } _); delta c100 c10 c1
    refine wpAnyH_ready (rs := [25]) oNC_c25 (by simp) ?_
    refine AllReadyH.cons (o := oNC_25) rfl (fun K hK => ?_) AllReadyH.nil
    delta oNC_25
    rw [if_pos (by rfl)]
    go_simp
    (go_at_call 12; ((with_reducible refine (HC8.out _ ?hq).mono ?_); (case hq => exact (((((((((Kp.refl Wn).drew.step hbC_0).step hbC_1).step hbC_2).step hbC_3).step hbC_4).step hbC_5).step hbC_6).step hbC_7)); rintro x wC_8 ⟨rfl, hbC_8⟩))
    go_wp2_with fail
    refine hK.out _ _ ?_ (fun hH9 => ?_)
    · with_reducible exact sv3 ((((((((((Kp.refl Wn).drew.step hbC_0).step hbC_1).step hbC_2).step hbC_3).step hbC_4).step hbC_5).step hbC_6).step hbC_7).step hbC_8) qo0 qo1 qo2 qo3 qn0 qn1 qn2 qn3 qz0 qz1 qz2 qz3
    clear hK K hH8
    (show wpAnyH _ _ oNC _ _ _ (lsN 88 26) { tmps := (c100 (c100 (c100 (c10 (c1 (c1 (c1 (c1 (c1 ([])))))))))).toArray, defers := [] } _); delta c100 c10 c1
    refine wpAnyH_ready (rs := [26]) oNC_c26 (by simp) ?_
    refine AllReadyH.cons (o := oNC_26) rfl (fun K hK => ?_) AllReadyH.nil
    delta oNC_26
    rw [if_pos (by rfl)]
    go_simp
    (go_at_call 18; ((with_reducible refine (HC9.out _ ?hq).mono ?_); (case hq => exact ((((((((((Kp.refl Wn).drew.step hbC_0).step hbC_1).step hbC_2).step hbC_3).step hbC_4).step hbC_5).step hbC_6).step hbC_7).step hbC_8)); rintro x wC_9 ⟨rfl, hbC_9⟩))
    go_wp2_with fail
    refine hK.out _ _ ?_ (fun hH10 => ?_)
    · with_reducible exact sv3 (((((((((((Kp.refl Wn).drew.step hbC_0).step hbC_1).step hbC_2).step hbC_3).step hbC_4).step hbC_5).step hbC_6).step hbC_7).step hbC_8).step hbC_9) qo0 qo1 qo2 qo3 qn0 qn1 qn2 qn3 qz0 qz1 qz2 qz3
    clear hK K hH9
    (show wpAnyH _ _ oNC _ _ _ (lsN 88 27) { tmps := (c100 (c100 (c100 (c10 (c1 (c1 (c1 (c1 (c1 ([])))))))))).toArray, defers := [] } _); delta c100 c10 c1
    refine wpAnyH_take (i := 27) (oi := oNC_27) (v := ?_) rfl oNC_s oNC_f27 oNC_r27 (fun _ _ _ h => h) (Or.inl ⟨by rfl, ?_⟩) (by assumption) ?_
    rotate_left
    · (intro w hSw; (try dsimp only at hSw); delta oNC_27; go_simp; (try with_reducible rfl))
    (show wpAnyH _ _ oNC _ _ _ (lsN 88 28) { tmps := (c100 (c100 (c100 (c10 (c1 (c1 (c1 (c1 (c1 ([])))))))))).toArray, defers := [] } _); delta c100 c10 c1
    refine wpAnyH_take (i := 28) (oi := oNC_28) (v := ?_) rfl oNC_s oNC_f28 oNC_r28 (fun _ _ _ h => h) (Or.inl ⟨by rfl, ?_⟩) (by assumption) ?_
    rotate_left
    · (intro w hSw; (try dsimp only at hSw); delta oNC_28; go_simp; (try with_reducible rfl))
    (show wpAnyH _ _ oNC _ _ _ (lsN 88 29) { tmps := (c100 (c100 (c100 (c10 (c1 (c1 (c1 (c1 (c1 ([])))))))))).toArray, defers := [] } _); delta c100 c10 c1
    refine wpAnyH_take (i := 29) (oi := oNC_29) (v := ?_) rfl oNC_s oNC_f29 oNC_r29 (fun _ _ _ h => h) (Or.inl ⟨by rfl, ?_⟩) (by assumption) ?_
    rotate_left
    · (intro w hSw; (try dsimp only at hSw); delta oNC_29; go_simp; (try with_reducible rfl))
    (show wpAnyH _ _ oNC _ _ _ (lsN 88 30) { tmps := (c100 (c100 (c100 (c10 (c1 (c1 (c1 (c1 (c1 ([])))))))))).toArray, defers := [] } _); delta c100 c10 c1
    refine wpAnyH_take (i := 30) (oi := oNC_30) (v := ?_) rfl oNC_s oNC_f30 oNC_r30 (fun _ _ _ h => h) (Or.inl ⟨by rfl, ?_⟩) (by assumption) ?_
    rotate_left
    · (intro w hSw; (try dsimp only at hSw); delta oNC_30; go_simp; (try with_reducible rfl))
    (show wpAnyH _ _ oNC _ _ _ (lsN 88 31) { tmps := (c100 (c100 (c100 (c10 (c1 (c1 (c1 (c1 (c1 ([])))))))))).toArray, defers := [] } _); delta c100 c10 c1
    refine wpAnyH_ready (rs := [31]) oNC_c31 (by simp) ?_
    refine AllReadyH.cons (o := oNC_31) rfl (fun K hK => ?_) AllReadyH.nil
    delta oNC_31
    rw [if_pos (by rfl)]
    go_simp
    (go_at_call 12; ((with_reducible refine (HC10.out _ ?hq).mono ?_); (case hq => exact (((((((((((Kp.refl Wn).drew.step hbC_0).step hbC_1).step hbC_2).step hbC_3).step hbC_4).step hbC_5).step hbC_6).step hbC_7).step hbC_8).step hbC_9)); rintro x wC_10 ⟨rfl, hbC_10⟩))
    go_wp2_with fail
    refine hK.out _ _ ?_ (fun hH11 => ?_)
    · with_reducible exact sv3 ((((((((((((Kp.refl Wn).drew.step hbC_0).step hbC_1).step hbC_2).step hbC_3).step hbC_4).step hbC_5).step hbC_6).step hbC_7).step hbC_8).step hbC_9).step hbC_10) qo0 qo1 qo2 qo3 qn0 qn1 qn2 qn3 qz0 qz1 qz2 qz3
    clear hK K hH10
    (show wpAnyH _ _ oNC _ _ _ (lsN 88 32) { tmps := (c100 (c100 (c100 (c10 (c1 (c1 (c1 (c1 (c1 ([])))))))))).toArray, defers := [] } _); delta c100 c10 c1
    refine wpAnyH_ready (rs := [32]) oNC_c32 (by simp) ?_
    refine AllReadyH.cons (o := oNC_32) rfl (fun K hK => ?_) AllReadyH.nil
    delta oNC_32
    rw [if_pos (by rfl)]
    go_simp
    (go_at_call 18; ((with_reducible refine (HC11.out _ ?hq).mono ?_); (case hq => exact ((((((((((((Kp.refl Wn).drew.step hbC_0).step hbC_1).step hbC_2).step hbC_3).step hbC_4).step hbC_5).step hbC_6).step hbC_7).step hbC_8).step hbC_9).step hbC_10)); rintro x wC_11 ⟨rfl, hbC_11⟩))
    go_wp2_with fail
    refine hK.out _ _ ?_ (fun hH12 => ?_)
    · with_reducible exact sv3 (((((((((((((Kp.refl Wn).drew.step hbC_0).step hbC_1).step hbC_2).step hbC_3).step hbC_4).step hbC_5).step hbC_6).step hbC_7).step hbC_8).step hbC_9).step hbC_10).step hbC_11) qo0 qo1 qo2 qo3 qn0 qn1 qn2 qn3 qz0 qz1 qz2 qz3
    clear hK K hH11
    (show wpAnyH _ _ oNC _ _ _ (lsN 88 33) { tmps := (c100 (c100 (c100 (c10 (c1 (c1 (c1 (c1 (c1 ([])))))))))).toArray, defers := [] } _); delta c100 c10 c1
    refine wpAnyH_take (i := 33) (oi := oNC_33) (v := ?_) rfl oNC_s oNC_f33 oNC_r33 (fun _ _ _ h => h) (Or.inl ⟨by rfl, ?_⟩) (by assumption) ?_
    rotate_left
    · (intro w hSw; (try dsimp only at hSw); delta oNC_33; go_simp; (try with_reducible rfl))
    (show wpAnyH _ _ oNC _ _ _ (lsN 88 34) { tmps := (c100 (c100 (c100 (c10 (c1 (c1 (c1 (c1 (c1 ([])))))))))).toArray, defers := [] } _); delta c100 c10 c1
    refine wpAnyH_take (i := 34) (oi := oNC_34) (v := ?_) rfl oNC_s oNC_f34 oNC_r34 (fun _ _ _ h => h) (Or.inl ⟨by rfl, ?_⟩) (by assumption) ?_
    rotate_left
    · (intro w hSw; (try dsimp only at hSw); delta oNC_34; go_simp; (try with_reducible rfl))
    (show wpAnyH _ _ oNC _ _ _ (lsN 88 35) { tmps := (c100 (c100 (c100 (c10 (c1 (c1 (c1 (c1 (c1 ([])))))))))).toArray, defers := [] } _); delta c100 c10 c1
    refine wpAnyH_take (i := 35) (oi := oNC_35) (v := ?_) rfl oNC_s oNC_f35 oNC_r35 (fun _ _ _ h => h) (Or.inl ⟨by rfl, ?_⟩) (by assumption) ?_
    rotate_left
    · (intro w hSw; (try dsimp only at hSw); delta oNC_35; go_simp; (try with_reducible rfl))
    (show wpAnyH _ _ oNC _ _ _ (lsN 88 36) { tmps := (c100 (c100 (c100 (c10 (c1 (c1 (c1 (c1 (c1 ([])))))))))).toArray, defers := [] } _); delta c100 c10 c1
    as_aux_lemma =>
    refine wpAnyH_take (i := 36) (oi := oNC_36) (v := ?_) rfl oNC_s oNC_f36 oNC_r36 (fun _ _ _ h => h) (Or.inl ⟨by rfl, ?_⟩) (by assumption) ?_
    rotate_left
    · (intro w hSw; (try dsimp only at hSw); delta oNC_36; go_simp; (try with_reducible rfl))
    (show wpAnyH _ _ oNC _ _ _ (lsN 88 37) { tmps := (c100 (c100 (c100 (c10 (c1 (c1 (c1 (c1 (c1 ([])))))))))).toArray, defers := [] } _); delta c100 c10 c1
    refine wpAnyH_ready (rs := [37]) oNC_c37 (by simp) ?_
    refine AllReadyH.cons (o := oNC_37) rfl (fun K hK => ?_) AllReadyH.nil
    delta oNC_37
    rw [if_pos (by rfl)]
    go_simp
    (go_at_call 14; ((with_reducible refine (HC12.out _ ?hq).mono ?_); (case hq => exact (((((((((((((Kp.refl Wn).drew.step hbC_0).step hbC_1).step hbC_2).step hbC_3).step hbC_4).step hbC_5).step hbC_6).step hbC_7).step hbC_8).step hbC_9).step hbC_10).step hbC_11)); rintro x wC_12 ⟨rfl, hbC_12⟩))
    go_wp2_with fail
    refine hK.out _ _ ?_ (fun hH13 => ?_)
    · with_reducible exact sv3 ((((((((((((((Kp.refl Wn).drew.step hbC_0).step hbC_1).step hbC_2).step hbC_3).step hbC_4).step hbC_5).step hbC_6).step hbC_7).step hbC_8).step hbC_9).step hbC_10).step hbC_11).step hbC_12) qo0 qo1 qo2 qo3 qn0 qn1 qn2 qn3 qz0 qz1 qz2 qz3
    clear hK K hH12
    (show wpAnyH _ _ oNC _ _ _ (lsN 88 38) { tmps := (c100 (c100 (c100 (c10 (c1 (c1 (c1 (c1 (c1 ([])))))))))).toArray, defers := [] } _); delta c100 c10 c1
    refine wpAnyH_ready (rs := [38]) oNC_c38 (by simp) ?_
    refine AllReadyH.cons (o := oNC_38) rfl (fun K hK => ?_) AllReadyH.nil
    delta oNC_38
    rw [if_pos (by rfl)]
    go_simp
    (go_at_call 18; ((with_reducible refine (HC13.out _ ?hq).mono ?_); (case hq => exact ((((((((((((((Kp.refl Wn).drew.step hbC_0).step hbC_1).step hbC_2).step hbC_3).step hbC_4).step hbC_5).step hbC_6).step hbC_7).step hbC_8).step hbC_9).step hbC_10).step hbC_11).step hbC_12)); rintro x wC_13 ⟨rfl, hbC_13⟩))
    go_wp2_with fail
    refine hK.out _ _ ?_ (fun hH14 => ?_)
    · with_reducible exact sv3 (((((((((((((((Kp.refl Wn).drew.step hbC_0).step hbC_1).step hbC_2).step hbC_3).step hbC_4).step hbC_5).step hbC_6).step hbC_7).step hbC_8).step hbC_9).step hbC_10).step hbC_11).step hbC_12).step hbC_13) qo0 qo1 qo2 qo3 qn0 qn1 qn2 qn3 qz0 qz1 qz2 qz3
    clear hK K hH13
    (show wpAnyH _ _ oNC _ _ _ (lsN 88 39) { tmps := (c100 (c100 (c100 (c10 (c1 (c1 (c1 (c1 (c1 ([])))))))))).toArray, defers := [] } _); delta c100 c10 c1
    refine wpAnyH_take (i := 39) (oi := oNC_39) (v := ?_) rfl oNC_s oNC_f39 oNC_r39 (fun _ _ _ h => h) (Or.inl ⟨by rfl, ?_⟩) (by assumption) ?_
    rotate_left
    · (intro w hSw; (try dsimp only at hSw); delta oNC_39; go_simp; (try with_reducible rfl))
    (show wpAnyH _ _ oNC _ _ _ (lsN 88 40) { tmps := (c100 (c100 (c100 (c10 (c1 (c1 (c1 (c1 (c1 ([])))))))))).toArray, defers := [] } _); delta c100 c10 c1
    refine wpAnyH_take (i := 40) (oi := oNC_40) (v := ?_) rfl oNC_s oNC_f40 oNC_r40 (fun _ _ _ h => h) (Or.inl ⟨by rfl, ?_⟩) (by assumption) ?_
    rotate_left
    · (intro w hSw; (try dsimp only at hSw); delta oNC_40; go_simp; (try with_reducible rfl))
    (show wpAnyH _ _ oNC _ _ _ (lsN 88 41) { tmps := (c100 (c100 (c100 (c10 (c1 (c1 (c1 (c1 (c1 ([])))))))))).toArray, defers := [] } _); delta c100 c10 c1
    refine wpAnyH_take (i := 41) (oi := oNC_41) (v := ?_) rfl oNC_s oNC_f41 oNC_r41 (fun _ _ _ h => h) (Or.inl ⟨by rfl, ?_⟩) (by assumption) ?_
    rotate_left
    · (intro w hSw; (try dsimp only at hSw); delta oNC_41; go_simp; (try with_reducible rfl))
    (show wpAnyH _ _ oNC _ _ _ (lsN 88 42) { tmps := (c100 (c100 (c100 (c10 (c1 (c1 (c1 (c1 (c1 ([])))))))))).toArray, defers := [] } _); delta c100 c10 c1
    refine wpAnyH_take (i := 42) (oi := oNC_42) (v := ?_) rfl oNC_s oNC_f42 oNC_r42 (fun _ _ _ h => h) (Or.inl ⟨by rfl, ?_⟩) (by assumption) ?_
    rotate_left
    · (intro w hSw; (try dsimp only at hSw); delta oNC_42; go_simp; (try with_reducible rfl))
    (show wpAnyH _ _ oNC _ _ _ (lsN 88 43) { tmps := (c100 (c100 (c100 (c10 (c1 (c1 (c1 (c1 (c1 ([])))))))))).toArray, defers := [] } _); delta c100 c10 c1
    refine wpAnyH_ready (rs := [43]) oNC_c43 (by simp) ?_
    refine AllReadyH.cons (o := oNC_43) rfl (fun K hK => ?_) AllReadyH.nil
    delta oNC_43
    rw [if_pos (by rfl)]
    go_simp
    (go_at_call 14; ((with_reducible refine (HC14.out _ ?hq).mono ?_); (case hq => exact (((((((((((((((Kp.refl Wn).drew.step hbC_0).step hbC_1).step hbC_2).step hbC_3).step hbC_4).step hbC_5).step hbC_6).step hbC_7).step hbC_8).step hbC_9).step hbC_10).step hbC_11).step hbC_12).step hbC_13)); rintro x wC_14 ⟨rfl, hbC_14⟩))
    go_wp2_with fail
    refine hK.out _ _ ?_ (fun hH15 => ?_)
    · with_reducible exact sv3 ((((((((((((((((Kp.refl Wn).drew.step hbC_0).step hbC_1).step hbC_2).step hbC_3).step hbC_4).step hbC_5).step hbC_6).step hbC_7).step hbC_8).step hbC_9).step hbC_10).step hbC_11).step hbC_12).step hbC_13).step hbC_14) qo0 qo1 qo2 qo3 qn0 qn1 qn2 qn3 qz0 qz1 qz2 qz3
    clear hK K hH14
    (show wpAnyH _ _ oNC _ _ _ (lsN 88 44) { tmps := (c100 (c100 (c100 (c10 (c1 (c1 (c1 (c1 (c1 ([])))))))))).toArray, defers := [] } _); delta c100 c10 c1
    refine wpAnyH_ready (rs := [44]) oNC_c44 (by simp) ?_
    refine AllReadyH.cons (o := oNC_44) rfl (fun K hK => ?_) AllReadyH.nil
    delta oNC_44
    rw [if_pos (by rfl)]
    go_simp
    (go_at_call 18; ((with_reducible refine (HC15.out _ ?hq).mono ?_); (case hq => exact ((((((((((((((((Kp.refl Wn).drew.step hbC_0).step hbC_1).step hbC_2).step hbC_3).step hbC_4).step hbC_5).step hbC_6).step hbC_7).step hbC_8).step hbC_9).step hbC_10).step hbC_11).step hbC_12).step hbC_13).step hbC_14)); rintro x wC_15 ⟨rfl, hbC_15⟩))
    go_wp2_with fail
    refine hK.out _ _ ?_ (fun hH16 => ?_)
    · with_reducible exact sv3 (((((((((((((((((Kp.refl Wn).drew.step hbC_0).step hbC_1).step hbC_2).step hbC_3).step hbC_4).step hbC_5).step hbC_6).step hbC_7).step hbC_8).step hbC_9).step hbC_10).step hbC_11).step hbC_12).step hbC_13).step hbC_14).step hbC_15) qo0 qo1 qo2 qo3 qn0 qn1 qn2 qn3 qz0 qz1 qz2 qz3
    clear hK K hH15
    (show wpAnyH _ _ oNC _ _ _ (lsN 88 45) { tmps := (c100 (c100 (c100 (c10 (c1 (c1 (c1 (c1 (c1 ([])))))))))).toArray, defers := [] } _); delta c100 c10 c1
    refine wpAnyH_take (i := 45) (oi := oNC_45) (v := ?_) rfl oNC_s oNC_f45 oNC_r45 (fun _ _ _ h => h) (Or.inl ⟨by rfl, ?_⟩) (by assumption) ?_
    rotate_left
    · (intro w hSw; (try dsimp only at hSw); delta oNC_45; go_simp; (try with_reducible rfl))
    (show wpAnyH _ _ oNC _ _ _ (lsN 88 46) { tmps := (c100 (c100 (c100 (c10 (c1 (c1 (c1 (c1 (c1 ([])))))))))).toArray, defers := [] } _); delta c100 c10 c1
    refine wpAnyH_take (i := 46) (oi := oNC_46) (v := ?_) rfl oNC_s oNC_f46 oNC_r46 (fun _ _ _ h => h) (Or.inl ⟨by rfl, ?_⟩) (by assumption) ?_
    rotate_left
    · (intro w hSw; (try dsimp only at hSw); delta oNC_46; go_simp; (try with_reducible rfl))
    (show wpAnyH _ _ oNC _ _ _ (lsN 88 47) { tmps := (c100 (c100 (c100 (c10 (c1 (c1 (c1 (c1 (c1 ([])))))))))).toArray, defers := [] } _); delta c100 c10 c1
    refine wpAnyH_take (i := 47) (oi := oNC_47) (v := ?_) rfl oNC_s oNC_f47 oNC_r47 (fun _ _ _ h => h) (Or.inl ⟨by rfl, ?_⟩) (by assumption) ?_
    rotate_left
    · (intro w hSw; (try dsimp only at hSw); delta oNC_47; go_simp; (try with_reducible rfl))
    (show wpAnyH _ _ oNC _ _ _ (lsN 88 48) { tmps := (c100 (c100 (c100 (c10 (c1 (c1 (c1 (c1 (c1 ([])))))))))).toArray, defers := [] } _); delta c100 c10 c1
    as_aux_lemma =>
    refine wpAnyH_ready (rs := [48]) oNC_c48 (by simp) ?_
    refine AllReadyH.cons (o := oNC_48) rfl (fun K hK => ?_) AllReadyH.nil
    delta oNC_48
    rw [if_pos (by rfl)]
    go_simp
    (go_at_call 15; ((with_reducible refine (HC16.out _ ?hq).mono ?_); (case hq => exact (((((((((((((((((Kp.refl Wn).drew.step hbC_0).step hbC_1).step hbC_2).step hbC_3).step hbC_4).step hbC_5).step hbC_6).step hbC_7).step hbC_8).step hbC_9).step hbC_10).step hbC_11).step hbC_12).step hbC_13).step hbC_14).step hbC_15)); rintro x wC_16 ⟨rfl, hbC_16⟩))
    go_wp2_with fail
    refine hK.out _ _ ?_ (fun hH17 => ?_)
    · with_reducible exact sv3 ((((((((((((((((((Kp.refl Wn).drew.step hbC_0).step hbC_1).step hbC_2).step hbC_3).step hbC_4).step hbC_5).step hbC_6).step hbC_7).step hbC_8).step hbC_9).step hbC_10).step hbC_11).step hbC_12).step hbC_13).step hbC_14).step hbC_15).step hbC_16) qo0 qo1 qo2 qo3 qn0 qn1 qn2 qn3 qz0 qz1 qz2 qz3
    clear hK K hH16
    (show wpAnyH _ _ oNC _ _ _ (lsN 88 49) { tmps := (c100 (c100 (c100 (c10 (c1 (c1 (c1 (c1 (c1 ([])))))))))).toArray, defers := [] } _); delta c100 c10 c1
    refine wpAnyH_ready (rs := [49]) oNC_c49 (by simp) ?_
    refine AllReadyH.cons (o := oNC_49) rfl (fun K hK => ?_) AllReadyH.nil
    delta oNC_49
    rw [if_pos (by rfl)]
    go_simp
    (go_at_call 18; ((with_reducible refine (HC17.out _ ?hq).mono ?_); (case hq => exact ((((((((((((((((((Kp.refl Wn).drew.step hbC_0).step hbC_1).step hbC_2).step hbC_3).step hbC_4).step hbC_5).step hbC_6).step hbC_7).step hbC_8).step hbC_9).step hbC_10).step hbC_11).step hbC_12).step hbC_13).step hbC_14).step hbC_15).step hbC_16)); rintro x wC_17 ⟨rfl, hbC_17⟩))
    go_wp2_with fail
    refine hK.out _ _ ?_ (fun hH18 => ?_)
    · with_reducible exact sv3 (((((((((((((((((((Kp.refl Wn).drew.step hbC_0).step hbC_1).step hbC_2).step hbC_3).step hbC_4).step hbC_5).step hbC_6).step hbC_7).step hbC_8).step hbC_9).step hbC_10).step hbC_11).step hbC_12).step hbC_13).step hbC_14).step hbC_15).step hbC_16).step hbC_17) qo0 qo1 qo2 qo3 qn0 qn1 qn2 qn3 qz0 qz1 qz2 qz3
    clear hK K hH17
    (show wpAnyH _ _ oNC _ _ _ (lsN 88 50) { tmps := (c100 (c100 (c100 (c10 (c1 (c1 (c1 (c1 (c1 ([])))))))))).toArray, defers := [] } _); delta c100 c10 c1
    refine wpAnyH_take (i := 50) (oi := oNC_50) (v := ?_) rfl oNC_s oNC_f50 oNC_r50 (fun _ _ _ h => h) (Or.inl ⟨by rfl, ?_⟩) (by assumption) ?_
    rotate_left
    · (intro w hSw; (try dsimp only at hSw); delta oNC_50; go_simp; (try with_reducible rfl))
    (show wpAnyH _ _ oNC _ _ _ (lsN 88 51) { tmps := (c100 (c100 (c100 (c10 (c1 (c1 (c1 (c1 (c1 ([])))))))))).toArray, defers := [] } _); delta c100 c10 c1
    refine wpAnyH_take (i := 51) (oi := oNC_51) (v := ?_) rfl oNC_s oNC_f51 oNC_r51 (fun _ _ _ h => h) (Or.inl ⟨by rfl, ?_⟩) (by assumption) ?_
    rotate_left
    · (intro w hSw; (try dsimp only at hSw); delta oNC_51; go_simp; (try with_reducible rfl))
    (show wpAnyH _ _ oNC _ _ _ (lsN 88 52) { tmps := (c100 (c100 (c100 (c10 (c1 (c1 (c1 (c1 (c1 ([])))))))))).toArray, defers := [] } _); delta c100 c10 c1
    refine wpAnyH_take (i := 52) (oi := oNC_52) (v := ?_) rfl oNC_s oNC_f52 oNC_r52 (fun _ _ _ h => h) (Or.inl ⟨by rfl, ?_⟩) (by assumption) ?_
    rotate_left
    · (intro w hSw; (try dsimp only at hSw); delta oNC_52; go_simp; (try with_reducible rfl))
    (show wpAnyH _ _ oNC _ _ _ (lsN 88 53) { tmps := (c100 (c100 (c100 (c10 (c1 (c1 (c1 (c1 (c1 ([])))))))))).toArray, defers := [] } _); delta c100 c10 c1
    refine wpAnyH_ready (rs := [53]) oNC_c53 (by simp) ?_
    refine AllReadyH.cons (o := oNC_53) rfl (fun K hK => ?_) AllReadyH.nil
    delta oNC_53
    rw [if_pos (by rfl)]
    go_simp
    (go_at_call 16; ((with_reducible refine (HC18.out _ ?hq).mono ?_); (case hq => exact (((((((((((((((((((Kp.refl Wn).drew.step hbC_0).step hbC_1).step hbC_2).step hbC_3).step hbC_4).step hbC_5).step hbC_6).step hbC_7).step hbC_8).step hbC_9).step hbC_10).step hbC_11).step hbC_12).step hbC_13).step hbC_14).step hbC_15).step hbC_16).step hbC_17)); rintro x wC_18 ⟨rfl, hbC_18⟩))
    go_wp2_with fail
    refine hK.out _ _ ?_ (fun hH19 => ?_)
    · with_reducible exact sv3 ((((((((((((((((((((Kp.refl Wn).drew.step hbC_0).step hbC_1).step hbC_2).step hbC_3).step hbC_4).step hbC_5).step hbC_6).step hbC_7).step hbC_8).step hbC_9).step hbC_10).step hbC_11).step hbC_12).step hbC_13).step hbC_14).step hbC_15).step hbC_16).step hbC_17).step hbC_18) qo0 qo1 qo2 qo3 qn0 qn1 qn2 qn3 qz0 qz1 qz2 qz3
    clear hK K hH18
    (show wpAnyH _ _ oNC _ _ _ (lsN 88 54) { tmps := (c100 (c100 (c100 (c10 (c1 (c1 (c1 (c1 (c1 ([])))))))))).toArray, defers := [] } _); delta c100 c10 c1
    refine wpAnyH_ready (rs := [54]) oNC_c54 (by simp) ?_
    refine AllReadyH.cons (o := oNC_54) rfl (fun K hK => ?_) AllReadyH.nil
    delta oNC_54
    rw [if_pos (by rfl)]
    go_simp
    (go_at_call 18; ((with_reducible refine (HC19.out _ ?hq).mono ?_); (case hq => exact ((((((((((((((((((((Kp.refl Wn).drew.step hbC_0).step hbC_1).step hbC_2).step hbC_3).step hbC_4).step hbC_5).step hbC_6).step hbC_7).step hbC_8).step hbC_9).step hbC_10).step hbC_11).step hbC_12).step hbC_13).step hbC_14).step hbC_15).step hbC_16).step hbC_17).step hbC_18)); rintro x wC_19 ⟨rfl, hbC_19⟩))
    go_wp2_with fail
    refine hK.out _ _ ?_ (fun hH20 => ?_)
    · with_reducible exact sv3 (((((((((((((((((((((Kp.refl Wn).drew.step hbC_0).step hbC_1).step hbC_2).step hbC_3).step hbC_4).step hbC_5).step hbC_6).step hbC_7).step hbC_8).step hbC_9).step hbC_10).step hbC_11).step hbC_12).step hbC_13).step hbC_14).step hbC_15).step hbC_16).step hbC_17).step hbC_18).step hbC_19) qo0 qo1 qo2 qo3 qn0 qn1 qn2 qn3 qz0 qz1 qz2 qz3
    clear hK K hH19
    (show wpAnyH _ _ oNC _ _ _ (lsN 88 55) { tmps := (c100 (c100 (c100 (c10 (c1 (c1 (c1 (c1 (c1 ([])))))))))).toArray, defers := [] } _); delta c100 c10 c1
    refine wpAnyH_take (i := 55) (oi := oNC_55) (v := ?_) rfl oNC_s oNC_f55 oNC_r55 (fun _ _ _ h => h) (Or.inl ⟨by rfl, ?_⟩) (by assumption) ?_
    rotate_left
    · (intro w hSw; (try dsimp only at hSw); delta oNC_55; go_simp; (try with_reducible rfl))
    (show wpAnyH _ _ oNC _ _ _ (lsN 88 56) { tmps := (c100 (c100 (c100 (c10 (c1 (c1 (c1 (c1 (c1 ([])))))))))).toArray, defers := [] } _); delta c100 c10 c1
    refine wpAnyH_take (i := 56) (oi := oNC_56) (v := ?_) rfl oNC_s oNC_f56 oNC_r56 (fun _ _ _ h => h) (Or.inl ⟨by rfl, ?_⟩) (by assumption) ?_
    rotate_left
    · (intro w hSw; (try dsimp only at hSw); delta oNC_56; go_simp; (try with_reducible rfl))
    (show wpAnyH _ _ oNC _ _ _ (lsN 88 57) { tmps := (c100 (c100 (c100 (c10 (c1 (c1 (c1 (c1 (c1 ([])))))))))).toArray, defers := [] } _); delta c100 c10 c1
    refine wpAnyH_take (i := 57) (oi := oNC_57) (v := ?_) rfl oNC_s oNC_f57 oNC_r57 (fun _ _ _ h => h) (Or.inl ⟨by rfl, ?_⟩) (by assumption) ?_
    rotate_left
    · (intro w hSw; (try dsimp only at hSw); delta oNC_57; go_simp; (try with_reducible rfl))
    (show wpAnyH _ _ oNC _ _ _ (lsN 88 58) { tmps := (c100 (c100 (c100 (c10 (c1 (c1 (c1 (c1 (c1 ([])))))))))).toArray, defers := [] } _); delta c100 c10 c1
    refine wpAnyH_take (i := 58) (oi := oNC_58) (v := ?_) rfl oNC_s oNC_f58 oNC_r58 (fun _ _ _ h => h) (Or.inl ⟨by rfl, ?_⟩) (by assumption) ?_
    rotate_left
    · (intro w hSw; (try dsimp only at hSw); delta oNC_58; go_simp; (try with_reducible rfl))
    (show wpAnyH _ _ oNC _ _ _ (lsN 88 59) { tmps := (c100 (c100 (c100 (c10 (c1 (c1 (c1 (c1 (c1 ([])))))))))).toArray, defers := [] } _); delta c100 c10 c1
    refine wpAnyH_ready (rs := [59]) oNC_c59 (by simp) ?_
    refine AllReadyH.cons (o := oNC_59) rfl (fun K hK => ?_) AllReadyH.nil
    delta oNC_59
    rw [if_pos (by rfl)]
    go_simp
    (go_at_call 11; ((with_reducible refine (HC20.out _ ?hq).mono ?_); (case hq => exact (((((((((((((((((((((Kp.refl Wn).drew.step hbC_0).step hbC_1).step hbC_2).step hbC_3).step hbC_4).step hbC_5).step hbC_6).step hbC_7).step hbC_8).step hbC_9).step hbC_10).step hbC_11).step hbC_12).step hbC_13).step hbC_14).step hbC_15).step hbC_16).step hbC_17).step hbC_18).step hbC_19)); rintro x wC_20 ⟨rfl, hbC_20⟩))
    go_wp2_with fail
    refine hK.out _ _ ?_ (fun hH21 => ?_)
    · with_reducible exact sv3 ((((((((((((((((((((((Kp.refl Wn).drew.step hbC_0).step hbC_1).step hbC_2).step hbC_3).step hbC_4).step hbC_5).step hbC_6).step hbC_7).step hbC_8).step hbC_9).step hbC_10).step hbC_11).step hbC_12).step hbC_13).step hbC_14).step hbC_15).step hbC_16).step hbC_17).step hbC_18).step hbC_19).step hbC_20) qo0 qo1 qo2 qo3 qn0 qn1 qn2 qn3 qz0 qz1 qz2 qz3
    clear hK K hH20
    (show wpAnyH _ _ oNC _ _ _ (lsN 88 60) { tmps := (c100 (c100 (c100 (c10 (c1 (c1 (c1 (c1 (c1 ([])))))))))).toArray, defers := [] } _); delta c100 c10 c1
    as_aux_lemma =>
    refine wpAnyH_take (i := 60) (oi := oNC_60) (v := ?_) rfl oNC_s oNC_f60 oNC_r60 (fun _ _ _ h => h) (Or.inl ⟨by rfl, ?_⟩) (by assumption) ?_
    rotate_left
    · (intro w hSw; (try dsimp only at hSw); delta oNC_60; go_simp; (try with_reducible rfl))
    (show wpAnyH _ _ oNC _ _ _ (lsN 88 61) { tmps := (c100 (c100 (c100 (c10 (c1 (c1 (c1 (c1 (c1 ([])))))))))).toArray, defers := [] } _); delta c100 c10 c1
    refine wpAnyH_take (i := 61) (oi := oNC_61) (v := ?_) rfl oNC_s oNC_f61 oNC_r61 (fun _ _ _ h => h) (Or.inl ⟨by rfl, ?_⟩) (by assumption) ?_
    rotate_left
    · (intro w hSw; (try dsimp only at hSw); delta oNC_61; go_simp; (try with_reducible rfl))
    (show wpAnyH _ _ oNC _ _ _ (lsN 88 62) { tmps := (c100 (c100 (c100 (c10 (c1 (c1 (c1 (c1 (c1 ([])))))))))).toArray, defers := [] } _); delta c100 c10 c1
    refine wpAnyH_take (i := 62) (oi := oNC_62) (v := ?_) rfl oNC_s oNC_f62 oNC_r62 (fun _ _ _ h => h) (Or.inl ⟨by rfl, ?_⟩) (by assumption) ?_
    rotate_left
    · (intro w hSw; (try dsimp only at hSw); delta oNC_62; go_simp; (try with_reducible rfl))
    (show wpAnyH _ _ oNC _ _ _ (lsN 88 63) { tmps := (c100 (c100 (c100 (c10 (c1 (c1 (c1 (c1 (c1 ([])))))))))).toArray, defers := [] } _); delta c100 c10 c1
    refine wpAnyH_take (i := 63) (oi := oNC_63) (v := ?_) rfl oNC_s oNC_f63 oNC_r63 (fun _ _ _ h => h) (Or.inl ⟨by rfl, ?_⟩) (by assumption) ?_
    rotate_left
    · (intro w hSw; (try dsimp only at hSw); delta oNC_63; go_simp; (try with_reducible rfl))
    (show wpAnyH _ _ oNC _ _ _ (lsN 88 64) { tmps := (c100 (c100 (c100 (c10 (c1 (c1 (c1 (c1 (c1 ([])))))))))).toArray, defers := [] } _); delta c100 c10 c1
    refine wpAnyH_take (i := 64) (oi := oNC_64) (v := ?_) rfl oNC_s oNC_f64 oNC_r64 (fun _ _ _ h => h) (Or.inl ⟨by rfl, ?_⟩) (by assumption) ?_
    rotate_left
    · (intro w hSw; (try dsimp only at hSw); delta oNC_64; go_simp; (try with_reducible rfl))
    (show wpAnyH _ _ oNC _ _ _ (lsN 88 65) { tmps := (c100 (c100 (c100 (c10 (c1 (c1 (c1 (c1 (c1 ([])))))))))).toArray, defers := [] } _); delta c100 c10 c1
    refine wpAnyH_ready (rs := [65]) oNC_c65 (by simp) ?_
    refine AllReadyH.cons (o := oNC_65) rfl (fun K hK => ?_) AllReadyH.nil
    delta oNC_65
    rw [if_pos (by rfl)]
    go_simp
    (go_at_call 11; ((with_reducible refine (HC21.out _ ?hq).mono ?_); (case hq => exact ((((((((((((((((((((((Kp.refl Wn).drew.step hbC_0).step hbC_1).step hbC_2).step hbC_3).step hbC_4).step hbC_5).step hbC_6).step hbC_7).step hbC_8).step hbC_9).step hbC_10).step hbC_11).step hbC_12).step hbC_13).step hbC_14).step hbC_15).step hbC_16).step hbC_17).step hbC_18).step hbC_19).step hbC_20)); rintro x wC_21 ⟨rfl, hbC_21⟩))
    go_wp2_with fail
    refine hK.out _ _ ?_ (fun hH22 => ?_)
    · with_reducible exact sv3 (((((((((((((((((((((((Kp.refl Wn).drew.step hbC_0).step hbC_1).step hbC_2).step hbC_3).step hbC_4).step hbC_5).step hbC_6).step hbC_7).step hbC_8).step hbC_9).step hbC_10).step hbC_11).step hbC_12).step hbC_13).step hbC_14).step hbC_15).step hbC_16).step hbC_17).step hbC_18).step hbC_19).step hbC_20).step hbC_21) qo0 qo1 qo2 qo3 qn0 qn1 qn2 qn3 qz0 qz1 qz2 qz3
    clear hK K hH21
    (show wpAnyH _ _ oNC _ _ _ (lsN 88 66) { tmps := (c100 (c100 (c100 (c10 (c1 (c1 (c1 (c1 (c1 ([])))))))))).toArray, defers := [] } _); delta c100 c10 c1
    refine wpAnyH_take (i := 66) (oi := oNC_66) (v := ?_) rfl oNC_s oNC_f66 oNC_r66 (fun _ _ _ h => h) (Or.inl ⟨by rfl, ?_⟩) (by assumption) ?_
    rotate_left
    · (intro w hSw; (try dsimp only at hSw); delta oNC_66; go_simp; (try with_reducible rfl))
    (show wpAnyH _ _ oNC _ _ _ (lsN 88 67) { tmps := (c100 (c100 (c100 (c10 (c1 (c1 (c1 (c1 (c1 ([])))))))))).toArray, defers := [] } _); delta c100 c10 c1
    refine wpAnyH_take (i := 67) (oi := oNC_67) (v := ?_) rfl oNC_s oNC_f67 oNC_r67 (fun _ _ _ h => h) (Or.inl ⟨by rfl, ?_⟩) (by assumption) ?_
    rotate_left
    · (intro w hSw; (try dsimp only at hSw); delta oNC_67; go_simp; (try with_reducible rfl))
    (show wpAnyH _ _ oNC _ _ _ (lsN 88 68) { tmps := (c100 (c100 (c100 (c10 (c1 (c1 (c1 (c1 (c1 ([])))))))))).toArray, defers := [] } _); delta c100 c10 c1
    refine wpAnyH_take (i := 68) (oi := oNC_68) (v := ?_) rfl oNC_s oNC_f68 oNC_r68 (fun _ _ _ h => h) (Or.inl ⟨by rfl, ?_⟩) (by assumption) ?_
    rotate_left
    · (intro w hSw; (try dsimp only at hSw); delta oNC_68; go_simp; (try with_reducible rfl))
    (show wpAnyH _ _ oNC _ _ _ (lsN 88 69) { tmps := (c100 (c100 (c100 (c10 (c1 (c1 (c1 (c1 (c1 ([])))))))))).toArray, defers := [] } _); delta c100 c10 c1
    refine wpAnyH_take (i := 69) (oi := oNC_69) (v := ?_) rfl oNC_s oNC_f69 oNC_r69 (fun _ _ _ h => h) (Or.inl ⟨by rfl, ?_⟩) (by assumption) ?_
    rotate_left
    · (intro w hSw; (try dsimp only at hSw); delta oNC_69; go_simp; (try with_reducible rfl))
    (show wpAnyH _ _ oNC _ _ _ (lsN 88 70) { tmps := (c100 (c100 (c100 (c10 (c1 (c1 (c1 (c1 (c1 ([])))))))))).toArray, defers := [] } _); delta c100 c10 c1
    refine wpAnyH_ready (rs := [70]) oNC_c70 (by simp) ?_
    refine AllReadyH.cons (o := oNC_70) rfl (fun K hK => ?_) AllReadyH.nil
    delta oNC_70
    rw [if_pos (by rfl)]
    go_simp
    (go_at_call 13; ((with_reducible refine (HC22.out _ ?hq).mono ?_); (case hq => exact (((((((((((((((((((((((Kp.refl Wn).drew.step hbC_0).step hbC_1).step hbC_2).step hbC_3).step hbC_4).step hbC_5).step hbC_6).step hbC_7).step hbC_8).step hbC_9).step hbC_10).step hbC_11).step hbC_12).step hbC_13).step hbC_14).step hbC_15).step hbC_16).step hbC_17).step hbC_18).step hbC_19).step hbC_20).step hbC_21)); rintro x wC_22 ⟨rfl, hbC_22⟩))
    go_wp2_with fail
    refine hK.out _ _ ?_ (fun hH23 => ?_)
    · with_reducible exact sv3 ((((((((((((((((((((((((Kp.refl Wn).drew.step hbC_0).step hbC_1).step hbC_2).step hbC_3).step hbC_4).step hbC_5).step hbC_6).step hbC_7).step hbC_8).step hbC_9).step hbC_10).step hbC_11).step hbC_12).step hbC_13).step hbC_14).step hbC_15).step hbC_16).step hbC_17).step hbC_18).step hbC_19).step hbC_20).step hbC_21).step hbC_22) qo0 qo1 qo2 qo3 qn0 qn1 qn2 qn3 qz0 qz1 qz2 qz3
    clear hK K hH22
    (show wpAnyH _ _ oNC _ _ _ (lsN 88 71) { tmps := (c100 (c100 (c100 (c10 (c1 (c1 (c1 (c1 (c1 ([])))))))))).toArray, defers := [] } _); delta c100 c10 c1
    refine wpAnyH_take (i := 71) (oi := oNC_71) (v := ?_) rfl oNC_s oNC_f71 oNC_r71 (fun _ _ _ h => h) (Or.inl ⟨by rfl, ?_⟩) (by assumption) ?_
    rotate_left
    · (intro w hSw; (try dsimp only at hSw); delta oNC_71; go_simp; (try with_reducible rfl))
    (show wpAnyH _ _ oNC _ _ _ (lsN 88 72) { tmps := (c100 (c100 (c100 (c10 (c1 (c1 (c1 (c1 (c1 ([])))))))))).toArray, defers := [] } _); delta c100 c10 c1
    as_aux_lemma =>
    refine wpAnyH_take (i := 72) (oi := oNC_72) (v := ?_) rfl oNC_s oNC_f72 oNC_r72 (fun _ _ _ h => h) (Or.inl ⟨by rfl, ?_⟩) (by assumption) ?_
    rotate_left
    · (intro w hSw; (try dsimp only at hSw); delta oNC_72; go_simp; (try with_reducible rfl))
    (show wpAnyH _ _ oNC _ _ _ (lsN 88 73) { tmps := (c100 (c100 (c100 (c10 (c1 (c1 (c1 (c1 (c1 ([])))))))))).toArray, defers := [] } _); delta c100 c10 c1
    refine wpAnyH_take (i := 73) (oi := oNC_73) (v := ?_) rfl oNC_s oNC_f73 oNC_r73 (fun _ _ _ h => h) (Or.inl ⟨by rfl, ?_⟩) (by assumption) ?_
    rotate_left
    · (intro w hSw; (try dsimp only at hSw); delta oNC_73; go_simp; (try with_reducible rfl))
    (show wpAnyH _ _ oNC _ _ _ (lsN 88 74) { tmps := (c100 (c100 (c100 (c10 (c1 (c1 (c1 (c1 (c1 ([])))))))))).toArray, defers := [] } _); delta c100 c10 c1
    refine wpAnyH_take (i := 74) (oi := oNC_74) (v := ?_) rfl oNC_s oNC_f74 oNC_r74 (fun _ _ _ h => h) (Or.inl ⟨by rfl, ?_⟩) (by assumption) ?_
    rotate_left
    · (intro w hSw; (try dsimp only at hSw); delta oNC_74; go_simp; (try with_reducible rfl))
    (show wpAnyH _ _ oNC _ _ _ (lsN 88 75) { tmps := (c100 (c100 (c100 (c10 (c1 (c1 (c1 (c1 (c1 ([])))))))))).toArray, defers := [] } _); delta c100 c10 c1
    refine wpAnyH_take (i := 75) (oi := oNC_75) (v := ?_) rfl oNC_s oNC_f75 oNC_r75 (fun _ _ _ h => h) (Or.inl ⟨by rfl, ?_⟩) (by assumption) ?_
    rotate_left
    · (intro w hSw; (try dsimp only at hSw); delta oNC_75; go_simp; (try with_reducible rfl))
    (show wpAnyH _ _ oNC _ _ _ (lsN 88 76) { tmps := (c100 (c100 (c100 (c10 (c1 (c1 (c1 (c1 (c1 ([])))))))))).toArray, defers := [] } _); delta c100 c10 c1
    refine wpAnyH_take (i := 77) (oi := oNC_77) (v := ?_) rfl oNC_s oNC_f76 oNC_r76 (fun _ _ _ h => h) (Or.inl ⟨by rfl, ?_⟩) (by assumption) ?_
    rotate_left
    · (intro w hSw; (try dsimp only at hSw); delta oNC_77; go_simp; (try with_reducible rfl))
    (show wpAnyH _ _ oNC _ _ _ #[true, true, true, true, true, true, true, true, true, true, true, true, true, true, true, true, true, true, true, true, true, true, true, true, true, true, true, true, true, true, true, true, true, true, true, true, true, true, true, true, true, true, true, true, true, true, true, true, true, true, true, true, true, true, true, true, true, true, true, true, true, true, true, true, true, true, true, true, true, true, true, true, true, true, true, true, false, true, false, false, false, false, false, false, false, false, false, false] { tmps := (c100 (c100 (c100 (c10 (c1 (c1 (c1 (c1 (c1 ([])))))))))).toArray, defers := [] } _); delta c100 c10 c1
    refine wpAnyH_take (i := 78) (oi := oNC_78) (v := ?_) rfl oNC_s oNC_f77 oNC_r77 (fun _ _ _ h => h) (Or.inl ⟨by rfl, ?_⟩) (by assumption) ?_
    rotate_left
    · (intro w hSw; (try dsimp only at hSw); delta oNC_78; go_simp; (try with_reducible rfl))
    (show wpAnyH _ _ oNC _ _ _ #[true, true, true, true, true, true, true, true, true, true, true, true, true, true, true, true, true, true, true, true, true, true, true, true, true, true, true, true, true, true, true, true, true, true, true, true, true, true, true, true, true, true, true, true, true, true, true, true, true, true, true, true, true, true, true, true, true, true, true, true, true, true, true, true, true, true, true, true, true, true, true, true, true, true, true, true, false, true, true, false, false, false, false, false, false, false, false, false] { tmps := (c100 (c100 (c100 (c10 (c1 (c1 (c1 (c1 (c1 ([])))))))))).toArray, defers := [] } _); delta c100 c10 c1
    refine wpAnyH_ready (rs := [76]) oNC_c78 (by simp) ?_
    refine AllReadyH.cons (o := oNC_76) rfl (fun K hK => ?_) AllReadyH.nil
    delta oNC_76
    rw [if_pos (by rfl)]
    go_simp
    (go_at_call 20; ((with_reducible refine (HC23.out _ ?hq).mono ?_); (case hq => exact ((((((((((((((((((((((((Kp.refl Wn).drew.step hbC_0).step hbC_1).step hbC_2).step hbC_3).step hbC_4).step hbC_5).step hbC_6).step hbC_7).step hbC_8).step hbC_9).step hbC_10).step hbC_11).step hbC_12).step hbC_13).step hbC_14).step hbC_15).step hbC_16).step hbC_17).step hbC_18).step hbC_19).step hbC_20).step hbC_21).step hbC_22)); rintro x wC_23 ⟨rfl, hbC_23⟩))
    go_wp2_with fail
    refine hK.out _ _ ?_ (fun hH24 => ?_)
    · with_reducible exact sv3 (((((((((((((((((((((((((Kp.refl Wn).drew.step hbC_0).step hbC_1).step hbC_2).step hbC_3).step hbC_4).step hbC_5).step hbC_6).step hbC_7).step hbC_8).step hbC_9).step hbC_10).step hbC_11).step hbC_12).step hbC_13).step hbC_14).step hbC_15).step hbC_16).step hbC_17).step hbC_18).step hbC_19).step hbC_20).step hbC_21).step hbC_22).step hbC_23) qo0 qo1 qo2 qo3 qn0 qn1 qn2 qn3 qz0 qz1 qz2 qz3
    clear hK K hH23
    (show wpAnyH _ _ oNC _ _ _ (lsN 88 79) { tmps := (c100 (c100 (c100 (c10 (c1 (c1 (c1 (c1 (c1 ([])))))))))).toArray, defers := [] } _); delta c100 c10 c1
    refine wpAnyH_ready (rs := [79]) oNC_c79 (by simp) ?_
    refine AllReadyH.cons (o := oNC_79) rfl (fun K hK => ?_) AllReadyH.nil
    delta oNC_79
    rw [if_pos (by rfl)]
    go_simp
    (go_at_call 21; ((with_reducible refine (HC24.out _ ?hq).mono ?_); (case hq => exact (((((((((((((((((((((((((Kp.refl Wn).drew.step hbC_0).step hbC_1).step hbC_2).step hbC_3).step hbC_4).step hbC_5).step hbC_6).step hbC_7).step hbC_8).step hbC_9).step hbC_10).step hbC_11).step hbC_12).step hbC_13).step hbC_14).step hbC_15).step hbC_16).step hbC_17).step hbC_18).step hbC_19).step hbC_20).step hbC_21).step hbC_22).step hbC_23)); rintro x wC_24 ⟨rfl, hbC_24⟩))
    go_wp2_with fail
    refine hK.out _ _ ?_ (fun hH25 => ?_)
    · with_reducible exact sv3 ((((((((((((((((((((((((((Kp.refl Wn).drew.step hbC_0).step hbC_1).step hbC_2).step hbC_3).step hbC_4).step hbC_5).step hbC_6).step hbC_7).step hbC_8).step hbC_9).step hbC_10).step hbC_11).step hbC_12).step hbC_13).step hbC_14).step hbC_15).step hbC_16).step hbC_17).step hbC_18).step hbC_19).step hbC_20).step hbC_21).step hbC_22).step hbC_23).step hbC_24) qo0 qo1 qo2 qo3 qn0 qn1 qn2 qn3 qz0 qz1 qz2 qz3
    clear hK K hH24
    (show wpAnyH _ _ oNC _ _ _ (lsN 88 80) { tmps := (c100 (c100 (c100 (c10 (c1 (c1 (c1 (c1 (c1 ([])))))))))).toArray, defers := [] } _); delta c100 c10 c1
    refine wpAnyH_take (i := 80) (oi := oNC_80) (v := ?_) rfl oNC_s oNC_f80 oNC_r80 (fun _ _ _ h => h) (Or.inl ⟨by rfl, ?_⟩) (by assumption) ?_
    rotate_left
    · (intro w hSw; (try dsimp only at hSw); delta oNC_80; go_simp; (try with_reducible rfl))
    (show wpAnyH _ _ oNC _ _ _ (lsN 88 81) { tmps := (c100 (c100 (c100 (c10 (c1 (c1 (c1 (c1 (c1 ([])))))))))).toArray, defers := [] } _); delta c100 c10 c1
    refine wpAnyH_take (i := 81) (oi := oNC_81) (v := ?_) rfl oNC_s oNC_f81 oNC_r81 (fun _ _ _ h => h) (Or.inl ⟨by rfl, ?_⟩) (by assumption) ?_
    rotate_left
    · (intro w hSw; (try dsimp only at hSw); delta oNC_81; go_simp; (try with_reducible rfl))
    (show wpAnyH _ _ oNC _ _ _ (lsN 88 82) { tmps := (c100 (c100 (c100 (c10 (c1 (c1 (c1 (c1 (c1 ([])))))))))).toArray, defers := [] } _); delta c100 c10 c1
    refine wpAnyH_take (i := 82) (oi := oNC_82) (v := ?_) rfl oNC_s oNC_f82 oNC_r82 (fun _ _ _ h => h) (Or.inl ⟨by rfl, ?_⟩) (by assumption) ?_
    rotate_left
    · (intro w hSw; (try dsimp only at hSw); delta oNC_82; go_simp; (try with_reducible rfl))
    (show wpAnyH _ _ oNC _ _ _ (lsN 88 83) { tmps := (c100 (c100 (c100 (c10 (c1 (c1 (c1 (c1 (c1 ([])))))))))).toArray, defers := [] } _); delta c100 c10 c1
    refine wpAnyH_take (i := 83) (oi := oNC_83) (v := ?_) rfl oNC_s oNC_f83 oNC_r83 (fun _ _ _ h => h) (Or.inl ⟨by rfl, ?_⟩) (by assumption) ?_
    rotate_left
    · (intro w hSw; (try dsimp only at hSw); delta oNC_83; go_simp; (try with_reducible rfl))
    (show wpAnyH _ _ oNC _ _ _ (lsN 88 84) { tmps := (c100 (c100 (c100 (c10 (c1 (c1 (c1 (c1 (c1 ([])))))))))).toArray, defers := [] } _); delta c100 c10 c1
    as_aux_lemma =>
    refine wpAnyH_take (i := 84) (oi := oNC_84) (v := ?_) rfl oNC_s oNC_f84 oNC_r84 (fun _ _ _ h => h) (Or.inl ⟨by rfl, ?_⟩) (by assumption) ?_
    rotate_left
    · (intro w hSw; (try dsimp only at hSw); delta oNC_84; go_simp; (try with_reducible rfl))
    (show wpAnyH _ _ oNC _ _ _ (lsN 88 85) { tmps := (c100 (c100 (c100 (c10 (c1 (c1 (c1 (c1 (c1 ([])))))))))).toArray, defers := [] } _); delta c100 c10 c1
    refine wpAnyH_ready (rs := [85]) oNC_c85 (by simp) ?_
    refine AllReadyH.cons (o := oNC_85) rfl (fun K hK => ?_) AllReadyH.nil
    delta oNC_85
    rw [if_pos (by rfl)]
    go_simp
    (go_at_call 19; ((with_reducible refine (HC25.out _ ?hq).mono ?_); (case hq => exact ((((((((((((((((((((((((((Kp.refl Wn).drew.step hbC_0).step hbC_1).step hbC_2).step hbC_3).step hbC_4).step hbC_5).step hbC_6).step hbC_7).step hbC_8).step hbC_9).step hbC_10).step hbC_11).step hbC_12).step hbC_13).step hbC_14).step hbC_15).step hbC_16).step hbC_17).step hbC_18).step hbC_19).step hbC_20).step hbC_21).step hbC_22).step hbC_23).step hbC_24)); rintro x wC_25 ⟨rfl, hbC_25⟩))
    go_wp2_with fail
    refine hK.out _ _ ?_ (fun hH26 => ?_)
    · with_reducible exact sv3 (((((((((((((((((((((((((((Kp.refl Wn).drew.step hbC_0).step hbC_1).step hbC_2).step hbC_3).step hbC_4).step hbC_5).step hbC_6).step hbC_7).step hbC_8).step hbC_9).step hbC_10).step hbC_11).step hbC_12).step hbC_13).step hbC_14).step hbC_15).step hbC_16).step hbC_17).step hbC_18).step hbC_19).step hbC_20).step hbC_21).step hbC_22).step hbC_23).step hbC_24).step hbC_25) qo0 qo1 qo2 qo3 qn0 qn1 qn2 qn3 qz0 qz1 qz2 qz3
    clear hK K hH25
    (show wpAnyH _ _ oNC _ _ _ (lsN 88 86) { tmps := (c100 (c100 (c100 (c10 (c1 (c1 (c1 (c1 (c1 ([])))))))))).toArray, defers := [] } _); delta c100 c10 c1
    refine wpAnyH_take (i := 86) (oi := oNC_86) (v := ?_) rfl oNC_s oNC_f86 oNC_r86 (fun _ _ _ h => h) (Or.inl ⟨by rfl, ?_⟩) (by assumption) ?_
    rotate_left
    · (intro w hSw; (try dsimp only at hSw); delta oNC_86; go_simp; (try with_reducible rfl))
    (show wpAnyH _ _ oNC _ _ _ (lsN 88 87) { tmps := (c100 (c100 (c100 (c10 (c1 (c1 (c1 (c1 (c1 ([])))))))))).toArray, defers := [] } _); delta c100 c10 c1
    refine wpAnyH_take (i := 87) (oi := oNC_87) (v := ?_) rfl oNC_s oNC_f87 oNC_r87 (fun _ _ _ h => h) (Or.inl ⟨by rfl, ?_⟩) (by assumption) ?_
    rotate_left
    · (intro w hSw; (try dsimp only at hSw); delta oNC_87; go_simp; (try with_reducible rfl))
    (show wpAnyH _ _ oNC _ _ _ (lsN 88 88) { tmps := (c100 (c100 (c100 (c10 (c1 (c1 (c1 (c1 (c1 ([])))))))))).toArray, defers := [] } _); delta c100 c10 c1
    refine wpAnyH_done (by kernel_rfl) ?_ _
    clear hH26
    go_wp2_with fail
    go_meet
    exact ⟨rfl, (((((((((((((((((((((((((((Kp.refl Wn).drew.step hbC_0).step hbC_1).step hbC_2).step hbC_3).step hbC_4).step hbC_5).step hbC_6).step hbC_7).step hbC_8).step hbC_9).step hbC_10).step hbC_11).step hbC_12).step hbC_13).step hbC_14).step hbC_15).step hbC_16).step hbC_17).step hbC_18).step hbC_19).step hbC_20).step hbC_21).step hbC_22).step hbC_23).step hbC_24).step hbC_25)⟩
  case rest =>
  as_aux_lemma =>
  obtain ⟨rfl, hK⟩ := hcut
  have HT := Lib.hid (HT.out.keep hK)
  have HW := Lib.hid (bl_pack HW.out HW.out.size hK)
  have No := Lib.hid (No.out.keep hK)
  have Nt := Lib.hid (Nt.out.keep hK)
  have Nl := Lib.hid (Nl.out.keep hK)
  have Nz := Lib.hid (Nz.out.keep hK)
  have Ko := Lib.hid (keep_block hK Ko.out)
  have Kt := Lib.hid (keep_block hK Kt.out)
  have Kl := Lib.hid (keep_block hK Kl.out)
  have Kz := Lib.hid (keep_block hK Kz.out)
  have Kn := Lib.hid (keep_block hK Kn.out)
  clear hK qo0 qo1 qo2 qo3 qn0 qn1 qn2 qn3 qz0 qz1 qz2 qz3
  obtain ⟨wzC, rfl⟩ : ∃ z : World, z = wc := ⟨_, rfl⟩
  clear oz
  clear Kn
  clear Kz
  clear Kt
  clear Nt Nz HG HLz
  obtain ⟨qo0, qo1, qo2, qo3, -, -, -, -⟩ := res4_facts Ko.out
  obtain ⟨ql0, ql1, ql2, ql3, -, -, -, -⟩ := res4_facts Kl.out
  go_wp2_with fail
  refine (intB 9007199254740992 (by decide) (by decide) HT.out).mono ?_
  rintro _ w71 ⟨vb, rfl, Mb, b71⟩
  have HT := Lib.hid (HT.out.keep b71)
  have HW := Lib.hid (bl_pack HW.out HW.out.size b71)
  have No := Lib.hid (No.out.keep b71)
  have Nl := Lib.hid (Nl.out.keep b71)
  have Ko := Lib.hid (keep_block b71 Ko.out)
  have Kl := Lib.hid (keep_block b71 Kl.out)
  have Nb := Lib.hid Mb
  clear b71 Mb
  clear qo0 qo1 qo2 qo3 ql0 ql1 ql2 ql3
  obtain ⟨pb, nb, cb, eb, gb, rfl⟩ := Nb.out.form
  obtain ⟨Wb, hWb, Bb, -, Jb⟩ := box_res w71 (.cells #[.slice pb nb cb, .int .i64 eb, .bool gb, .bool false] 29)
  go_upto_region 15 with (fail)
  rw [← hWb]
  clear hWb
  have HT := Lib.hid (HT.out.keep Bb)
  have HW := Lib.hid (bl_pack HW.out HW.out.size Bb)
  have No := Lib.hid (No.out.keep Bb)
  have Nl := Lib.hid (Nl.out.keep Bb)
  have Nb := Lib.hid (Nb.out.keep Bb)
  have Ko := Lib.hid (keep_block Bb Ko.out)
  have Kl := Lib.hid (keep_block Bb Kl.out)
  have Kb := Lib.hid Jb
  clear Bb Jb
  rw [HL.out] at Nl
  clear HL
  obtain ⟨qo0, qo1, qo2, qo3, -, -, -, -⟩ := res4_facts Ko.out
  obtain ⟨ql0, ql1, ql2, ql3, -, -, -, -⟩ := res4_facts Kl.out
  obtain ⟨qb0, qb1, qb2, qb3, -, -, -, -⟩ := res4_facts Kb.out
  as_aux_lemma =>
  have HC0 := Lib.hid (fun (Y : World) (h' : Kp Wb Y) => addB 65 (Nb.out.keep h'.out) (No.out.keep h'.out) (HT.out.keep h'.out) (by decide) (by decide) (by decide))
  have HC1 := Lib.hid (fun (Y : World) (h' : Kp Wb Y) (v0 : Value) (hv0 : NumB 0 Y v0 (((9007199254740992 : Int) : Rat) + ((1 : Int) : Rat)) 65) => floatB hv0)
  have HC2 := Lib.hid (fun (Y : World) (h' : Kp Wb Y) => intB 3 (by decide) (by decide) (HT.out.keep h'.out))
  have HC3 := Lib.hid (fun (Y : World) (h' : Kp Wb Y) (v0 : Value) (hv0 : NumB 0 Y v0 (((3 : Int) : Rat)) 64) => addB 65 (Nb.out.keep h'.out) hv0 (HT.out.keep h'.out) (by decide) (by decide) (by decide))
  have HC4 := Lib.hid (fun (Y : World) (h' : Kp Wb Y) (v0 : Value) (hv0 : NumB 0 Y v0 (((9007199254740992 : Int) : Rat) + ((3 : Int) : Rat)) 65) => floatB hv0)
  have HC5 := Lib.hid (fun (Y : World) (h' : Kp Wb Y) => intB 12 (by decide) (by decide) (HT.out.keep h'.out))
  have HC6 := Lib.hid (fun (Y : World) (h' : Kp Wb Y) (p : Option Addr) (n c : Nat) (e : Int) (g : Bool) (hv0 : NumB 0 Y (.agg #[.slice p n c, .int .i64 e, .bool g, .bool false]) (((12 : Int) : Rat)) 64) => highB 3 hv0 (Or.inl high12))
  have HC7 := Lib.hid (fun (Y : World) (h' : Kp Wb Y) => intB 12 (by decide) (by decide) (HT.out.keep h'.out))
  have HC8 := Lib.hid (fun (Y : World) (h' : Kp Wb Y) (p : Option Addr) (n c : Nat) (e : Int) (g : Bool) (hv0 : NumB 0 Y (.agg #[.slice p n c, .int .i64 e, .bool g, .bool false]) (((12 : Int) : Rat)) 64) => lowB 2 hv0 (HT.out.keep h'.out) (Or.inl low12))
  have HC9 := Lib.hid (fun (Y : World) (h' : Kp Wb Y) => intB (-9223372036854775808) (by decide) (by decide) (HT.out.keep h'.out))
  have HC10 := Lib.hid (fun (Y : World) (h' : Kp Wb Y) (v0 : Value) (hv0 : NumB 0 Y v0 (((-9223372036854775808 : Int) : Rat)) 64) => floatB hv0)
  have HC11 := Lib.hid (fun (Y : World) (h' : Kp Wb Y) => shiftP 1200 (-1074) (No.out.keep h'.out) (HT.out.keep h'.out) (by decide) (ok_pow (by decide)))
  have HC12 := Lib.hid (fun (Y : World) (h' : Kp Wb Y) (v0 : Value) (hv0 : NumB 0 Y v0 ((2 : Rat) ^ (-1074 : Int)) 1200) => floatB hv0)
  have HC13 := Lib.hid (fun (Y : World) (h' : Kp Wb Y) => shiftP 1200 (-1075) (No.out.keep h'.out) (HT.out.keep h'.out) (by decide) (ok_pow (by decide)))
  have HC14 := Lib.hid (fun (Y : World) (h' : Kp Wb Y) (v0 : Value) (hv0 : NumB 0 Y v0 ((2 : Rat) ^ (-1075 : Int)) 1200) => floatB hv0)
  have HC15 := Lib.hid (fun (Y : World) (h' : Kp Wb Y) => intB 3 (by decide) (by decide) (HT.out.keep h'.out))
  have HC16 := Lib.hid (fun (Y : World) (h' : Kp Wb Y) (v0 : Value) (hv0 : NumB 0 Y v0 (((3 : Int) : Rat)) 64) => shiftB 1200 (-1076) hv0 (HT.out.keep h'.out) (by decide) (by decide))
  have HC17 := Lib.hid (fun (Y : World) (h' : Kp Wb Y) (v0 : Value) (hv0 : NumB 0 Y v0 (((3 : Int) : Rat) * (2 : Rat) ^ (-1076 : Int)) 1200) => floatB hv0)
  have HC18 := Lib.hid (fun (Y : World) (h' : Kp Wb Y) => shiftP 1200 (-1075) (No.out.keep h'.out) (HT.out.keep h'.out) (by decide) (ok_pow (by decide)))
  have HC19 := Lib.hid (fun (Y : World) (h' : Kp Wb Y) (v0 : Value) (hv0 : NumB 0 Y v0 ((2 : Rat) ^ (-1075 : Int)) 1200) => addQ 65601 hv0 (Nl.out.keep h'.out) (HT.out.keep h'.out) (by decide) (by decide) ok_over)
  have HC20 := Lib.hid (fun (Y : World) (h' : Kp Wb Y) (v0 : Value) (hv0 : NumB 0 Y v0 ((2 : Rat) ^ (-1075 : Int) + (2 : Rat) ^ (-65536 : Int)) 65601) => floatB hv0)
  have HC21 := Lib.hid (fun (Y : World) (h' : Kp Wb Y) => shiftP 1200 (1024) (No.out.keep h'.out) (HT.out.keep h'.out) (by decide) (ok_pow (by decide)))
  have HC22 := Lib.hid (fun (Y : World) (h' : Kp Wb Y) => shiftP 1200 (971) (No.out.keep h'.out) (HT.out.keep h'.out) (by decide) (ok_pow (by decide)))
  have HC23 := Lib.hid (fun (Y : World) (h' : Kp Wb Y) (v0 : Value) (hv0 : NumB 0 Y v0 ((2 : Rat) ^ (1024 : Int)) 1200) (v1 : Value) (hv1 : NumB 0 Y v1 ((2 : Rat) ^ (971 : Int)) 1200) => subB 1201 hv0 hv1 (HT.out.keep h'.out) (by decide) (by decide) (by decide))
  have HC24 := Lib.hid (fun (Y : World) (h' : Kp Wb Y) (v0 : Value) (hv0 : NumB 0 Y v0 ((2 : Rat) ^ (1024 : Int) - (2 : Rat) ^ (971 : Int)) 1201) => floatB hv0)
  have HC25 := Lib.hid (fun (Y : World) (h' : Kp Wb Y) => shiftP 1200 (1024) (No.out.keep h'.out) (HT.out.keep h'.out) (by decide) (ok_pow (by decide)))
  have HC26 := Lib.hid (fun (Y : World) (h' : Kp Wb Y) => shiftP 1200 (970) (No.out.keep h'.out) (HT.out.keep h'.out) (by decide) (ok_pow (by decide)))
  have HC27 := Lib.hid (fun (Y : World) (h' : Kp Wb Y) (v0 : Value) (hv0 : NumB 0 Y v0 ((2 : Rat) ^ (1024 : Int)) 1200) (v1 : Value) (hv1 : NumB 0 Y v1 ((2 : Rat) ^ (970 : Int)) 1200) => subB 1201 hv0 hv1 (HT.out.keep h'.out) (by decide) (by decide) (by decide))
  have HC28 := Lib.hid (fun (Y : World) (h' : Kp Wb Y) (v0 : Value) (hv0 : NumB 0 Y v0 ((2 : Rat) ^ (1024 : Int) - (2 : Rat) ^ (970 : Int)) 1201) => floatInf hv0 (by rw [gq_dif]; exact Rat.le_refl))
  have HC29 := Lib.hid (fun (Y : World) (h' : Kp Wb Y) => isinfP Y)
  have HC30 := Lib.hid (fun (Y : World) (h' : Kp Wb Y) => shiftP 1200 (1024) (No.out.keep h'.out) (HT.out.keep h'.out) (by decide) (ok_pow (by decide)))
  have HC31 := Lib.hid (fun (Y : World) (h' : Kp Wb Y) => shiftP 1200 (970) (No.out.keep h'.out) (HT.out.keep h'.out) (by decide) (ok_pow (by decide)))
  have HC32 := Lib.hid (fun (Y : World) (h' : Kp Wb Y) (v0 : Value) (hv0 : NumB 0 Y v0 ((2 : Rat) ^ (1024 : Int)) 1200) (v1 : Value) (hv1 : NumB 0 Y v1 ((2 : Rat) ^ (970 : Int)) 1200) => subB 1201 hv0 hv1 (HT.out.keep h'.out) (by decide) (by decide) (by decide))
  have HC33 := Lib.hid (fun (Y : World) (h' : Kp Wb Y) (v0 : Value) (hv0 : NumB 0 Y v0 ((2 : Rat) ^ (1024 : Int) - (2 : Rat) ^ (970 : Int)) 1201) => subQ 65602 hv0 (Nl.out.keep h'.out) (HT.out.keep h'.out) (by decide) (by decide) ok_just)
  have HC34 := Lib.hid (fun (Y : World) (h' : Kp Wb Y) (v0 : Value) (hv0 : NumB 0 Y v0 ((2 : Rat) ^ (1024 : Int) - (2 : Rat) ^ (970 : Int) - (2 : Rat) ^ (-65536 : Int)) 65602) => floatB hv0)
  refine wp_region_held_drew (S := fun w' => w'.cell? ⟨w2.heap.size, 0, none⟩ = some (.slice po no co) ∧ w'.cell? ⟨w2.heap.size, 1, none⟩ = some (.int .i64 eo) ∧ w'.cell? ⟨w2.heap.size, 2, none⟩ = some (.bool go) ∧ w'.cell? ⟨w2.heap.size, 3, none⟩ = some (.bool false) ∧ w'.cell? ⟨w4.heap.size, 0, none⟩ = some (.slice pl nl cl) ∧ w'.cell? ⟨w4.heap.size, 1, none⟩ = some (.int .i64 el) ∧ w'.cell? ⟨w4.heap.size, 2, none⟩ = some (.bool gl) ∧ w'.cell? ⟨w4.heap.size, 3, none⟩ = some (.bool false) ∧ w'.cell? ⟨w71.heap.size, 0, none⟩ = some (.slice pb nb cb) ∧ w'.cell? ⟨w71.heap.size, 1, none⟩ = some (.int .i64 eb) ∧ w'.cell? ⟨w71.heap.size, 2, none⟩ = some (.bool gb) ∧ w'.cell? ⟨w71.heap.size, 3, none⟩ = some (.bool false) ∧ Kp Wb w') (by kernel_rfl) ?_ (fun hH0 => ?_)
  · with_reducible exact sv3 (Kp.refl Wb).drew qo0 qo1 qo2 qo3 ql0 ql1 ql2 ql3 qb0 qb1 qb2 qb3
  show wpAnyH _ _ oND _ _ _ (lsN 85 0) _ _
  refine wpAnyH_take (i := 0) (oi := oND_0) (v := ?_) rfl oND_s oND_f0 oND_r0 (fun _ _ _ h => h) (Or.inl ⟨by rfl, ?_⟩) (by assumption) ?_
  rotate_left
  · (intro w hSw; (try dsimp only at hSw); delta oND_0; go_simp; (try with_reducible rfl))
  (show wpAnyH _ _ oND _ _ _ (lsN 85 1) { tmps := (c100 (c100 (c100 (c10 (c1 (c1 (c1 (c1 (c1 ([])))))))))).toArray, defers := [] } _); delta c100 c10 c1
  refine wpAnyH_take (i := 1) (oi := oND_1) (v := ?_) rfl oND_s oND_f1 oND_r1 (fun _ _ _ h => h) (Or.inl ⟨by rfl, ?_⟩) (by assumption) ?_
  rotate_left
  · (intro w hSw; (try dsimp only at hSw); delta oND_1; go_simp; (try with_reducible rfl))
  (show wpAnyH _ _ oND _ _ _ (lsN 85 2) { tmps := (c100 (c100 (c100 (c10 (c1 (c1 (c1 (c1 (c1 ([])))))))))).toArray, defers := [] } _); delta c100 c10 c1
  refine wpAnyH_ready (rs := [2]) oND_c2 (by simp) ?_
  refine AllReadyH.cons (o := oND_2) rfl (fun K hK => ?_) AllReadyH.nil
  delta oND_2
  rw [if_pos (by rfl)]
  go_simp
  (go_at_call 10; ((with_reducible refine (HC0.out _ ?hq).mono ?_); (case hq => exact (Kp.refl Wb).drew); rintro x wD_0 ⟨vD_0, rfl, MD_0, hbD_0⟩; obtain ⟨pD_0, nD_0, cD_0, eD_0, gD_0, rfl⟩ := NumB.form MD_0))
  go_wp2_with fail
  refine hK.out _ _ ?_ (fun hH1 => ?_)
  · with_reducible exact sv3 ((Kp.refl Wb).drew.step hbD_0) qo0 qo1 qo2 qo3 ql0 ql1 ql2 ql3 qb0 qb1 qb2 qb3
  clear hK K hH0
  (show wpAnyH _ _ oND _ _ _ (lsN 85 3) { tmps := (c100 (c100 (c100 (c10 (c1 (c1 (c1 (c1 (c1 ([])))))))))).toArray, defers := [] } _); delta c100 c10 c1
  refine wpAnyH_ready (rs := [3]) oND_c3 (by simp) ?_
  refine AllReadyH.cons (o := oND_3) rfl (fun K hK => ?_) AllReadyH.nil
  delta oND_3
  rw [if_pos (by rfl)]
  go_simp
  (go_at_call 19; ((with_reducible refine (HC1.out _ ?hq _ ?ha0).mono ?_); (case hq => exact ((Kp.refl Wb).drew.step hbD_0)); (case ha0 => exact MD_0); rintro x wD_1 ⟨fD_1, rfl, hfD_1, hbD_1⟩; have oD_1 := FloOf.eq hfD_1 flo_big1; clear hfD_1))
  go_wp2_with fail
  refine hK.out _ _ ?_ (fun hH2 => ?_)
  · with_reducible exact sv3 (((Kp.refl Wb).drew.step hbD_0).step hbD_1) qo0 qo1 qo2 qo3 ql0 ql1 ql2 ql3 qb0 qb1 qb2 qb3
  clear hK K hH1
  (show wpAnyH _ _ oND _ _ _ (lsN 85 4) { tmps := (c100 (c100 (c100 (c10 (c1 (c1 (c1 (c1 (c1 ([])))))))))).toArray, defers := [] } _); delta c100 c10 c1
  refine wpAnyH_take (i := 4) (oi := oND_4) (v := ?_) rfl oND_s oND_f4 oND_r4 (fun _ _ _ h => h) (Or.inl ⟨by rfl, ?_⟩) (by assumption) ?_
  rotate_left
  · (intro w hSw; (try dsimp only at hSw); delta oND_4; go_simp; (try with_reducible rfl))
  (show wpAnyH _ _ oND _ _ _ (lsN 85 5) { tmps := (c100 (c100 (c100 (c10 (c1 (c1 (c1 (c1 (c1 ([])))))))))).toArray, defers := [] } _); delta c100 c10 c1
  refine wpAnyH_take (i := 5) (oi := oND_5) (v := ?_) rfl oND_s oND_f5 oND_r5 (fun _ _ _ h => h) (Or.inl ⟨by rfl, ?_⟩) (by assumption) ?_
  rotate_left
  · (intro w hSw; (try dsimp only at hSw); delta oND_5; go_simp; (try with_reducible rfl))
  (show wpAnyH _ _ oND _ _ _ (lsN 85 6) { tmps := (c100 (c100 (c100 (c10 (c1 (c1 (c1 (c1 (c1 ([])))))))))).toArray, defers := [] } _); delta c100 c10 c1
  refine wpAnyH_take (i := 6) (oi := oND_6) (v := ?_) rfl oND_s oND_f6 oND_r6 (fun _ _ _ h => h) (Or.inl ⟨by rfl, ?_⟩) (by assumption) ?_
  rotate_left
  · (intro w hSw; (try dsimp only at hSw); delta oND_6; go_simp; (try with_reducible rfl))
  (show wpAnyH _ _ oND _ _ _ (lsN 85 7) { tmps := (c100 (c100 (c100 (c10 (c1 (c1 (c1 (c1 (c1 ([])))))))))).toArray, defers := [] } _); delta c100 c10 c1
  refine wpAnyH_ready (rs := [7]) oND_c7 (by simp) ?_
  refine AllReadyH.cons (o := oND_7) rfl (fun K hK => ?_) AllReadyH.nil
  delta oND_7
  rw [if_pos (by rfl)]
  go_simp
  (go_at_call 17; ((with_reducible refine (HC2.out _ ?hq).mono ?_); (case hq => exact (((Kp.refl Wb).drew.step hbD_0).step hbD_1)); rintro x wD_2 ⟨vD_2, rfl, MD_2, hbD_2⟩; obtain ⟨pD_2, nD_2, cD_2, eD_2, gD_2, rfl⟩ := NumB.form MD_2))
  go_wp2_with fail
  refine hK.out _ _ ?_ (fun hH3 => ?_)
  · with_reducible exact sv3 ((((Kp.refl Wb).drew.step hbD_0).step hbD_1).step hbD_2) qo0 qo1 qo2 qo3 ql0 ql1 ql2 ql3 qb0 qb1 qb2 qb3
  clear hK K hH2
  (show wpAnyH _ _ oND _ _ _ (lsN 85 8) { tmps := (c100 (c100 (c100 (c10 (c1 (c1 (c1 (c1 (c1 ([])))))))))).toArray, defers := [] } _); delta c100 c10 c1
  refine wpAnyH_ready (rs := [8]) oND_c8 (by simp) ?_
  refine AllReadyH.cons (o := oND_8) rfl (fun K hK => ?_) AllReadyH.nil
  delta oND_8
  rw [if_pos (by rfl)]
  go_simp
  (go_at_call 10; ((with_reducible refine (HC3.out _ ?hq _ ?ha0).mono ?_); (case hq => exact ((((Kp.refl Wb).drew.step hbD_0).step hbD_1).step hbD_2)); (case ha0 => exact MD_2); rintro x wD_3 ⟨vD_3, rfl, MD_3, hbD_3⟩; obtain ⟨pD_3, nD_3, cD_3, eD_3, gD_3, rfl⟩ := NumB.form MD_3))
  go_wp2_with fail
  refine hK.out _ _ ?_ (fun hH4 => ?_)
  · with_reducible exact sv3 (((((Kp.refl Wb).drew.step hbD_0).step hbD_1).step hbD_2).step hbD_3) qo0 qo1 qo2 qo3 ql0 ql1 ql2 ql3 qb0 qb1 qb2 qb3
  clear hK K hH3
  (show wpAnyH _ _ oND _ _ _ (lsN 85 9) { tmps := (c100 (c100 (c100 (c10 (c1 (c1 (c1 (c1 (c1 ([])))))))))).toArray, defers := [] } _); delta c100 c10 c1
  refine wpAnyH_ready (rs := [9]) oND_c9 (by simp) ?_
  refine AllReadyH.cons (o := oND_9) rfl (fun K hK => ?_) AllReadyH.nil
  delta oND_9
  rw [if_pos (by rfl)]
  go_simp
  (go_at_call 19; ((with_reducible refine (HC4.out _ ?hq _ ?ha0).mono ?_); (case hq => exact (((((Kp.refl Wb).drew.step hbD_0).step hbD_1).step hbD_2).step hbD_3)); (case ha0 => exact MD_3); rintro x wD_4 ⟨fD_4, rfl, hfD_4, hbD_4⟩; have oD_4 := FloOf.eq hfD_4 flo_big3; clear hfD_4))
  go_wp2_with fail
  refine hK.out _ _ ?_ (fun hH5 => ?_)
  · with_reducible exact sv3 ((((((Kp.refl Wb).drew.step hbD_0).step hbD_1).step hbD_2).step hbD_3).step hbD_4) qo0 qo1 qo2 qo3 ql0 ql1 ql2 ql3 qb0 qb1 qb2 qb3
  clear hK K hH4
  (show wpAnyH _ _ oND _ _ _ (lsN 85 10) { tmps := (c100 (c100 (c100 (c10 (c1 (c1 (c1 (c1 (c1 ([])))))))))).toArray, defers := [] } _); delta c100 c10 c1
  refine wpAnyH_take (i := 10) (oi := oND_10) (v := ?_) rfl oND_s oND_f10 oND_r10 (fun _ _ _ h => h) (Or.inl ⟨by rfl, ?_⟩) (by assumption) ?_
  rotate_left
  · (intro w hSw; (try dsimp only at hSw); delta oND_10; go_simp; (try with_reducible rfl))
  (show wpAnyH _ _ oND _ _ _ (lsN 85 11) { tmps := (c100 (c100 (c100 (c10 (c1 (c1 (c1 (c1 (c1 ([])))))))))).toArray, defers := [] } _); delta c100 c10 c1
  refine wpAnyH_take (i := 11) (oi := oND_11) (v := ?_) rfl oND_s oND_f11 oND_r11 (fun _ _ _ h => h) (Or.inl ⟨by rfl, ?_⟩) (by assumption) ?_
  rotate_left
  · (intro w hSw; (try dsimp only at hSw); delta oND_11; go_simp; (try with_reducible rfl))
  (show wpAnyH _ _ oND _ _ _ (lsN 85 12) { tmps := (c100 (c100 (c100 (c10 (c1 (c1 (c1 (c1 (c1 ([])))))))))).toArray, defers := [] } _); delta c100 c10 c1
  as_aux_lemma =>
  refine wpAnyH_take (i := 12) (oi := oND_12) (v := ?_) rfl oND_s oND_f12 oND_r12 (fun _ _ _ h => h) (Or.inl ⟨by rfl, ?_⟩) (by assumption) ?_
  rotate_left
  · (intro w hSw; (try dsimp only at hSw); delta oND_12; go_simp; (try with_reducible rfl))
  (show wpAnyH _ _ oND _ _ _ (lsN 85 13) { tmps := (c100 (c100 (c100 (c10 (c1 (c1 (c1 (c1 (c1 ([])))))))))).toArray, defers := [] } _); delta c100 c10 c1
  refine wpAnyH_ready (rs := [13]) oND_c13 (by simp) ?_
  refine AllReadyH.cons (o := oND_13) rfl (fun K hK => ?_) AllReadyH.nil
  delta oND_13
  rw [if_pos (by rfl)]
  go_simp
  (go_at_call 17; ((with_reducible refine (HC5.out _ ?hq).mono ?_); (case hq => exact ((((((Kp.refl Wb).drew.step hbD_0).step hbD_1).step hbD_2).step hbD_3).step hbD_4)); rintro x wD_5 ⟨vD_5, rfl, MD_5, hbD_5⟩; obtain ⟨pD_5, nD_5, cD_5, eD_5, gD_5, rfl⟩ := NumB.form MD_5))
  go_wp2_with fail
  refine hK.out _ _ ?_ (fun hH6 => ?_)
  · with_reducible exact sv3 (((((((Kp.refl Wb).drew.step hbD_0).step hbD_1).step hbD_2).step hbD_3).step hbD_4).step hbD_5) qo0 qo1 qo2 qo3 ql0 ql1 ql2 ql3 qb0 qb1 qb2 qb3
  clear hK K hH5
  (show wpAnyH _ _ oND _ _ _ (lsN 85 14) { tmps := (c100 (c100 (c100 (c10 (c1 (c1 (c1 (c1 (c1 ([])))))))))).toArray, defers := [] } _); delta c100 c10 c1
  refine wpAnyH_take (i := 14) (oi := oND_14) (v := ?_) rfl oND_s oND_f14 oND_r14 (fun _ _ _ h => h) (Or.inl ⟨by rfl, ?_⟩) (by assumption) ?_
  rotate_left
  · (intro w hSw; (try dsimp only at hSw); delta oND_14; go_simp; (try with_reducible rfl))
  (show wpAnyH _ _ oND _ _ _ (lsN 85 15) { tmps := (c100 (c100 (c100 (c10 (c1 (c1 (c1 (c1 (c1 ([])))))))))).toArray, defers := [] } _); delta c100 c10 c1
  refine wpAnyH_ready (rs := [15]) oND_c15 (by simp) ?_
  refine AllReadyH.cons (o := oND_15) rfl (fun K hK => ?_) AllReadyH.nil
  delta oND_15
  rw [if_pos (by rfl)]
  go_simp
  (go_at_call 20; ((with_reducible refine (HC6.out _ ?hq pD_5 nD_5 cD_5 eD_5 gD_5 ?ha0).mono ?_); (case hq => exact (((((((Kp.refl Wb).drew.step hbD_0).step hbD_1).step hbD_2).step hbD_3).step hbD_4).step hbD_5)); (case ha0 => exact MD_5); rintro x wD_6 ⟨rfl, hbD_6⟩))
  go_wp2_with fail
  refine hK.out _ _ ?_ (fun hH7 => ?_)
  · with_reducible exact sv3 ((((((((Kp.refl Wb).drew.step hbD_0).step hbD_1).step hbD_2).step hbD_3).step hbD_4).step hbD_5).step hbD_6) qo0 qo1 qo2 qo3 ql0 ql1 ql2 ql3 qb0 qb1 qb2 qb3
  clear hK K hH6
  (show wpAnyH _ _ oND _ _ _ (lsN 85 16) { tmps := (c100 (c100 (c100 (c10 (c1 (c1 (c1 (c1 (c1 ([])))))))))).toArray, defers := [] } _); delta c100 c10 c1
  refine wpAnyH_take (i := 16) (oi := oND_16) (v := ?_) rfl oND_s oND_f16 oND_r16 (fun _ _ _ h => h) (Or.inl ⟨by rfl, ?_⟩) (by assumption) ?_
  rotate_left
  · (intro w hSw; (try dsimp only at hSw); delta oND_16; go_simp; (try with_reducible rfl))
  (show wpAnyH _ _ oND _ _ _ (lsN 85 17) { tmps := (c100 (c100 (c100 (c10 (c1 (c1 (c1 (c1 (c1 ([])))))))))).toArray, defers := [] } _); delta c100 c10 c1
  refine wpAnyH_take (i := 17) (oi := oND_17) (v := ?_) rfl oND_s oND_f17 oND_r17 (fun _ _ _ h => h) (Or.inl ⟨by rfl, ?_⟩) (by assumption) ?_
  rotate_left
  · (intro w hSw; (try dsimp only at hSw); delta oND_17; go_simp; (try with_reducible rfl))
  (show wpAnyH _ _ oND _ _ _ (lsN 85 18) { tmps := (c100 (c100 (c100 (c10 (c1 (c1 (c1 (c1 (c1 ([])))))))))).toArray, defers := [] } _); delta c100 c10 c1
  refine wpAnyH_take (i := 18) (oi := oND_18) (v := ?_) rfl oND_s oND_f18 oND_r18 (fun _ _ _ h => h) (Or.inl ⟨by rfl, ?_⟩) (by assumption) ?_
  rotate_left
  · (intro w hSw; (try dsimp only at hSw); delta oND_18; go_simp; (try with_reducible rfl))
  (show wpAnyH _ _ oND _ _ _ (lsN 85 19) { tmps := (c100 (c100 (c100 (c10 (c1 (c1 (c1 (c1 (c1 ([])))))))))).toArray, defers := [] } _); delta c100 c10 c1
  refine wpAnyH_ready (rs := [19]) oND_c19 (by simp) ?_
  refine AllReadyH.cons (o := oND_19) rfl (fun K hK => ?_) AllReadyH.nil
  delta oND_19
  rw [if_pos (by rfl)]
  go_simp
  (go_at_call 17; ((with_reducible refine (HC7.out _ ?hq).mono ?_); (case hq => exact ((((((((Kp.refl Wb).drew.step hbD_0).step hbD_1).step hbD_2).step hbD_3).step hbD_4).step hbD_5).step hbD_6)); rintro x wD_7 ⟨vD_7, rfl, MD_7, hbD_7⟩; obtain ⟨pD_7, nD_7, cD_7, eD_7, gD_7, rfl⟩ := NumB.form MD_7))
  go_wp2_with fail
  refine hK.out _ _ ?_ (fun hH8 => ?_)
  · with_reducible exact sv3 (((((((((Kp.refl Wb).drew.step hbD_0).step hbD_1).step hbD_2).step hbD_3).step hbD_4).step hbD_5).step hbD_6).step hbD_7) qo0 qo1 qo2 qo3 ql0 ql1 ql2 ql3 qb0 qb1 qb2 qb3
  clear hK K hH7
  (show wpAnyH _ _ oND _ _ _ (lsN 85 20) { tmps := (c100 (c100 (c100 (c10 (c1 (c1 (c1 (c1 (c1 ([])))))))))).toArray, defers := [] } _); delta c100 c10 c1
  refine wpAnyH_take (i := 20) (oi := oND_20) (v := ?_) rfl oND_s oND_f20 oND_r20 (fun _ _ _ h => h) (Or.inl ⟨by rfl, ?_⟩) (by assumption) ?_
  rotate_left
  · (intro w hSw; (try dsimp only at hSw); delta oND_20; go_simp; (try with_reducible rfl))
  (show wpAnyH _ _ oND _ _ _ (lsN 85 21) { tmps := (c100 (c100 (c100 (c10 (c1 (c1 (c1 (c1 (c1 ([])))))))))).toArray, defers := [] } _); delta c100 c10 c1
  refine wpAnyH_ready (rs := [21]) oND_c21 (by simp) ?_
  refine AllReadyH.cons (o := oND_21) rfl (fun K hK => ?_) AllReadyH.nil
  delta oND_21
  rw [if_pos (by rfl)]
  go_simp
  (go_at_call 21; ((with_reducible refine (HC8.out _ ?hq pD_7 nD_7 cD_7 eD_7 gD_7 ?ha0).mono ?_); (case hq => exact (((((((((Kp.refl Wb).drew.step hbD_0).step hbD_1).step hbD_2).step hbD_3).step hbD_4).step hbD_5).step hbD_6).step hbD_7)); (case ha0 => exact MD_7); rintro x wD_8 ⟨rfl, hbD_8⟩))
  go_wp2_with fail
  refine hK.out _ _ ?_ (fun hH9 => ?_)
  · with_reducible exact sv3 ((((((((((Kp.refl Wb).drew.step hbD_0).step hbD_1).step hbD_2).step hbD_3).step hbD_4).step hbD_5).step hbD_6).step hbD_7).step hbD_8) qo0 qo1 qo2 qo3 ql0 ql1 ql2 ql3 qb0 qb1 qb2 qb3
  clear hK K hH8
  (show wpAnyH _ _ oND _ _ _ (lsN 85 22) { tmps := (c100 (c100 (c100 (c10 (c1 (c1 (c1 (c1 (c1 ([])))))))))).toArray, defers := [] } _); delta c100 c10 c1
  refine wpAnyH_take (i := 22) (oi := oND_22) (v := ?_) rfl oND_s oND_f22 oND_r22 (fun _ _ _ h => h) (Or.inl ⟨by rfl, ?_⟩) (by assumption) ?_
  rotate_left
  · (intro w hSw; (try dsimp only at hSw); delta oND_22; go_simp; (try with_reducible rfl))
  (show wpAnyH _ _ oND _ _ _ (lsN 85 23) { tmps := (c100 (c100 (c100 (c10 (c1 (c1 (c1 (c1 (c1 ([])))))))))).toArray, defers := [] } _); delta c100 c10 c1
  refine wpAnyH_take (i := 23) (oi := oND_23) (v := ?_) rfl oND_s oND_f23 oND_r23 (fun _ _ _ h => h) (Or.inl ⟨by rfl, ?_⟩) (by assumption) ?_
  rotate_left
  · (intro w hSw; (try dsimp only at hSw); delta oND_23; go_simp; (try with_reducible rfl))
  (show wpAnyH _ _ oND _ _ _ (lsN 85 24) { tmps := (c100 (c100 (c100 (c10 (c1 (c1 (c1 (c1 (c1 ([])))))))))).toArray, defers := [] } _); delta c100 c10 c1
  as_aux_lemma =>
  refine wpAnyH_take (i := 24) (oi := oND_24) (v := ?_) rfl oND_s oND_f24 oND_r24 (fun _ _ _ h => h) (Or.inl ⟨by rfl, ?_⟩) (by assumption) ?_
  rotate_left
  · (intro w hSw; (try dsimp only at hSw); delta oND_24; go_simp; (try with_reducible rfl))
  (show wpAnyH _ _ oND _ _ _ (lsN 85 25) { tmps := (c100 (c100 (c100 (c10 (c1 (c1 (c1 (c1 (c1 ([])))))))))).toArray, defers := [] } _); delta c100 c10 c1
  refine wpAnyH_ready (rs := [25]) oND_c25 (by simp) ?_
  refine AllReadyH.cons (o := oND_25) rfl (fun K hK => ?_) AllReadyH.nil
  delta oND_25
  rw [if_pos (by rfl)]
  go_simp
  (go_at_call 17; ((with_reducible refine (HC9.out _ ?hq).mono ?_); (case hq => exact ((((((((((Kp.refl Wb).drew.step hbD_0).step hbD_1).step hbD_2).step hbD_3).step hbD_4).step hbD_5).step hbD_6).step hbD_7).step hbD_8)); rintro x wD_9 ⟨vD_9, rfl, MD_9, hbD_9⟩; obtain ⟨pD_9, nD_9, cD_9, eD_9, gD_9, rfl⟩ := NumB.form MD_9))
  go_wp2_with fail
  refine hK.out _ _ ?_ (fun hH10 => ?_)
  · with_reducible exact sv3 (((((((((((Kp.refl Wb).drew.step hbD_0).step hbD_1).step hbD_2).step hbD_3).step hbD_4).step hbD_5).step hbD_6).step hbD_7).step hbD_8).step hbD_9) qo0 qo1 qo2 qo3 ql0 ql1 ql2 ql3 qb0 qb1 qb2 qb3
  clear hK K hH9
  (show wpAnyH _ _ oND _ _ _ (lsN 85 26) { tmps := (c100 (c100 (c100 (c10 (c1 (c1 (c1 (c1 (c1 ([])))))))))).toArray, defers := [] } _); delta c100 c10 c1
  refine wpAnyH_ready (rs := [26]) oND_c26 (by simp) ?_
  refine AllReadyH.cons (o := oND_26) rfl (fun K hK => ?_) AllReadyH.nil
  delta oND_26
  rw [if_pos (by rfl)]
  go_simp
  (go_at_call 19; ((with_reducible refine (HC10.out _ ?hq _ ?ha0).mono ?_); (case hq => exact (((((((((((Kp.refl Wb).drew.step hbD_0).step hbD_1).step hbD_2).step hbD_3).step hbD_4).step hbD_5).step hbD_6).step hbD_7).step hbD_8).step hbD_9)); (case ha0 => exact MD_9); rintro x wD_10 ⟨fD_10, rfl, hfD_10, hbD_10⟩; have oD_10 := FloOf.eq hfD_10 flo_min; clear hfD_10))
  go_wp2_with fail
  refine hK.out _ _ ?_ (fun hH11 => ?_)
  · with_reducible exact sv3 ((((((((((((Kp.refl Wb).drew.step hbD_0).step hbD_1).step hbD_2).step hbD_3).step hbD_4).step hbD_5).step hbD_6).step hbD_7).step hbD_8).step hbD_9).step hbD_10) qo0 qo1 qo2 qo3 ql0 ql1 ql2 ql3 qb0 qb1 qb2 qb3
  clear hK K hH10
  (show wpAnyH _ _ oND _ _ _ (lsN 85 27) { tmps := (c100 (c100 (c100 (c10 (c1 (c1 (c1 (c1 (c1 ([])))))))))).toArray, defers := [] } _); delta c100 c10 c1
  refine wpAnyH_take (i := 27) (oi := oND_27) (v := ?_) rfl oND_s oND_f27 oND_r27 (fun _ _ _ h => h) (Or.inl ⟨by rfl, ?_⟩) (by assumption) ?_
  rotate_left
  · (intro w hSw; (try dsimp only at hSw); delta oND_27; go_simp; (try with_reducible rfl))
  (show wpAnyH _ _ oND _ _ _ (lsN 85 28) { tmps := (c100 (c100 (c100 (c10 (c1 (c1 (c1 (c1 (c1 ([])))))))))).toArray, defers := [] } _); delta c100 c10 c1
  refine wpAnyH_take (i := 28) (oi := oND_28) (v := ?_) rfl oND_s oND_f28 oND_r28 (fun _ _ _ h => h) (Or.inl ⟨by rfl, ?_⟩) (by assumption) ?_
  rotate_left
  · (intro w hSw; (try dsimp only at hSw); delta oND_28; go_simp; (try with_reducible rfl))
  (show wpAnyH _ _ oND _ _ _ (lsN 85 29) { tmps := (c100 (c100 (c100 (c10 (c1 (c1 (c1 (c1 (c1 ([])))))))))).toArray, defers := [] } _); delta c100 c10 c1
  refine wpAnyH_take (i := 29) (oi := oND_29) (v := ?_) rfl oND_s oND_f29 oND_r29 (fun _ _ _ h => h) (Or.inl ⟨by rfl, ?_⟩) (by assumption) ?_
  rotate_left
  · (intro w hSw; (try dsimp only at hSw); delta oND_29; go_simp; (try with_reducible rfl))
  (show wpAnyH _ _ oND _ _ _ (lsN 85 30) { tmps := (c100 (c100 (c100 (c10 (c1 (c1 (c1 (c1 (c1 ([])))))))))).toArray, defers := [] } _); delta c100 c10 c1
  refine wpAnyH_take (i := 30) (oi := oND_30) (v := ?_) rfl oND_s oND_f30 oND_r30 (fun _ _ _ h => h) (Or.inl ⟨by rfl, ?_⟩) (by assumption) ?_
  rotate_left
  · (intro w hSw; (try dsimp only at hSw); delta oND_30; go_simp; (try with_reducible rfl))
  (show wpAnyH _ _ oND _ _ _ (lsN 85 31) { tmps := (c100 (c100 (c100 (c10 (c1 (c1 (c1 (c1 (c1 ([])))))))))).toArray, defers := [] } _); delta c100 c10 c1
  refine wpAnyH_ready (rs := [31]) oND_c31 (by simp) ?_
  refine AllReadyH.cons (o := oND_31) rfl (fun K hK => ?_) AllReadyH.nil
  delta oND_31
  rw [if_pos (by rfl)]
  go_simp
  (go_at_call 16; ((with_reducible refine (HC11.out _ ?hq).mono ?_); (case hq => exact ((((((((((((Kp.refl Wb).drew.step hbD_0).step hbD_1).step hbD_2).step hbD_3).step hbD_4).step hbD_5).step hbD_6).step hbD_7).step hbD_8).step hbD_9).step hbD_10)); rintro x wD_11 ⟨vD_11, rfl, MD_11, hbD_11⟩; obtain ⟨pD_11, nD_11, cD_11, eD_11, gD_11, rfl⟩ := NumB.form MD_11))
  go_wp2_with fail
  refine hK.out _ _ ?_ (fun hH12 => ?_)
  · with_reducible exact sv3 (((((((((((((Kp.refl Wb).drew.step hbD_0).step hbD_1).step hbD_2).step hbD_3).step hbD_4).step hbD_5).step hbD_6).step hbD_7).step hbD_8).step hbD_9).step hbD_10).step hbD_11) qo0 qo1 qo2 qo3 ql0 ql1 ql2 ql3 qb0 qb1 qb2 qb3
  clear hK K hH11
  (show wpAnyH _ _ oND _ _ _ (lsN 85 32) { tmps := (c100 (c100 (c100 (c10 (c1 (c1 (c1 (c1 (c1 ([])))))))))).toArray, defers := [] } _); delta c100 c10 c1
  refine wpAnyH_ready (rs := [32]) oND_c32 (by simp) ?_
  refine AllReadyH.cons (o := oND_32) rfl (fun K hK => ?_) AllReadyH.nil
  delta oND_32
  rw [if_pos (by rfl)]
  go_simp
  (go_at_call 19; ((with_reducible refine (HC12.out _ ?hq _ ?ha0).mono ?_); (case hq => exact (((((((((((((Kp.refl Wb).drew.step hbD_0).step hbD_1).step hbD_2).step hbD_3).step hbD_4).step hbD_5).step hbD_6).step hbD_7).step hbD_8).step hbD_9).step hbD_10).step hbD_11)); (case ha0 => exact MD_11); rintro x wD_12 ⟨fD_12, rfl, hfD_12, hbD_12⟩; have oD_12 := FloOf.eq hfD_12 flo_p0; clear hfD_12))
  go_wp2_with fail
  refine hK.out _ _ ?_ (fun hH13 => ?_)
  · with_reducible exact sv3 ((((((((((((((Kp.refl Wb).drew.step hbD_0).step hbD_1).step hbD_2).step hbD_3).step hbD_4).step hbD_5).step hbD_6).step hbD_7).step hbD_8).step hbD_9).step hbD_10).step hbD_11).step hbD_12) qo0 qo1 qo2 qo3 ql0 ql1 ql2 ql3 qb0 qb1 qb2 qb3
  clear hK K hH12
  (show wpAnyH _ _ oND _ _ _ (lsN 85 33) { tmps := (c100 (c100 (c100 (c10 (c1 (c1 (c1 (c1 (c1 ([])))))))))).toArray, defers := [] } _); delta c100 c10 c1
  refine wpAnyH_take (i := 33) (oi := oND_33) (v := ?_) rfl oND_s oND_f33 oND_r33 (fun _ _ _ h => h) (Or.inl ⟨by rfl, ?_⟩) (by assumption) ?_
  rotate_left
  · (intro w hSw; (try dsimp only at hSw); delta oND_33; go_simp; (try with_reducible rfl))
  (show wpAnyH _ _ oND _ _ _ (lsN 85 34) { tmps := (c100 (c100 (c100 (c10 (c1 (c1 (c1 (c1 (c1 ([])))))))))).toArray, defers := [] } _); delta c100 c10 c1
  refine wpAnyH_take (i := 34) (oi := oND_34) (v := ?_) rfl oND_s oND_f34 oND_r34 (fun _ _ _ h => h) (Or.inl ⟨by rfl, ?_⟩) (by assumption) ?_
  rotate_left
  · (intro w hSw; (try dsimp only at hSw); delta oND_34; go_simp; (try with_reducible rfl))
  (show wpAnyH _ _ oND _ _ _ (lsN 85 35) { tmps := (c100 (c100 (c100 (c10 (c1 (c1 (c1 (c1 (c1 ([])))))))))).toArray, defers := [] } _); delta c100 c10 c1
  refine wpAnyH_take (i := 35) (oi := oND_35) (v := ?_) rfl oND_s oND_f35 oND_r35 (fun _ _ _ h => h) (Or.inl ⟨by rfl, ?_⟩) (by assumption) ?_
  rotate_left
  · (intro w hSw; (try dsimp only at hSw); delta oND_35; go_simp; (try with_reducible rfl))
  (show wpAnyH _ _ oND _ _ _ (lsN 85 36) { tmps := (c100 (c100 (c100 (c10 (c1 (c1 (c1 (c1 (c1 ([])))))))))).toArray, defers := [] } _); delta c100 c10 c1
  as_aux_lemma =>
  refine wpAnyH_take (i := 36) (oi := oND_36) (v := ?_) rfl oND_s oND_f36 oND_r36 (fun _ _ _ h => h) (Or.inl ⟨by rfl, ?_⟩) (by assumption) ?_
  rotate_left
  · (intro w hSw; (try dsimp only at hSw); delta oND_36; go_simp; (try with_reducible rfl))
  (show wpAnyH _ _ oND _ _ _ (lsN 85 37) { tmps := (c100 (c100 (c100 (c10 (c1 (c1 (c1 (c1 (c1 ([])))))))))).toArray, defers := [] } _); delta c100 c10 c1
  refine wpAnyH_ready (rs := [37]) oND_c37 (by simp) ?_
  refine AllReadyH.cons (o := oND_37) rfl (fun K hK => ?_) AllReadyH.nil
  delta oND_37
  rw [if_pos (by rfl)]
  go_simp
  (go_at_call 16; ((with_reducible refine (HC13.out _ ?hq).mono ?_); (case hq => exact ((((((((((((((Kp.refl Wb).drew.step hbD_0).step hbD_1).step hbD_2).step hbD_3).step hbD_4).step hbD_5).step hbD_6).step hbD_7).step hbD_8).step hbD_9).step hbD_10).step hbD_11).step hbD_12)); rintro x wD_13 ⟨vD_13, rfl, MD_13, hbD_13⟩; obtain ⟨pD_13, nD_13, cD_13, eD_13, gD_13, rfl⟩ := NumB.form MD_13))
  go_wp2_with fail
  refine hK.out _ _ ?_ (fun hH14 => ?_)
  · with_reducible exact sv3 (((((((((((((((Kp.refl Wb).drew.step hbD_0).step hbD_1).step hbD_2).step hbD_3).step hbD_4).step hbD_5).step hbD_6).step hbD_7).step hbD_8).step hbD_9).step hbD_10).step hbD_11).step hbD_12).step hbD_13) qo0 qo1 qo2 qo3 ql0 ql1 ql2 ql3 qb0 qb1 qb2 qb3
  clear hK K hH13
  (show wpAnyH _ _ oND _ _ _ (lsN 85 38) { tmps := (c100 (c100 (c100 (c10 (c1 (c1 (c1 (c1 (c1 ([])))))))))).toArray, defers := [] } _); delta c100 c10 c1
  refine wpAnyH_ready (rs := [38]) oND_c38 (by simp) ?_
  refine AllReadyH.cons (o := oND_38) rfl (fun K hK => ?_) AllReadyH.nil
  delta oND_38
  rw [if_pos (by rfl)]
  go_simp
  (go_at_call 19; ((with_reducible refine (HC14.out _ ?hq _ ?ha0).mono ?_); (case hq => exact (((((((((((((((Kp.refl Wb).drew.step hbD_0).step hbD_1).step hbD_2).step hbD_3).step hbD_4).step hbD_5).step hbD_6).step hbD_7).step hbD_8).step hbD_9).step hbD_10).step hbD_11).step hbD_12).step hbD_13)); (case ha0 => exact MD_13); rintro x wD_14 ⟨fD_14, rfl, hfD_14, hbD_14⟩; have oD_14 := FloOf.eq hfD_14 flo_p1; clear hfD_14))
  go_wp2_with fail
  refine hK.out _ _ ?_ (fun hH15 => ?_)
  · with_reducible exact sv3 ((((((((((((((((Kp.refl Wb).drew.step hbD_0).step hbD_1).step hbD_2).step hbD_3).step hbD_4).step hbD_5).step hbD_6).step hbD_7).step hbD_8).step hbD_9).step hbD_10).step hbD_11).step hbD_12).step hbD_13).step hbD_14) qo0 qo1 qo2 qo3 ql0 ql1 ql2 ql3 qb0 qb1 qb2 qb3
  clear hK K hH14
  (show wpAnyH _ _ oND _ _ _ (lsN 85 39) { tmps := (c100 (c100 (c100 (c10 (c1 (c1 (c1 (c1 (c1 ([])))))))))).toArray, defers := [] } _); delta c100 c10 c1
  refine wpAnyH_take (i := 39) (oi := oND_39) (v := ?_) rfl oND_s oND_f39 oND_r39 (fun _ _ _ h => h) (Or.inl ⟨by rfl, ?_⟩) (by assumption) ?_
  rotate_left
  · (intro w hSw; (try dsimp only at hSw); delta oND_39; go_simp; (try with_reducible rfl))
  (show wpAnyH _ _ oND _ _ _ (lsN 85 40) { tmps := (c100 (c100 (c100 (c10 (c1 (c1 (c1 (c1 (c1 ([])))))))))).toArray, defers := [] } _); delta c100 c10 c1
  refine wpAnyH_take (i := 40) (oi := oND_40) (v := ?_) rfl oND_s oND_f40 oND_r40 (fun _ _ _ h => h) (Or.inl ⟨by rfl, ?_⟩) (by assumption) ?_
  rotate_left
  · (intro w hSw; (try dsimp only at hSw); delta oND_40; go_simp; (try with_reducible rfl))
  (show wpAnyH _ _ oND _ _ _ (lsN 85 41) { tmps := (c100 (c100 (c100 (c10 (c1 (c1 (c1 (c1 (c1 ([])))))))))).toArray, defers := [] } _); delta c100 c10 c1
  refine wpAnyH_take (i := 41) (oi := oND_41) (v := ?_) rfl oND_s oND_f41 oND_r41 (fun _ _ _ h => h) (Or.inl ⟨by rfl, ?_⟩) (by assumption) ?_
  rotate_left
  · (intro w hSw; (try dsimp only at hSw); delta oND_41; go_simp; (try with_reducible rfl))
  (show wpAnyH _ _ oND _ _ _ (lsN 85 42) { tmps := (c100 (c100 (c100 (c10 (c1 (c1 (c1 (c1 (c1 ([])))))))))).toArray, defers := [] } _); delta c100 c10 c1
  refine wpAnyH_ready (rs := [42]) oND_c42 (by simp) ?_
  refine AllReadyH.cons (o := oND_42) rfl (fun K hK => ?_) AllReadyH.nil
  delta oND_42
  rw [if_pos (by rfl)]
  go_simp
  (go_at_call 17; ((with_reducible refine (HC15.out _ ?hq).mono ?_); (case hq => exact ((((((((((((((((Kp.refl Wb).drew.step hbD_0).step hbD_1).step hbD_2).step hbD_3).step hbD_4).step hbD_5).step hbD_6).step hbD_7).step hbD_8).step hbD_9).step hbD_10).step hbD_11).step hbD_12).step hbD_13).step hbD_14)); rintro x wD_15 ⟨vD_15, rfl, MD_15, hbD_15⟩; obtain ⟨pD_15, nD_15, cD_15, eD_15, gD_15, rfl⟩ := NumB.form MD_15))
  go_wp2_with fail
  refine hK.out _ _ ?_ (fun hH16 => ?_)
  · with_reducible exact sv3 (((((((((((((((((Kp.refl Wb).drew.step hbD_0).step hbD_1).step hbD_2).step hbD_3).step hbD_4).step hbD_5).step hbD_6).step hbD_7).step hbD_8).step hbD_9).step hbD_10).step hbD_11).step hbD_12).step hbD_13).step hbD_14).step hbD_15) qo0 qo1 qo2 qo3 ql0 ql1 ql2 ql3 qb0 qb1 qb2 qb3
  clear hK K hH15
  (show wpAnyH _ _ oND _ _ _ (lsN 85 43) { tmps := (c100 (c100 (c100 (c10 (c1 (c1 (c1 (c1 (c1 ([])))))))))).toArray, defers := [] } _); delta c100 c10 c1
  refine wpAnyH_ready (rs := [43]) oND_c43 (by simp) ?_
  refine AllReadyH.cons (o := oND_43) rfl (fun K hK => ?_) AllReadyH.nil
  delta oND_43
  rw [if_pos (by rfl)]
  go_simp
  (go_at_call 16; ((with_reducible refine (HC16.out _ ?hq _ ?ha0).mono ?_); (case hq => exact (((((((((((((((((Kp.refl Wb).drew.step hbD_0).step hbD_1).step hbD_2).step hbD_3).step hbD_4).step hbD_5).step hbD_6).step hbD_7).step hbD_8).step hbD_9).step hbD_10).step hbD_11).step hbD_12).step hbD_13).step hbD_14).step hbD_15)); (case ha0 => exact MD_15); rintro x wD_16 ⟨vD_16, rfl, MD_16, hbD_16⟩; obtain ⟨pD_16, nD_16, cD_16, eD_16, gD_16, rfl⟩ := NumB.form MD_16))
  go_wp2_with fail
  refine hK.out _ _ ?_ (fun hH17 => ?_)
  · with_reducible exact sv3 ((((((((((((((((((Kp.refl Wb).drew.step hbD_0).step hbD_1).step hbD_2).step hbD_3).step hbD_4).step hbD_5).step hbD_6).step hbD_7).step hbD_8).step hbD_9).step hbD_10).step hbD_11).step hbD_12).step hbD_13).step hbD_14).step hbD_15).step hbD_16) qo0 qo1 qo2 qo3 ql0 ql1 ql2 ql3 qb0 qb1 qb2 qb3
  clear hK K hH16
  (show wpAnyH _ _ oND _ _ _ (lsN 85 44) { tmps := (c100 (c100 (c100 (c10 (c1 (c1 (c1 (c1 (c1 ([])))))))))).toArray, defers := [] } _); delta c100 c10 c1
  refine wpAnyH_ready (rs := [44]) oND_c44 (by simp) ?_
  refine AllReadyH.cons (o := oND_44) rfl (fun K hK => ?_) AllReadyH.nil
  delta oND_44
  rw [if_pos (by rfl)]
  go_simp
  (go_at_call 19; ((with_reducible refine (HC17.out _ ?hq _ ?ha0).mono ?_); (case hq => exact ((((((((((((((((((Kp.refl Wb).drew.step hbD_0).step hbD_1).step hbD_2).step hbD_3).step hbD_4).step hbD_5).step hbD_6).step hbD_7).step hbD_8).step hbD_9).step hbD_10).step hbD_11).step hbD_12).step hbD_13).step hbD_14).step hbD_15).step hbD_16)); (case ha0 => exact MD_16); rintro x wD_17 ⟨fD_17, rfl, hfD_17, hbD_17⟩; have oD_17 := FloOf.eq hfD_17 flo_p3; clear hfD_17))
  go_wp2_with fail
  refine hK.out _ _ ?_ (fun hH18 => ?_)
  · with_reducible exact sv3 (((((((((((((((((((Kp.refl Wb).drew.step hbD_0).step hbD_1).step hbD_2).step hbD_3).step hbD_4).step hbD_5).step hbD_6).step hbD_7).step hbD_8).step hbD_9).step hbD_10).step hbD_11).step hbD_12).step hbD_13).step hbD_14).step hbD_15).step hbD_16).step hbD_17) qo0 qo1 qo2 qo3 ql0 ql1 ql2 ql3 qb0 qb1 qb2 qb3
  clear hK K hH17
  (show wpAnyH _ _ oND _ _ _ (lsN 85 45) { tmps := (c100 (c100 (c100 (c10 (c1 (c1 (c1 (c1 (c1 ([])))))))))).toArray, defers := [] } _); delta c100 c10 c1
  refine wpAnyH_take (i := 45) (oi := oND_45) (v := ?_) rfl oND_s oND_f45 oND_r45 (fun _ _ _ h => h) (Or.inl ⟨by rfl, ?_⟩) (by assumption) ?_
  rotate_left
  · (intro w hSw; (try dsimp only at hSw); delta oND_45; go_simp; (try with_reducible rfl))
  (show wpAnyH _ _ oND _ _ _ (lsN 85 46) { tmps := (c100 (c100 (c100 (c10 (c1 (c1 (c1 (c1 (c1 ([])))))))))).toArray, defers := [] } _); delta c100 c10 c1
  refine wpAnyH_take (i := 46) (oi := oND_46) (v := ?_) rfl oND_s oND_f46 oND_r46 (fun _ _ _ h => h) (Or.inl ⟨by rfl, ?_⟩) (by assumption) ?_
  rotate_left
  · (intro w hSw; (try dsimp only at hSw); delta oND_46; go_simp; (try with_reducible rfl))
  (show wpAnyH _ _ oND _ _ _ (lsN 85 47) { tmps := (c100 (c100 (c100 (c10 (c1 (c1 (c1 (c1 (c1 ([])))))))))).toArray, defers := [] } _); delta c100 c10 c1
  refine wpAnyH_take (i := 47) (oi := oND_47) (v := ?_) rfl oND_s oND_f47 oND_r47 (fun _ _ _ h => h) (Or.inl ⟨by rfl, ?_⟩) (by assumption) ?_
  rotate_left
  · (intro w hSw; (try dsimp only at hSw); delta oND_47; go_simp; (try with_reducible rfl))
  (show wpAnyH _ _ oND _ _ _ (lsN 85 48) { tmps := (c100 (c100 (c100 (c10 (c1 (c1 (c1 (c1 (c1 ([])))))))))).toArray, defers := [] } _); delta c100 c10 c1
  as_aux_lemma =>
  refine wpAnyH_take (i := 48) (oi := oND_48) (v := ?_) rfl oND_s oND_f48 oND_r48 (fun _ _ _ h => h) (Or.inl ⟨by rfl, ?_⟩) (by assumption) ?_
  rotate_left
  · (intro w hSw; (try dsimp only at hSw); delta oND_48; go_simp; (try with_reducible rfl))
  (show wpAnyH _ _ oND _ _ _ (lsN 85 49) { tmps := (c100 (c100 (c100 (c10 (c1 (c1 (c1 (c1 (c1 ([])))))))))).toArray, defers := [] } _); delta c100 c10 c1
  refine wpAnyH_take (i := 50) (oi := oND_50) (v := ?_) rfl oND_s oND_f49 oND_r49 (fun _ _ _ h => h) (Or.inl ⟨by rfl, ?_⟩) (by assumption) ?_
  rotate_left
  · (intro w hSw; (try dsimp only at hSw); delta oND_50; go_simp; (try with_reducible rfl))
  (show wpAnyH _ _ oND _ _ _ #[true, true, true, true, true, true, true, true, true, true, true, true, true, true, true, true, true, true, true, true, true, true, true, true, true, true, true, true, true, true, true, true, true, true, true, true, true, true, true, true, true, true, true, true, true, true, true, true, true, false, true, false, false, false, false, false, false, false, false, false, false, false, false, false, false, false, false, false, false, false, false, false, false, false, false, false, false, false, false, false, false, false, false, false, false] { tmps := (c100 (c100 (c100 (c10 (c1 (c1 (c1 (c1 (c1 ([])))))))))).toArray, defers := [] } _); delta c100 c10 c1
  refine wpAnyH_ready (rs := [49]) oND_c50 (by simp) ?_
  refine AllReadyH.cons (o := oND_49) rfl (fun K hK => ?_) AllReadyH.nil
  delta oND_49
  rw [if_pos (by rfl)]
  go_simp
  (go_at_call 16; ((with_reducible refine (HC18.out _ ?hq).mono ?_); (case hq => exact (((((((((((((((((((Kp.refl Wb).drew.step hbD_0).step hbD_1).step hbD_2).step hbD_3).step hbD_4).step hbD_5).step hbD_6).step hbD_7).step hbD_8).step hbD_9).step hbD_10).step hbD_11).step hbD_12).step hbD_13).step hbD_14).step hbD_15).step hbD_16).step hbD_17)); rintro x wD_18 ⟨vD_18, rfl, MD_18, hbD_18⟩; obtain ⟨pD_18, nD_18, cD_18, eD_18, gD_18, rfl⟩ := NumB.form MD_18))
  go_wp2_with fail
  refine hK.out _ _ ?_ (fun hH19 => ?_)
  · with_reducible exact sv3 ((((((((((((((((((((Kp.refl Wb).drew.step hbD_0).step hbD_1).step hbD_2).step hbD_3).step hbD_4).step hbD_5).step hbD_6).step hbD_7).step hbD_8).step hbD_9).step hbD_10).step hbD_11).step hbD_12).step hbD_13).step hbD_14).step hbD_15).step hbD_16).step hbD_17).step hbD_18) qo0 qo1 qo2 qo3 ql0 ql1 ql2 ql3 qb0 qb1 qb2 qb3
  clear hK K hH18
  (show wpAnyH _ _ oND _ _ _ (lsN 85 51) { tmps := (c100 (c100 (c100 (c10 (c1 (c1 (c1 (c1 (c1 ([])))))))))).toArray, defers := [] } _); delta c100 c10 c1
  refine wpAnyH_ready (rs := [51]) oND_c51 (by simp) ?_
  refine AllReadyH.cons (o := oND_51) rfl (fun K hK => ?_) AllReadyH.nil
  delta oND_51
  rw [if_pos (by rfl)]
  go_simp
  (go_at_call 10; ((with_reducible refine (HC19.out _ ?hq _ ?ha0).mono ?_); (case hq => exact ((((((((((((((((((((Kp.refl Wb).drew.step hbD_0).step hbD_1).step hbD_2).step hbD_3).step hbD_4).step hbD_5).step hbD_6).step hbD_7).step hbD_8).step hbD_9).step hbD_10).step hbD_11).step hbD_12).step hbD_13).step hbD_14).step hbD_15).step hbD_16).step hbD_17).step hbD_18)); (case ha0 => exact MD_18); rintro x wD_19 ⟨vD_19, rfl, MD_19, hbD_19⟩; obtain ⟨pD_19, nD_19, cD_19, eD_19, gD_19, rfl⟩ := NumB.form MD_19))
  go_wp2_with fail
  refine hK.out _ _ ?_ (fun hH20 => ?_)
  · with_reducible exact sv3 (((((((((((((((((((((Kp.refl Wb).drew.step hbD_0).step hbD_1).step hbD_2).step hbD_3).step hbD_4).step hbD_5).step hbD_6).step hbD_7).step hbD_8).step hbD_9).step hbD_10).step hbD_11).step hbD_12).step hbD_13).step hbD_14).step hbD_15).step hbD_16).step hbD_17).step hbD_18).step hbD_19) qo0 qo1 qo2 qo3 ql0 ql1 ql2 ql3 qb0 qb1 qb2 qb3
  clear hK K hH19
  (show wpAnyH _ _ oND _ _ _ (lsN 85 52) { tmps := (c100 (c100 (c100 (c10 (c1 (c1 (c1 (c1 (c1 ([])))))))))).toArray, defers := [] } _); delta c100 c10 c1
  refine wpAnyH_ready (rs := [52]) oND_c52 (by simp) ?_
  refine AllReadyH.cons (o := oND_52) rfl (fun K hK => ?_) AllReadyH.nil
  delta oND_52
  rw [if_pos (by rfl)]
  go_simp
  (go_at_call 19; ((with_reducible refine (HC20.out _ ?hq _ ?ha0).mono ?_); (case hq => exact (((((((((((((((((((((Kp.refl Wb).drew.step hbD_0).step hbD_1).step hbD_2).step hbD_3).step hbD_4).step hbD_5).step hbD_6).step hbD_7).step hbD_8).step hbD_9).step hbD_10).step hbD_11).step hbD_12).step hbD_13).step hbD_14).step hbD_15).step hbD_16).step hbD_17).step hbD_18).step hbD_19)); (case ha0 => exact MD_19); rintro x wD_20 ⟨fD_20, rfl, hfD_20, hbD_20⟩; have oD_20 := FloOf.eq hfD_20 flo_over; clear hfD_20))
  go_wp2_with fail
  refine hK.out _ _ ?_ (fun hH21 => ?_)
  · with_reducible exact sv3 ((((((((((((((((((((((Kp.refl Wb).drew.step hbD_0).step hbD_1).step hbD_2).step hbD_3).step hbD_4).step hbD_5).step hbD_6).step hbD_7).step hbD_8).step hbD_9).step hbD_10).step hbD_11).step hbD_12).step hbD_13).step hbD_14).step hbD_15).step hbD_16).step hbD_17).step hbD_18).step hbD_19).step hbD_20) qo0 qo1 qo2 qo3 ql0 ql1 ql2 ql3 qb0 qb1 qb2 qb3
  clear hK K hH20
  (show wpAnyH _ _ oND _ _ _ (lsN 85 53) { tmps := (c100 (c100 (c100 (c10 (c1 (c1 (c1 (c1 (c1 ([])))))))))).toArray, defers := [] } _); delta c100 c10 c1
  refine wpAnyH_take (i := 53) (oi := oND_53) (v := ?_) rfl oND_s oND_f53 oND_r53 (fun _ _ _ h => h) (Or.inl ⟨by rfl, ?_⟩) (by assumption) ?_
  rotate_left
  · (intro w hSw; (try dsimp only at hSw); delta oND_53; go_simp; (try with_reducible rfl))
  (show wpAnyH _ _ oND _ _ _ (lsN 85 54) { tmps := (c100 (c100 (c100 (c10 (c1 (c1 (c1 (c1 (c1 ([])))))))))).toArray, defers := [] } _); delta c100 c10 c1
  refine wpAnyH_take (i := 54) (oi := oND_54) (v := ?_) rfl oND_s oND_f54 oND_r54 (fun _ _ _ h => h) (Or.inl ⟨by rfl, ?_⟩) (by assumption) ?_
  rotate_left
  · (intro w hSw; (try dsimp only at hSw); delta oND_54; go_simp; (try with_reducible rfl))
  (show wpAnyH _ _ oND _ _ _ (lsN 85 55) { tmps := (c100 (c100 (c100 (c10 (c1 (c1 (c1 (c1 (c1 ([])))))))))).toArray, defers := [] } _); delta c100 c10 c1
  refine wpAnyH_take (i := 55) (oi := oND_55) (v := ?_) rfl oND_s oND_f55 oND_r55 (fun _ _ _ h => h) (Or.inl ⟨by rfl, ?_⟩) (by assumption) ?_
  rotate_left
  · (intro w hSw; (try dsimp only at hSw); delta oND_55; go_simp; (try with_reducible rfl))
  (show wpAnyH _ _ oND _ _ _ (lsN 85 56) { tmps := (c100 (c100 (c100 (c10 (c1 (c1 (c1 (c1 (c1 ([])))))))))).toArray, defers := [] } _); delta c100 c10 c1
  refine wpAnyH_take (i := 56) (oi := oND_56) (v := ?_) rfl oND_s oND_f56 oND_r56 (fun _ _ _ h => h) (Or.inl ⟨by rfl, ?_⟩) (by assumption) ?_
  rotate_left
  · (intro w hSw; (try dsimp only at hSw); delta oND_56; go_simp; (try with_reducible rfl))
  (show wpAnyH _ _ oND _ _ _ (lsN 85 57) { tmps := (c100 (c100 (c100 (c10 (c1 (c1 (c1 (c1 (c1 ([])))))))))).toArray, defers := [] } _); delta c100 c10 c1
  refine wpAnyH_take (i := 58) (oi := oND_58) (v := ?_) rfl oND_s oND_f57 oND_r57 (fun _ _ _ h => h) (Or.inl ⟨by rfl, ?_⟩) (by assumption) ?_
  rotate_left
  · (intro w hSw; (try dsimp only at hSw); delta oND_58; go_simp; (try with_reducible rfl))
  (show wpAnyH _ _ oND _ _ _ #[true, true, true, true, true, true, true, true, true, true, true, true, true, true, true, true, true, true, true, true, true, true, true, true, true, true, true, true, true, true, true, true, true, true, true, true, true, true, true, true, true, true, true, true, true, true, true, true, true, true, true, true, true, true, true, true, true, false, true, false, false, false, false, false, false, false, false, false, false, false, false, false, false, false, false, false, false, false, false, false, false, false, false, false, false] { tmps := (c100 (c100 (c100 (c10 (c1 (c1 (c1 (c1 (c1 ([])))))))))).toArray, defers := [] } _); delta c100 c10 c1
  refine wpAnyH_ready (rs := [57]) oND_c58 (by simp) ?_
  refine AllReadyH.cons (o := oND_57) rfl (fun K hK => ?_) AllReadyH.nil
  delta oND_57
  rw [if_pos (by rfl)]
  go_simp
  (go_at_call 16; ((with_reducible refine (HC21.out _ ?hq).mono ?_); (case hq => exact ((((((((((((((((((((((Kp.refl Wb).drew.step hbD_0).step hbD_1).step hbD_2).step hbD_3).step hbD_4).step hbD_5).step hbD_6).step hbD_7).step hbD_8).step hbD_9).step hbD_10).step hbD_11).step hbD_12).step hbD_13).step hbD_14).step hbD_15).step hbD_16).step hbD_17).step hbD_18).step hbD_19).step hbD_20)); rintro x wD_21 ⟨vD_21, rfl, MD_21, hbD_21⟩; obtain ⟨pD_21, nD_21, cD_21, eD_21, gD_21, rfl⟩ := NumB.form MD_21))
  go_wp2_with fail
  refine hK.out _ _ ?_ (fun hH22 => ?_)
  · with_reducible exact sv3 (((((((((((((((((((((((Kp.refl Wb).drew.step hbD_0).step hbD_1).step hbD_2).step hbD_3).step hbD_4).step hbD_5).step hbD_6).step hbD_7).step hbD_8).step hbD_9).step hbD_10).step hbD_11).step hbD_12).step hbD_13).step hbD_14).step hbD_15).step hbD_16).step hbD_17).step hbD_18).step hbD_19).step hbD_20).step hbD_21) qo0 qo1 qo2 qo3 ql0 ql1 ql2 ql3 qb0 qb1 qb2 qb3
  clear hK K hH21
  (show wpAnyH _ _ oND _ _ _ (lsN 85 59) { tmps := (c100 (c100 (c100 (c10 (c1 (c1 (c1 (c1 (c1 ([])))))))))).toArray, defers := [] } _); delta c100 c10 c1
  refine wpAnyH_ready (rs := [59]) oND_c59 (by simp) ?_
  refine AllReadyH.cons (o := oND_59) rfl (fun K hK => ?_) AllReadyH.nil
  delta oND_59
  rw [if_pos (by rfl)]
  go_simp
  (go_at_call 16; ((with_reducible refine (HC22.out _ ?hq).mono ?_); (case hq => exact (((((((((((((((((((((((Kp.refl Wb).drew.step hbD_0).step hbD_1).step hbD_2).step hbD_3).step hbD_4).step hbD_5).step hbD_6).step hbD_7).step hbD_8).step hbD_9).step hbD_10).step hbD_11).step hbD_12).step hbD_13).step hbD_14).step hbD_15).step hbD_16).step hbD_17).step hbD_18).step hbD_19).step hbD_20).step hbD_21)); rintro x wD_22 ⟨vD_22, rfl, MD_22, hbD_22⟩; obtain ⟨pD_22, nD_22, cD_22, eD_22, gD_22, rfl⟩ := NumB.form MD_22))
  go_wp2_with fail
  refine hK.out _ _ ?_ (fun hH23 => ?_)
  · with_reducible exact sv3 ((((((((((((((((((((((((Kp.refl Wb).drew.step hbD_0).step hbD_1).step hbD_2).step hbD_3).step hbD_4).step hbD_5).step hbD_6).step hbD_7).step hbD_8).step hbD_9).step hbD_10).step hbD_11).step hbD_12).step hbD_13).step hbD_14).step hbD_15).step hbD_16).step hbD_17).step hbD_18).step hbD_19).step hbD_20).step hbD_21).step hbD_22) qo0 qo1 qo2 qo3 ql0 ql1 ql2 ql3 qb0 qb1 qb2 qb3
  clear hK K hH22
  (show wpAnyH _ _ oND _ _ _ (lsN 85 60) { tmps := (c100 (c100 (c100 (c10 (c1 (c1 (c1 (c1 (c1 ([])))))))))).toArray, defers := [] } _); delta c100 c10 c1
  as_aux_lemma =>
  refine wpAnyH_ready (rs := [60]) oND_c60 (by simp) ?_
  refine AllReadyH.cons (o := oND_60) rfl (fun K hK => ?_) AllReadyH.nil
  delta oND_60
  rw [if_pos (by rfl)]
  go_simp
  (go_at_call 12; ((with_reducible refine (HC23.out _ ?hq _ ?ha0 _ ?ha1).mono ?_); (case hq => exact ((((((((((((((((((((((((Kp.refl Wb).drew.step hbD_0).step hbD_1).step hbD_2).step hbD_3).step hbD_4).step hbD_5).step hbD_6).step hbD_7).step hbD_8).step hbD_9).step hbD_10).step hbD_11).step hbD_12).step hbD_13).step hbD_14).step hbD_15).step hbD_16).step hbD_17).step hbD_18).step hbD_19).step hbD_20).step hbD_21).step hbD_22)); (case ha0 => exact (MD_21.keep hbD_22)); (case ha1 => exact MD_22); rintro x wD_23 ⟨vD_23, rfl, MD_23, hbD_23⟩; obtain ⟨pD_23, nD_23, cD_23, eD_23, gD_23, rfl⟩ := NumB.form MD_23))
  go_wp2_with fail
  refine hK.out _ _ ?_ (fun hH24 => ?_)
  · with_reducible exact sv3 (((((((((((((((((((((((((Kp.refl Wb).drew.step hbD_0).step hbD_1).step hbD_2).step hbD_3).step hbD_4).step hbD_5).step hbD_6).step hbD_7).step hbD_8).step hbD_9).step hbD_10).step hbD_11).step hbD_12).step hbD_13).step hbD_14).step hbD_15).step hbD_16).step hbD_17).step hbD_18).step hbD_19).step hbD_20).step hbD_21).step hbD_22).step hbD_23) qo0 qo1 qo2 qo3 ql0 ql1 ql2 ql3 qb0 qb1 qb2 qb3
  clear hK K hH23
  (show wpAnyH _ _ oND _ _ _ (lsN 85 61) { tmps := (c100 (c100 (c100 (c10 (c1 (c1 (c1 (c1 (c1 ([])))))))))).toArray, defers := [] } _); delta c100 c10 c1
  refine wpAnyH_ready (rs := [61]) oND_c61 (by simp) ?_
  refine AllReadyH.cons (o := oND_61) rfl (fun K hK => ?_) AllReadyH.nil
  delta oND_61
  rw [if_pos (by rfl)]
  go_simp
  (go_at_call 19; ((with_reducible refine (HC24.out _ ?hq _ ?ha0).mono ?_); (case hq => exact (((((((((((((((((((((((((Kp.refl Wb).drew.step hbD_0).step hbD_1).step hbD_2).step hbD_3).step hbD_4).step hbD_5).step hbD_6).step hbD_7).step hbD_8).step hbD_9).step hbD_10).step hbD_11).step hbD_12).step hbD_13).step hbD_14).step hbD_15).step hbD_16).step hbD_17).step hbD_18).step hbD_19).step hbD_20).step hbD_21).step hbD_22).step hbD_23)); (case ha0 => exact MD_23); rintro x wD_24 ⟨fD_24, rfl, hfD_24, hbD_24⟩; have oD_24 := FloOf.eq hfD_24 flo_max; clear hfD_24))
  go_wp2_with fail
  refine hK.out _ _ ?_ (fun hH25 => ?_)
  · with_reducible exact sv3 ((((((((((((((((((((((((((Kp.refl Wb).drew.step hbD_0).step hbD_1).step hbD_2).step hbD_3).step hbD_4).step hbD_5).step hbD_6).step hbD_7).step hbD_8).step hbD_9).step hbD_10).step hbD_11).step hbD_12).step hbD_13).step hbD_14).step hbD_15).step hbD_16).step hbD_17).step hbD_18).step hbD_19).step hbD_20).step hbD_21).step hbD_22).step hbD_23).step hbD_24) qo0 qo1 qo2 qo3 ql0 ql1 ql2 ql3 qb0 qb1 qb2 qb3
  clear hK K hH24
  (show wpAnyH _ _ oND _ _ _ (lsN 85 62) { tmps := (c100 (c100 (c100 (c10 (c1 (c1 (c1 (c1 (c1 ([])))))))))).toArray, defers := [] } _); delta c100 c10 c1
  refine wpAnyH_take (i := 62) (oi := oND_62) (v := ?_) rfl oND_s oND_f62 oND_r62 (fun _ _ _ h => h) (Or.inl ⟨by rfl, ?_⟩) (by assumption) ?_
  rotate_left
  · (intro w hSw; (try dsimp only at hSw); delta oND_62; go_simp; (try with_reducible rfl))
  (show wpAnyH _ _ oND _ _ _ (lsN 85 63) { tmps := (c100 (c100 (c100 (c10 (c1 (c1 (c1 (c1 (c1 ([])))))))))).toArray, defers := [] } _); delta c100 c10 c1
  refine wpAnyH_take (i := 63) (oi := oND_63) (v := ?_) rfl oND_s oND_f63 oND_r63 (fun _ _ _ h => h) (Or.inl ⟨by rfl, ?_⟩) (by assumption) ?_
  rotate_left
  · (intro w hSw; (try dsimp only at hSw); delta oND_63; go_simp; (try with_reducible rfl))
  (show wpAnyH _ _ oND _ _ _ (lsN 85 64) { tmps := (c100 (c100 (c100 (c10 (c1 (c1 (c1 (c1 (c1 ([])))))))))).toArray, defers := [] } _); delta c100 c10 c1
  refine wpAnyH_take (i := 64) (oi := oND_64) (v := ?_) rfl oND_s oND_f64 oND_r64 (fun _ _ _ h => h) (Or.inl ⟨by rfl, ?_⟩) (by assumption) ?_
  rotate_left
  · (intro w hSw; (try dsimp only at hSw); delta oND_64; go_simp; (try with_reducible rfl))
  (show wpAnyH _ _ oND _ _ _ (lsN 85 65) { tmps := (c100 (c100 (c100 (c10 (c1 (c1 (c1 (c1 (c1 ([])))))))))).toArray, defers := [] } _); delta c100 c10 c1
  refine wpAnyH_take (i := 65) (oi := oND_65) (v := ?_) rfl oND_s oND_f65 oND_r65 (fun _ _ _ h => h) (Or.inl ⟨by rfl, ?_⟩) (by assumption) ?_
  rotate_left
  · (intro w hSw; (try dsimp only at hSw); delta oND_65; go_simp; (try with_reducible rfl))
  (show wpAnyH _ _ oND _ _ _ (lsN 85 66) { tmps := (c100 (c100 (c100 (c10 (c1 (c1 (c1 (c1 (c1 ([])))))))))).toArray, defers := [] } _); delta c100 c10 c1
  refine wpAnyH_take (i := 67) (oi := oND_67) (v := ?_) rfl oND_s oND_f66 oND_r66 (fun _ _ _ h => h) (Or.inl ⟨by rfl, ?_⟩) (by assumption) ?_
  rotate_left
  · (intro w hSw; (try dsimp only at hSw); delta oND_67; go_simp; (try with_reducible rfl))
  (show wpAnyH _ _ oND _ _ _ #[true, true, true, true, true, true, true, true, true, true, true, true, true, true, true, true, true, true, true, true, true, true, true, true, true, true, true, true, true, true, true, true, true, true, true, true, true, true, true, true, true, true, true, true, true, true, true, true, true, true, true, true, true, true, true, true, true, true, true, true, true, true, true, true, true, true, false, true, false, false, false, false, false, false, false, false, false, false, false, false, false, false, false, false, false] { tmps := (c100 (c100 (c100 (c10 (c1 (c1 (c1 (c1 (c1 ([])))))))))).toArray, defers := [] } _); delta c100 c10 c1
  refine wpAnyH_ready (rs := [66]) oND_c67 (by simp) ?_
  refine AllReadyH.cons (o := oND_66) rfl (fun K hK => ?_) AllReadyH.nil
  delta oND_66
  rw [if_pos (by rfl)]
  go_simp
  (go_at_call 16; ((with_reducible refine (HC25.out _ ?hq).mono ?_); (case hq => exact ((((((((((((((((((((((((((Kp.refl Wb).drew.step hbD_0).step hbD_1).step hbD_2).step hbD_3).step hbD_4).step hbD_5).step hbD_6).step hbD_7).step hbD_8).step hbD_9).step hbD_10).step hbD_11).step hbD_12).step hbD_13).step hbD_14).step hbD_15).step hbD_16).step hbD_17).step hbD_18).step hbD_19).step hbD_20).step hbD_21).step hbD_22).step hbD_23).step hbD_24)); rintro x wD_25 ⟨vD_25, rfl, MD_25, hbD_25⟩; obtain ⟨pD_25, nD_25, cD_25, eD_25, gD_25, rfl⟩ := NumB.form MD_25))
  go_wp2_with fail
  refine hK.out _ _ ?_ (fun hH26 => ?_)
  · with_reducible exact sv3 (((((((((((((((((((((((((((Kp.refl Wb).drew.step hbD_0).step hbD_1).step hbD_2).step hbD_3).step hbD_4).step hbD_5).step hbD_6).step hbD_7).step hbD_8).step hbD_9).step hbD_10).step hbD_11).step hbD_12).step hbD_13).step hbD_14).step hbD_15).step hbD_16).step hbD_17).step hbD_18).step hbD_19).step hbD_20).step hbD_21).step hbD_22).step hbD_23).step hbD_24).step hbD_25) qo0 qo1 qo2 qo3 ql0 ql1 ql2 ql3 qb0 qb1 qb2 qb3
  clear hK K hH25
  (show wpAnyH _ _ oND _ _ _ (lsN 85 68) { tmps := (c100 (c100 (c100 (c10 (c1 (c1 (c1 (c1 (c1 ([])))))))))).toArray, defers := [] } _); delta c100 c10 c1
  refine wpAnyH_ready (rs := [68]) oND_c68 (by simp) ?_
  refine AllReadyH.cons (o := oND_68) rfl (fun K hK => ?_) AllReadyH.nil
  delta oND_68
  rw [if_pos (by rfl)]
  go_simp
  (go_at_call 16; ((with_reducible refine (HC26.out _ ?hq).mono ?_); (case hq => exact (((((((((((((((((((((((((((Kp.refl Wb).drew.step hbD_0).step hbD_1).step hbD_2).step hbD_3).step hbD_4).step hbD_5).step hbD_6).step hbD_7).step hbD_8).step hbD_9).step hbD_10).step hbD_11).step hbD_12).step hbD_13).step hbD_14).step hbD_15).step hbD_16).step hbD_17).step hbD_18).step hbD_19).step hbD_20).step hbD_21).step hbD_22).step hbD_23).step hbD_24).step hbD_25)); rintro x wD_26 ⟨vD_26, rfl, MD_26, hbD_26⟩; obtain ⟨pD_26, nD_26, cD_26, eD_26, gD_26, rfl⟩ := NumB.form MD_26))
  go_wp2_with fail
  refine hK.out _ _ ?_ (fun hH27 => ?_)
  · with_reducible exact sv3 ((((((((((((((((((((((((((((Kp.refl Wb).drew.step hbD_0).step hbD_1).step hbD_2).step hbD_3).step hbD_4).step hbD_5).step hbD_6).step hbD_7).step hbD_8).step hbD_9).step hbD_10).step hbD_11).step hbD_12).step hbD_13).step hbD_14).step hbD_15).step hbD_16).step hbD_17).step hbD_18).step hbD_19).step hbD_20).step hbD_21).step hbD_22).step hbD_23).step hbD_24).step hbD_25).step hbD_26) qo0 qo1 qo2 qo3 ql0 ql1 ql2 ql3 qb0 qb1 qb2 qb3
  clear hK K hH26
  (show wpAnyH _ _ oND _ _ _ (lsN 85 69) { tmps := (c100 (c100 (c100 (c10 (c1 (c1 (c1 (c1 (c1 ([])))))))))).toArray, defers := [] } _); delta c100 c10 c1
  refine wpAnyH_ready (rs := [69]) oND_c69 (by simp) ?_
  refine AllReadyH.cons (o := oND_69) rfl (fun K hK => ?_) AllReadyH.nil
  delta oND_69
  rw [if_pos (by rfl)]
  go_simp
  (go_at_call 12; ((with_reducible refine (HC27.out _ ?hq _ ?ha0 _ ?ha1).mono ?_); (case hq => exact ((((((((((((((((((((((((((((Kp.refl Wb).drew.step hbD_0).step hbD_1).step hbD_2).step hbD_3).step hbD_4).step hbD_5).step hbD_6).step hbD_7).step hbD_8).step hbD_9).step hbD_10).step hbD_11).step hbD_12).step hbD_13).step hbD_14).step hbD_15).step hbD_16).step hbD_17).step hbD_18).step hbD_19).step hbD_20).step hbD_21).step hbD_22).step hbD_23).step hbD_24).step hbD_25).step hbD_26)); (case ha0 => exact (MD_25.keep hbD_26)); (case ha1 => exact MD_26); rintro x wD_27 ⟨vD_27, rfl, MD_27, hbD_27⟩; obtain ⟨pD_27, nD_27, cD_27, eD_27, gD_27, rfl⟩ := NumB.form MD_27))
  go_wp2_with fail
  refine hK.out _ _ ?_ (fun hH28 => ?_)
  · with_reducible exact sv3 (((((((((((((((((((((((((((((Kp.refl Wb).drew.step hbD_0).step hbD_1).step hbD_2).step hbD_3).step hbD_4).step hbD_5).step hbD_6).step hbD_7).step hbD_8).step hbD_9).step hbD_10).step hbD_11).step hbD_12).step hbD_13).step hbD_14).step hbD_15).step hbD_16).step hbD_17).step hbD_18).step hbD_19).step hbD_20).step hbD_21).step hbD_22).step hbD_23).step hbD_24).step hbD_25).step hbD_26).step hbD_27) qo0 qo1 qo2 qo3 ql0 ql1 ql2 ql3 qb0 qb1 qb2 qb3
  clear hK K hH27
  (show wpAnyH _ _ oND _ _ _ (lsN 85 70) { tmps := (c100 (c100 (c100 (c10 (c1 (c1 (c1 (c1 (c1 ([])))))))))).toArray, defers := [] } _); delta c100 c10 c1
  refine wpAnyH_ready (rs := [70]) oND_c70 (by simp) ?_
  refine AllReadyH.cons (o := oND_70) rfl (fun K hK => ?_) AllReadyH.nil
  delta oND_70
  rw [if_pos (by rfl)]
  go_simp
  (go_at_call 19; ((with_reducible refine (HC28.out _ ?hq _ ?ha0).mono ?_); (case hq => exact (((((((((((((((((((((((((((((Kp.refl Wb).drew.step hbD_0).step hbD_1).step hbD_2).step hbD_3).step hbD_4).step hbD_5).step hbD_6).step hbD_7).step hbD_8).step hbD_9).step hbD_10).step hbD_11).step hbD_12).step hbD_13).step hbD_14).step hbD_15).step hbD_16).step hbD_17).step hbD_18).step hbD_19).step hbD_20).step hbD_21).step hbD_22).step hbD_23).step hbD_24).step hbD_25).step hbD_26).step hbD_27)); (case ha0 => exact MD_27); rintro x wD_28 ⟨rfl, hbD_28⟩))
  go_wp2_with fail
  refine hK.out _ _ ?_ (fun hH29 => ?_)
  · with_reducible exact sv3 ((((((((((((((((((((((((((((((Kp.refl Wb).drew.step hbD_0).step hbD_1).step hbD_2).step hbD_3).step hbD_4).step hbD_5).step hbD_6).step hbD_7).step hbD_8).step hbD_9).step hbD_10).step hbD_11).step hbD_12).step hbD_13).step hbD_14).step hbD_15).step hbD_16).step hbD_17).step hbD_18).step hbD_19).step hbD_20).step hbD_21).step hbD_22).step hbD_23).step hbD_24).step hbD_25).step hbD_26).step hbD_27).step hbD_28) qo0 qo1 qo2 qo3 ql0 ql1 ql2 ql3 qb0 qb1 qb2 qb3
  clear hK K hH28
  (show wpAnyH _ _ oND _ _ _ (lsN 85 71) { tmps := (c100 (c100 (c100 (c10 (c1 (c1 (c1 (c1 (c1 ([])))))))))).toArray, defers := [] } _); delta c100 c10 c1
  refine wpAnyH_ready (rs := [71]) oND_c71 (by simp) ?_
  refine AllReadyH.cons (o := oND_71) rfl (fun K hK => ?_) AllReadyH.nil
  delta oND_71
  rw [if_pos (by rfl)]
  go_simp
  (go_at_call 25; ((with_reducible refine (HC29.out _ ?hq).mono ?_); (case hq => exact ((((((((((((((((((((((((((((((Kp.refl Wb).drew.step hbD_0).step hbD_1).step hbD_2).step hbD_3).step hbD_4).step hbD_5).step hbD_6).step hbD_7).step hbD_8).step hbD_9).step hbD_10).step hbD_11).step hbD_12).step hbD_13).step hbD_14).step hbD_15).step hbD_16).step hbD_17).step hbD_18).step hbD_19).step hbD_20).step hbD_21).step hbD_22).step hbD_23).step hbD_24).step hbD_25).step hbD_26).step hbD_27).step hbD_28)); rintro x wD_29 ⟨rfl, hbD_29⟩))
  go_wp2_with fail
  refine hK.out _ _ ?_ (fun hH30 => ?_)
  · with_reducible exact sv3 (((((((((((((((((((((((((((((((Kp.refl Wb).drew.step hbD_0).step hbD_1).step hbD_2).step hbD_3).step hbD_4).step hbD_5).step hbD_6).step hbD_7).step hbD_8).step hbD_9).step hbD_10).step hbD_11).step hbD_12).step hbD_13).step hbD_14).step hbD_15).step hbD_16).step hbD_17).step hbD_18).step hbD_19).step hbD_20).step hbD_21).step hbD_22).step hbD_23).step hbD_24).step hbD_25).step hbD_26).step hbD_27).step hbD_28).step hbD_29) qo0 qo1 qo2 qo3 ql0 ql1 ql2 ql3 qb0 qb1 qb2 qb3
  clear hK K hH29
  (show wpAnyH _ _ oND _ _ _ (lsN 85 72) { tmps := (c100 (c100 (c100 (c10 (c1 (c1 (c1 (c1 (c1 ([])))))))))).toArray, defers := [] } _); delta c100 c10 c1
  as_aux_lemma =>
  refine wpAnyH_take (i := 72) (oi := oND_72) (v := ?_) rfl oND_s oND_f72 oND_r72 (fun _ _ _ h => h) (Or.inl ⟨by rfl, ?_⟩) (by assumption) ?_
  rotate_left
  · (intro w hSw; (try dsimp only at hSw); delta oND_72; go_simp; (try with_reducible rfl))
  (show wpAnyH _ _ oND _ _ _ (lsN 85 73) { tmps := (c100 (c100 (c100 (c10 (c1 (c1 (c1 (c1 (c1 ([])))))))))).toArray, defers := [] } _); delta c100 c10 c1
  refine wpAnyH_take (i := 73) (oi := oND_73) (v := ?_) rfl oND_s oND_f73 oND_r73 (fun _ _ _ h => h) (Or.inl ⟨by rfl, ?_⟩) (by assumption) ?_
  rotate_left
  · (intro w hSw; (try dsimp only at hSw); delta oND_73; go_simp; (try with_reducible rfl))
  (show wpAnyH _ _ oND _ _ _ (lsN 85 74) { tmps := (c100 (c100 (c100 (c10 (c1 (c1 (c1 (c1 (c1 ([])))))))))).toArray, defers := [] } _); delta c100 c10 c1
  refine wpAnyH_take (i := 74) (oi := oND_74) (v := ?_) rfl oND_s oND_f74 oND_r74 (fun _ _ _ h => h) (Or.inl ⟨by rfl, ?_⟩) (by assumption) ?_
  rotate_left
  · (intro w hSw; (try dsimp only at hSw); delta oND_74; go_simp; (try with_reducible rfl))
  (show wpAnyH _ _ oND _ _ _ (lsN 85 75) { tmps := (c100 (c100 (c100 (c10 (c1 (c1 (c1 (c1 (c1 ([])))))))))).toArray, defers := [] } _); delta c100 c10 c1
  refine wpAnyH_take (i := 76) (oi := oND_76) (v := ?_) rfl oND_s oND_f75 oND_r75 (fun _ _ _ h => h) (Or.inl ⟨by rfl, ?_⟩) (by assumption) ?_
  rotate_left
  · (intro w hSw; (try dsimp only at hSw); delta oND_76; go_simp; (try with_reducible rfl))
  (show wpAnyH _ _ oND _ _ _ #[true, true, true, true, true, true, true, true, true, true, true, true, true, true, true, true, true, true, true, true, true, true, true, true, true, true, true, true, true, true, true, true, true, true, true, true, true, true, true, true, true, true, true, true, true, true, true, true, true, true, true, true, true, true, true, true, true, true, true, true, true, true, true, true, true, true, true, true, true, true, true, true, true, true, true, false, true, false, false, false, false, false, false, false, false] { tmps := (c100 (c100 (c100 (c10 (c1 (c1 (c1 (c1 (c1 ([])))))))))).toArray, defers := [] } _); delta c100 c10 c1
  refine wpAnyH_take (i := 79) (oi := oND_79) (v := ?_) rfl oND_s oND_f76 oND_r76 (fun _ _ _ h => h) (Or.inl ⟨by rfl, ?_⟩) (by assumption) ?_
  rotate_left
  · (intro w hSw; (try dsimp only at hSw); delta oND_79; go_simp; (try with_reducible rfl))
  (show wpAnyH _ _ oND _ _ _ #[true, true, true, true, true, true, true, true, true, true, true, true, true, true, true, true, true, true, true, true, true, true, true, true, true, true, true, true, true, true, true, true, true, true, true, true, true, true, true, true, true, true, true, true, true, true, true, true, true, true, true, true, true, true, true, true, true, true, true, true, true, true, true, true, true, true, true, true, true, true, true, true, true, true, true, false, true, false, false, true, false, false, false, false, false] { tmps := (c100 (c100 (c100 (c10 (c1 (c1 (c1 (c1 (c1 ([])))))))))).toArray, defers := [] } _); delta c100 c10 c1
  refine wpAnyH_ready (rs := [75]) oND_c77 (by simp) ?_
  refine AllReadyH.cons (o := oND_75) rfl (fun K hK => ?_) AllReadyH.nil
  delta oND_75
  rw [if_pos (by rfl)]
  go_simp
  (go_at_call 16; ((with_reducible refine (HC30.out _ ?hq).mono ?_); (case hq => exact (((((((((((((((((((((((((((((((Kp.refl Wb).drew.step hbD_0).step hbD_1).step hbD_2).step hbD_3).step hbD_4).step hbD_5).step hbD_6).step hbD_7).step hbD_8).step hbD_9).step hbD_10).step hbD_11).step hbD_12).step hbD_13).step hbD_14).step hbD_15).step hbD_16).step hbD_17).step hbD_18).step hbD_19).step hbD_20).step hbD_21).step hbD_22).step hbD_23).step hbD_24).step hbD_25).step hbD_26).step hbD_27).step hbD_28).step hbD_29)); rintro x wD_30 ⟨vD_30, rfl, MD_30, hbD_30⟩; obtain ⟨pD_30, nD_30, cD_30, eD_30, gD_30, rfl⟩ := NumB.form MD_30))
  go_wp2_with fail
  refine hK.out _ _ ?_ (fun hH31 => ?_)
  · with_reducible exact sv3 ((((((((((((((((((((((((((((((((Kp.refl Wb).drew.step hbD_0).step hbD_1).step hbD_2).step hbD_3).step hbD_4).step hbD_5).step hbD_6).step hbD_7).step hbD_8).step hbD_9).step hbD_10).step hbD_11).step hbD_12).step hbD_13).step hbD_14).step hbD_15).step hbD_16).step hbD_17).step hbD_18).step hbD_19).step hbD_20).step hbD_21).step hbD_22).step hbD_23).step hbD_24).step hbD_25).step hbD_26).step hbD_27).step hbD_28).step hbD_29).step hbD_30) qo0 qo1 qo2 qo3 ql0 ql1 ql2 ql3 qb0 qb1 qb2 qb3
  clear hK K hH30
  (show wpAnyH _ _ oND _ _ _ #[true, true, true, true, true, true, true, true, true, true, true, true, true, true, true, true, true, true, true, true, true, true, true, true, true, true, true, true, true, true, true, true, true, true, true, true, true, true, true, true, true, true, true, true, true, true, true, true, true, true, true, true, true, true, true, true, true, true, true, true, true, true, true, true, true, true, true, true, true, true, true, true, true, true, true, true, true, false, false, true, false, false, false, false, false] { tmps := (c100 (c100 (c100 (c10 (c1 (c1 (c1 (c1 (c1 ([])))))))))).toArray, defers := [] } _); delta c100 c10 c1
  refine wpAnyH_ready (rs := [77]) oND_c78 (by simp) ?_
  refine AllReadyH.cons (o := oND_77) rfl (fun K hK => ?_) AllReadyH.nil
  delta oND_77
  rw [if_pos (by rfl)]
  go_simp
  (go_at_call 16; ((with_reducible refine (HC31.out _ ?hq).mono ?_); (case hq => exact ((((((((((((((((((((((((((((((((Kp.refl Wb).drew.step hbD_0).step hbD_1).step hbD_2).step hbD_3).step hbD_4).step hbD_5).step hbD_6).step hbD_7).step hbD_8).step hbD_9).step hbD_10).step hbD_11).step hbD_12).step hbD_13).step hbD_14).step hbD_15).step hbD_16).step hbD_17).step hbD_18).step hbD_19).step hbD_20).step hbD_21).step hbD_22).step hbD_23).step hbD_24).step hbD_25).step hbD_26).step hbD_27).step hbD_28).step hbD_29).step hbD_30)); rintro x wD_31 ⟨vD_31, rfl, MD_31, hbD_31⟩; obtain ⟨pD_31, nD_31, cD_31, eD_31, gD_31, rfl⟩ := NumB.form MD_31))
  go_wp2_with fail
  refine hK.out _ _ ?_ (fun hH32 => ?_)
  · with_reducible exact sv3 (((((((((((((((((((((((((((((((((Kp.refl Wb).drew.step hbD_0).step hbD_1).step hbD_2).step hbD_3).step hbD_4).step hbD_5).step hbD_6).step hbD_7).step hbD_8).step hbD_9).step hbD_10).step hbD_11).step hbD_12).step hbD_13).step hbD_14).step hbD_15).step hbD_16).step hbD_17).step hbD_18).step hbD_19).step hbD_20).step hbD_21).step hbD_22).step hbD_23).step hbD_24).step hbD_25).step hbD_26).step hbD_27).step hbD_28).step hbD_29).step hbD_30).step hbD_31) qo0 qo1 qo2 qo3 ql0 ql1 ql2 ql3 qb0 qb1 qb2 qb3
  clear hK K hH31
  (show wpAnyH _ _ oND _ _ _ #[true, true, true, true, true, true, true, true, true, true, true, true, true, true, true, true, true, true, true, true, true, true, true, true, true, true, true, true, true, true, true, true, true, true, true, true, true, true, true, true, true, true, true, true, true, true, true, true, true, true, true, true, true, true, true, true, true, true, true, true, true, true, true, true, true, true, true, true, true, true, true, true, true, true, true, true, true, true, false, true, false, false, false, false, false] { tmps := (c100 (c100 (c100 (c10 (c1 (c1 (c1 (c1 (c1 ([])))))))))).toArray, defers := [] } _); delta c100 c10 c1
  refine wpAnyH_ready (rs := [78]) oND_c79 (by simp) ?_
  refine AllReadyH.cons (o := oND_78) rfl (fun K hK => ?_) AllReadyH.nil
  delta oND_78
  rw [if_pos (by rfl)]
  go_simp
  (go_at_call 12; ((with_reducible refine (HC32.out _ ?hq _ ?ha0 _ ?ha1).mono ?_); (case hq => exact (((((((((((((((((((((((((((((((((Kp.refl Wb).drew.step hbD_0).step hbD_1).step hbD_2).step hbD_3).step hbD_4).step hbD_5).step hbD_6).step hbD_7).step hbD_8).step hbD_9).step hbD_10).step hbD_11).step hbD_12).step hbD_13).step hbD_14).step hbD_15).step hbD_16).step hbD_17).step hbD_18).step hbD_19).step hbD_20).step hbD_21).step hbD_22).step hbD_23).step hbD_24).step hbD_25).step hbD_26).step hbD_27).step hbD_28).step hbD_29).step hbD_30).step hbD_31)); (case ha0 => exact (MD_30.keep hbD_31)); (case ha1 => exact MD_31); rintro x wD_32 ⟨vD_32, rfl, MD_32, hbD_32⟩; obtain ⟨pD_32, nD_32, cD_32, eD_32, gD_32, rfl⟩ := NumB.form MD_32))
  go_wp2_with fail
  refine hK.out _ _ ?_ (fun hH33 => ?_)
  · with_reducible exact sv3 ((((((((((((((((((((((((((((((((((Kp.refl Wb).drew.step hbD_0).step hbD_1).step hbD_2).step hbD_3).step hbD_4).step hbD_5).step hbD_6).step hbD_7).step hbD_8).step hbD_9).step hbD_10).step hbD_11).step hbD_12).step hbD_13).step hbD_14).step hbD_15).step hbD_16).step hbD_17).step hbD_18).step hbD_19).step hbD_20).step hbD_21).step hbD_22).step hbD_23).step hbD_24).step hbD_25).step hbD_26).step hbD_27).step hbD_28).step hbD_29).step hbD_30).step hbD_31).step hbD_32) qo0 qo1 qo2 qo3 ql0 ql1 ql2 ql3 qb0 qb1 qb2 qb3
  clear hK K hH32
  (show wpAnyH _ _ oND _ _ _ (lsN 85 80) { tmps := (c100 (c100 (c100 (c10 (c1 (c1 (c1 (c1 (c1 ([])))))))))).toArray, defers := [] } _); delta c100 c10 c1
  refine wpAnyH_ready (rs := [80]) oND_c80 (by simp) ?_
  refine AllReadyH.cons (o := oND_80) rfl (fun K hK => ?_) AllReadyH.nil
  delta oND_80
  rw [if_pos (by rfl)]
  go_simp
  (go_at_call 12; ((with_reducible refine (HC33.out _ ?hq _ ?ha0).mono ?_); (case hq => exact ((((((((((((((((((((((((((((((((((Kp.refl Wb).drew.step hbD_0).step hbD_1).step hbD_2).step hbD_3).step hbD_4).step hbD_5).step hbD_6).step hbD_7).step hbD_8).step hbD_9).step hbD_10).step hbD_11).step hbD_12).step hbD_13).step hbD_14).step hbD_15).step hbD_16).step hbD_17).step hbD_18).step hbD_19).step hbD_20).step hbD_21).step hbD_22).step hbD_23).step hbD_24).step hbD_25).step hbD_26).step hbD_27).step hbD_28).step hbD_29).step hbD_30).step hbD_31).step hbD_32)); (case ha0 => exact MD_32); rintro x wD_33 ⟨vD_33, rfl, MD_33, hbD_33⟩; obtain ⟨pD_33, nD_33, cD_33, eD_33, gD_33, rfl⟩ := NumB.form MD_33))
  go_wp2_with fail
  refine hK.out _ _ ?_ (fun hH34 => ?_)
  · with_reducible exact sv3 (((((((((((((((((((((((((((((((((((Kp.refl Wb).drew.step hbD_0).step hbD_1).step hbD_2).step hbD_3).step hbD_4).step hbD_5).step hbD_6).step hbD_7).step hbD_8).step hbD_9).step hbD_10).step hbD_11).step hbD_12).step hbD_13).step hbD_14).step hbD_15).step hbD_16).step hbD_17).step hbD_18).step hbD_19).step hbD_20).step hbD_21).step hbD_22).step hbD_23).step hbD_24).step hbD_25).step hbD_26).step hbD_27).step hbD_28).step hbD_29).step hbD_30).step hbD_31).step hbD_32).step hbD_33) qo0 qo1 qo2 qo3 ql0 ql1 ql2 ql3 qb0 qb1 qb2 qb3
  clear hK K hH33
  (show wpAnyH _ _ oND _ _ _ (lsN 85 81) { tmps := (c100 (c100 (c100 (c10 (c1 (c1 (c1 (c1 (c1 ([])))))))))).toArray, defers := [] } _); delta c100 c10 c1
  refine wpAnyH_ready (rs := [81]) oND_c81 (by simp) ?_
  refine AllReadyH.cons (o := oND_81) rfl (fun K hK => ?_) AllReadyH.nil
  delta oND_81
  rw [if_pos (by rfl)]
  go_simp
  (go_at_call 19; ((with_reducible refine (HC34.out _ ?hq _ ?ha0).mono ?_); (case hq => exact (((((((((((((((((((((((((((((((((((Kp.refl Wb).drew.step hbD_0).step hbD_1).step hbD_2).step hbD_3).step hbD_4).step hbD_5).step hbD_6).step hbD_7).step hbD_8).step hbD_9).step hbD_10).step hbD_11).step hbD_12).step hbD_13).step hbD_14).step hbD_15).step hbD_16).step hbD_17).step hbD_18).step hbD_19).step hbD_20).step hbD_21).step hbD_22).step hbD_23).step hbD_24).step hbD_25).step hbD_26).step hbD_27).step hbD_28).step hbD_29).step hbD_30).step hbD_31).step hbD_32).step hbD_33)); (case ha0 => exact MD_33); rintro x wD_34 ⟨fD_34, rfl, hfD_34, hbD_34⟩; have oD_34 := FloOf.eq hfD_34 flo_just; clear hfD_34))
  go_wp2_with fail
  refine hK.out _ _ ?_ (fun hH35 => ?_)
  · with_reducible exact sv3 ((((((((((((((((((((((((((((((((((((Kp.refl Wb).drew.step hbD_0).step hbD_1).step hbD_2).step hbD_3).step hbD_4).step hbD_5).step hbD_6).step hbD_7).step hbD_8).step hbD_9).step hbD_10).step hbD_11).step hbD_12).step hbD_13).step hbD_14).step hbD_15).step hbD_16).step hbD_17).step hbD_18).step hbD_19).step hbD_20).step hbD_21).step hbD_22).step hbD_23).step hbD_24).step hbD_25).step hbD_26).step hbD_27).step hbD_28).step hbD_29).step hbD_30).step hbD_31).step hbD_32).step hbD_33).step hbD_34) qo0 qo1 qo2 qo3 ql0 ql1 ql2 ql3 qb0 qb1 qb2 qb3
  clear hK K hH34
  (show wpAnyH _ _ oND _ _ _ (lsN 85 82) { tmps := (c100 (c100 (c100 (c10 (c1 (c1 (c1 (c1 (c1 ([])))))))))).toArray, defers := [] } _); delta c100 c10 c1
  refine wpAnyH_take (i := 82) (oi := oND_82) (v := ?_) rfl oND_s oND_f82 oND_r82 (fun _ _ _ h => h) (Or.inl ⟨by rfl, ?_⟩) (by assumption) ?_
  rotate_left
  · (intro w hSw; (try dsimp only at hSw); delta oND_82; go_simp; (try with_reducible rfl))
  (show wpAnyH _ _ oND _ _ _ (lsN 85 83) { tmps := (c100 (c100 (c100 (c10 (c1 (c1 (c1 (c1 (c1 ([])))))))))).toArray, defers := [] } _); delta c100 c10 c1
  refine wpAnyH_take (i := 83) (oi := oND_83) (v := ?_) rfl oND_s oND_f83 oND_r83 (fun _ _ _ h => h) (Or.inl ⟨by rfl, ?_⟩) (by assumption) ?_
  rotate_left
  · (intro w hSw; (try dsimp only at hSw); delta oND_83; go_simp; (try with_reducible rfl))
  (show wpAnyH _ _ oND _ _ _ (lsN 85 84) { tmps := (c100 (c100 (c100 (c10 (c1 (c1 (c1 (c1 (c1 ([])))))))))).toArray, defers := [] } _); delta c100 c10 c1
  as_aux_lemma =>
  refine wpAnyH_take (i := 84) (oi := oND_84) (v := ?_) rfl oND_s oND_f84 oND_r84 (fun _ _ _ h => h) (Or.inl ⟨by rfl, ?_⟩) (by assumption) ?_
  rotate_left
  · (intro w hSw; (try dsimp only at hSw); delta oND_84; go_simp; (try with_reducible rfl))
  (show wpAnyH _ _ oND _ _ _ (lsN 85 85) { tmps := (c100 (c100 (c100 (c10 (c1 (c1 (c1 (c1 (c1 ([])))))))))).toArray, defers := [] } _); delta c100 c10 c1
  refine wpAnyH_done (by kernel_rfl) ?_ _
  clear hH35
  have KEND := ((((((((((((((((((((((((((((((((((((Kp.refl Wb).drew.step hbD_0).step hbD_1).step hbD_2).step hbD_3).step hbD_4).step hbD_5).step hbD_6).step hbD_7).step hbD_8).step hbD_9).step hbD_10).step hbD_11).step hbD_12).step hbD_13).step hbD_14).step hbD_15).step hbD_16).step hbD_17).step hbD_18).step hbD_19).step hbD_20).step hbD_21).step hbD_22).step hbD_23).step hbD_24).step hbD_25).step hbD_26).step hbD_27).step hbD_28).step hbD_29).step hbD_30).step hbD_31).step hbD_32).step hbD_33).step hbD_34)
  have HT := Lib.hid (HT.out.keep KEND.out)
  have HW := Lib.hid (bl_pack HW.out HW.out.size KEND.out)
  have No := Lib.hid (No.out.keep KEND.out)
  have Nl := Lib.hid (Nl.out.keep KEND.out)
  have Nb := Lib.hid (Nb.out.keep KEND.out)
  have Ko := Lib.hid (keep_block KEND.out Ko.out)
  have Kl := Lib.hid (keep_block KEND.out Kl.out)
  have Kb := Lib.hid (keep_block KEND.out Kb.out)
  clear HC0 HC1 HC2 HC3 HC4 HC5 HC6 HC7 HC8 HC9 HC10 HC11 HC12 HC13 HC14 HC15 HC16 HC17 HC18 HC19 HC20 HC21 HC22 HC23 HC24 HC25 HC26 HC27 HC28 HC29 HC30 HC31 HC32 HC33 HC34 qo0 qo1 qo2 qo3 ql0 ql1 ql2 ql3 qb0 qb1 qb2 qb3
  go_wp2_with fail
  go_ret
  exact ⟨rfl, HW.out⟩
end Go.Proofs.YtiiipgbfhcbjdaaDoor
