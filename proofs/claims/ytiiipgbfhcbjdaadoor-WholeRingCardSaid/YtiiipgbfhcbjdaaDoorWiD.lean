/- Package whole's statements: the helper works. (Printed by gen_WiD.py.) -/
import Derived.Test.YtiiipgbfhcbjdaaDoorWiC
import Derived.Test.YtiiipgbfhcbjdaaDoorWiE
namespace TV
set_option exponentiation.threshold 3000
theorem high_lit {q : Rat} {n : Nat} {l : Int} (h : n ≠ 0) (hq : q = (n : Rat) * (2 : Rat) ^ l) : HighOf q ((n.log2 : Int) + l) := by rw [hq]; exact Or.inl (nat_high h l)
theorem rs_pos {q : Rat} (h : 0 < q) : rs q = 1 := by unfold rs; rw [if_neg (by grind), if_neg (by grind)]
theorem rs_neg {q : Rat} (h : q < 0) : rs q = -1 := by unfold rs; rw [if_pos h]
end TV
namespace Go.Proofs.YtiiipgbfhcbjdaaDoor
open Go.RowKit TV
set_option linter.unusedVariables false
set_option exponentiation.threshold 3000

theorem fr_lit {x : Nat} {m l : Int} {k : Nat} (h : fv x = m * 2 ^ k) (hk : l = (k : Int) - 1074) : fr x = (m : Rat) * (2 : Rat) ^ l := by
  unfold fr
  rw [h, hk, Int.sub_eq_add_neg, two_zpow_add, two_zpow_nat]; push_cast; grind
/-- The float of a whole number's part. -/
theorem flo_lit {N u r : Nat} {q : Rat} (hN : 0 < N) (h : min (rndAt u N) inf = r) (hq : q = (N : Rat) * (2 : Rat) ^ (-1074 - (u : Int))) : FloOf q r := by
  have h1 := near_q (near_rnd u N)
  rw [h, ← hq] at h1
  have hp : 0 < q := by rw [hq]; exact Rat.mul_pos (by exact_mod_cast hN) (two_zpow_pos _)
  have := FloOf.mk false hp (by rw [← h]; exact min_inf_lt _) h1
  exact this
theorem works_e : fr 4602678819172646912 + fr 4598175219545276416 = fr 4604930618986332160 := by
  unfold fr; rw [← Rat.add_mul]; congr 1; rw [← Rat.intCast_add]; congr 1
theorem works_q : fr 4604930618986332160 = ((3 : Nat) : Rat) * (2 : Rat) ^ (-2 : Int) := fr_lit (m := 3) (k := 1072) (by decide) (by decide)
theorem works_a : FloOf (fr 4602678819172646912 + fr 4598175219545276416) 4604930618986332160 := by rw [works_e]; exact FloOf.fin (by decide) (by decide)
theorem works_h : HighOf (fr 4602678819172646912 + fr 4598175219545276416) (-1) := by rw [works_e]; exact high_lit (n := 3) (by decide) works_q
theorem works_l : LowOf (fr 4602678819172646912 + fr 4598175219545276416) (-2) := by rw [works_e]; exact ⟨3, rfl, works_q⟩
theorem works_f : fr 13848005904210853888 = ((3 : Int) : Rat) * ((-5 : Int) : Rat) := by
  rw [fr_lit (x := 13848005904210853888) (m := -15) (k := 1074) (l := 0) (by decide) (by decide), Rat.zpow_zero, Rat.mul_one, ← Rat.intCast_mul]; rfl
theorem works_b : FloOf (((3 : Int) : Rat) * ((-5 : Int) : Rat)) 13848005904210853888 := by rw [← works_f]; exact FloOf.fin (by decide) (by decide)
theorem works_s : rs (((3 : Int) : Rat) * ((-5 : Int) : Rat)) = -1 := by rw [← Rat.intCast_mul]; exact rs_neg (by decide)
theorem works_n : ((1 : Int) : Rat) * (2 : Rat) ^ (100 : Int) + ((1 : Int) : Rat) = (((2 ^ 100 + 1 : Nat) : Int) : Rat) := by
  have e : (2 : Rat) ^ (100 : Int) = ((2 ^ 100 : Nat) : Rat) := two_zpow_nat 100
  rw [e]
  generalize 2 ^ 100 = N
  show (1 : Rat) * (N : Rat) + 1 = ((N + 1 : Nat) : Rat)
  rw [Rat.natCast_add]; show (1 : Rat) * (N : Rat) + 1 = (N : Rat) + 1; grind
theorem works_c : FloOf (((1 : Int) : Rat) * (2 : Rat) ^ (100 : Int) + ((1 : Int) : Rat)) 5057542381537067008 := by
  rw [works_n]
  refine flo_lit (N := (2 ^ 100 + 1) * 2 ^ 1074) (u := 0) (by decide +kernel) (by decide +kernel) ?_
  rw [Rat.natCast_mul, ← two_zpow_nat 1074, Rat.mul_assoc, ← two_zpow_add]
  rw [show ((1074 : Nat) : Int) + (-1074 - ((0 : Nat) : Int)) = 0 by decide, Rat.zpow_zero, Rat.mul_one]; rfl
theorem works_k : rs (((1 : Int) : Rat) * (2 : Rat) ^ (100 : Int) + ((1 : Int) : Rat) - ((1 : Int) : Rat) * (2 : Rat) ^ (100 : Int)) = 1 := by
  apply rs_pos
  have : ((1 : Int) : Rat) = 1 := rfl
  rw [this]; grind
theorem works_o : LowOf (((1 : Int) : Rat) * (2 : Rat) ^ (100 : Int) + ((1 : Int) : Rat)) 0 := ⟨((2 ^ 100 + 1 : Nat) : Int), by decide, by rw [works_n, Rat.zpow_zero, Rat.mul_one]⟩

set_option maxRecDepth 100000 in
set_option maxHeartbeats 4000000 in
theorem works_calls {F : Nat} {w : World} (ht : Tb F w) :
    Calls Tryd.prog 8 #[] w fun x w' => x = .returned (.bool true) ∧ Below w.heap.size w w' := by
  have HT := Lib.hid ht
  have HW := Lib.hid (Below.refl w.heap.size w)
  clear ht
  go_enter Tryd.func8, Tryd.ntmps8
  go_wp2_with fail
  refine (ofB 4602678819172646912 (by decide) (by decide) HT.out).mono ?_
  rintro _ w1 ⟨vx, rfl, Mx, b1⟩
  have HT := Lib.hid (HT.out.keep b1)
  have HW := Lib.hid (bl_pack HW.out HW.out.size b1)
  have Nx := Lib.hid Mx
  clear b1 Mx
  go_wp2_with fail
  refine (ofB 4598175219545276416 (by decide) (by decide) HT.out).mono ?_
  rintro _ w2 ⟨vy, rfl, My, b2⟩
  have HT := Lib.hid (HT.out.keep b2)
  have HW := Lib.hid (bl_pack HW.out HW.out.size b2)
  have Nx := Lib.hid (Nx.out.keep b2)
  have Ny := Lib.hid My
  clear b2 My
  go_wp2_with fail
  refine (addB 1075 Nx.out Ny.out HT.out (by decide) (by decide) (by decide)).mono ?_
  rintro _ w3 ⟨va, rfl, Ma, b3⟩
  have HT := Lib.hid (HT.out.keep b3)
  have HW := Lib.hid (bl_pack HW.out HW.out.size b3)
  have Nx := Lib.hid (Nx.out.keep b3)
  have Ny := Lib.hid (Ny.out.keep b3)
  have Na := Lib.hid Ma
  clear b3 Ma
  obtain ⟨pa, na, ca, ea, ga, rfl⟩ := Na.out.form
  obtain ⟨Wa, hWa, Ba, -, Ja⟩ := box_res w3 (.cells #[.slice pa na ca, .int .i64 ea, .bool ga, .bool false] 29)
  go_upto_region 2 with (fail)
  rw [← hWa]
  clear hWa
  have HT := Lib.hid (HT.out.keep Ba)
  have HW := Lib.hid (bl_pack HW.out HW.out.size Ba)
  have Nx := Lib.hid (Nx.out.keep Ba)
  have Ny := Lib.hid (Ny.out.keep Ba)
  have Na := Lib.hid (Na.out.keep Ba)
  have Ka := Lib.hid Ja
  clear Ba Ja
  go_wp2_with fail
  refine (intB 3 (by decide) (by decide) HT.out).mono ?_
  rintro _ w4 ⟨vz, rfl, Mz, b4⟩
  have HT := Lib.hid (HT.out.keep b4)
  have HW := Lib.hid (bl_pack HW.out HW.out.size b4)
  have Nx := Lib.hid (Nx.out.keep b4)
  have Ny := Lib.hid (Ny.out.keep b4)
  have Na := Lib.hid (Na.out.keep b4)
  have Ka := Lib.hid (keep_block b4 Ka.out)
  have Nz := Lib.hid Mz
  clear b4 Mz
  go_wp2_with fail
  refine (intB (-5) (by decide) (by decide) HT.out).mono ?_
  rintro _ w5 ⟨vu, rfl, Mu, b5⟩
  have HT := Lib.hid (HT.out.keep b5)
  have HW := Lib.hid (bl_pack HW.out HW.out.size b5)
  have Nx := Lib.hid (Nx.out.keep b5)
  have Ny := Lib.hid (Ny.out.keep b5)
  have Na := Lib.hid (Na.out.keep b5)
  have Nz := Lib.hid (Nz.out.keep b5)
  have Ka := Lib.hid (keep_block b5 Ka.out)
  have Nu := Lib.hid Mu
  clear b5 Mu
  go_wp2_with fail
  refine (mulB 128 Nz.out Nu.out HT.out (by decide) (by decide)).mono ?_
  rintro _ w6 ⟨vb, rfl, Mb, b6⟩
  have HT := Lib.hid (HT.out.keep b6)
  have HW := Lib.hid (bl_pack HW.out HW.out.size b6)
  have Nx := Lib.hid (Nx.out.keep b6)
  have Ny := Lib.hid (Ny.out.keep b6)
  have Na := Lib.hid (Na.out.keep b6)
  have Nz := Lib.hid (Nz.out.keep b6)
  have Nu := Lib.hid (Nu.out.keep b6)
  have Ka := Lib.hid (keep_block b6 Ka.out)
  have Nb := Lib.hid Mb
  clear b6 Mb
  obtain ⟨pb, nb, cb, eb, gb, rfl⟩ := Nb.out.form
  obtain ⟨Wb, hWb, Bb, -, Jb⟩ := box_res w6 (.cells #[.slice pb nb cb, .int .i64 eb, .bool gb, .bool false] 29)
  go_upto_region 3 with (fail)
  rw [← hWb]
  clear hWb
  have HT := Lib.hid (HT.out.keep Bb)
  have HW := Lib.hid (bl_pack HW.out HW.out.size Bb)
  have Nx := Lib.hid (Nx.out.keep Bb)
  have Ny := Lib.hid (Ny.out.keep Bb)
  have Na := Lib.hid (Na.out.keep Bb)
  have Nz := Lib.hid (Nz.out.keep Bb)
  have Nu := Lib.hid (Nu.out.keep Bb)
  have Nb := Lib.hid (Nb.out.keep Bb)
  have Ka := Lib.hid (keep_block Bb Ka.out)
  have Kb := Lib.hid Jb
  clear Bb Jb
  go_wp2_with fail
  refine (intB 1 (by decide) (by decide) HT.out).mono ?_
  rintro _ w7 ⟨vs, rfl, Ms, b7⟩
  have HT := Lib.hid (HT.out.keep b7)
  have HW := Lib.hid (bl_pack HW.out HW.out.size b7)
  have Nx := Lib.hid (Nx.out.keep b7)
  have Ny := Lib.hid (Ny.out.keep b7)
  have Na := Lib.hid (Na.out.keep b7)
  have Nz := Lib.hid (Nz.out.keep b7)
  have Nu := Lib.hid (Nu.out.keep b7)
  have Nb := Lib.hid (Nb.out.keep b7)
  have Ka := Lib.hid (keep_block b7 Ka.out)
  have Kb := Lib.hid (keep_block b7 Kb.out)
  have Ns := Lib.hid Ms
  clear b7 Ms
  go_wp2_with fail
  refine (shiftB 164 100 Ns.out HT.out (by decide) (by decide)).mono ?_
  rintro _ w8 ⟨vt, rfl, Mt, b8⟩
  have HT := Lib.hid (HT.out.keep b8)
  have HW := Lib.hid (bl_pack HW.out HW.out.size b8)
  have Nx := Lib.hid (Nx.out.keep b8)
  have Ny := Lib.hid (Ny.out.keep b8)
  have Na := Lib.hid (Na.out.keep b8)
  have Nz := Lib.hid (Nz.out.keep b8)
  have Nu := Lib.hid (Nu.out.keep b8)
  have Nb := Lib.hid (Nb.out.keep b8)
  have Ns := Lib.hid (Ns.out.keep b8)
  have Ka := Lib.hid (keep_block b8 Ka.out)
  have Kb := Lib.hid (keep_block b8 Kb.out)
  have Nt := Lib.hid Mt
  clear b8 Mt
  go_wp2_with fail
  refine (intB 1 (by decide) (by decide) HT.out).mono ?_
  rintro _ w9 ⟨vv, rfl, Mv, b9⟩
  have HT := Lib.hid (HT.out.keep b9)
  have HW := Lib.hid (bl_pack HW.out HW.out.size b9)
  have Nx := Lib.hid (Nx.out.keep b9)
  have Ny := Lib.hid (Ny.out.keep b9)
  have Na := Lib.hid (Na.out.keep b9)
  have Nz := Lib.hid (Nz.out.keep b9)
  have Nu := Lib.hid (Nu.out.keep b9)
  have Nb := Lib.hid (Nb.out.keep b9)
  have Ns := Lib.hid (Ns.out.keep b9)
  have Nt := Lib.hid (Nt.out.keep b9)
  have Ka := Lib.hid (keep_block b9 Ka.out)
  have Kb := Lib.hid (keep_block b9 Kb.out)
  have Nv := Lib.hid Mv
  clear b9 Mv
  go_wp2_with fail
  refine (addB 165 Nt.out Nv.out HT.out (by decide) (by decide) (by decide)).mono ?_
  rintro _ w10 ⟨vc, rfl, Mc, b10⟩
  have HT := Lib.hid (HT.out.keep b10)
  have HW := Lib.hid (bl_pack HW.out HW.out.size b10)
  have Nx := Lib.hid (Nx.out.keep b10)
  have Ny := Lib.hid (Ny.out.keep b10)
  have Na := Lib.hid (Na.out.keep b10)
  have Nz := Lib.hid (Nz.out.keep b10)
  have Nu := Lib.hid (Nu.out.keep b10)
  have Nb := Lib.hid (Nb.out.keep b10)
  have Ns := Lib.hid (Ns.out.keep b10)
  have Nt := Lib.hid (Nt.out.keep b10)
  have Nv := Lib.hid (Nv.out.keep b10)
  have Ka := Lib.hid (keep_block b10 Ka.out)
  have Kb := Lib.hid (keep_block b10 Kb.out)
  have Nc := Lib.hid Mc
  clear b10 Mc
  obtain ⟨pc, nc, cc, ec, gc, rfl⟩ := Nc.out.form
  obtain ⟨Wc, hWc, Bc, -, Jc⟩ := box_res w10 (.cells #[.slice pc nc cc, .int .i64 ec, .bool gc, .bool false] 29)
  go_upto_region 4 with (fail)
  rw [← hWc]
  clear hWc
  have HT := Lib.hid (HT.out.keep Bc)
  have HW := Lib.hid (bl_pack HW.out HW.out.size Bc)
  have Nx := Lib.hid (Nx.out.keep Bc)
  have Ny := Lib.hid (Ny.out.keep Bc)
  have Na := Lib.hid (Na.out.keep Bc)
  have Nz := Lib.hid (Nz.out.keep Bc)
  have Nu := Lib.hid (Nu.out.keep Bc)
  have Nb := Lib.hid (Nb.out.keep Bc)
  have Ns := Lib.hid (Ns.out.keep Bc)
  have Nt := Lib.hid (Nt.out.keep Bc)
  have Nv := Lib.hid (Nv.out.keep Bc)
  have Nc := Lib.hid (Nc.out.keep Bc)
  have Ka := Lib.hid (keep_block Bc Ka.out)
  have Kb := Lib.hid (keep_block Bc Kb.out)
  have Kc := Lib.hid Jc
  clear Bc Jc
  obtain ⟨qa0, qa1, qa2, qa3, -, -, -, -⟩ := res4_facts Ka.out
  obtain ⟨qb0, qb1, qb2, qb3, -, -, -, -⟩ := res4_facts Kb.out
  obtain ⟨qc0, qc1, qc2, qc3, -, -, -, -⟩ := res4_facts Kc.out
  go_wp2_with fail
  have HC0 := Lib.hid (fun (Y : World) (h : Kp Wc Y) => floatB (Na.out.keep h.out))
  have HC1 := Lib.hid (fun (Y : World) (h : Kp Wc Y) => highB (-1) (Na.out.keep h.out) (Or.inl works_h))
  have HC2 := Lib.hid (fun (Y : World) (h : Kp Wc Y) => lowB (-2) (Na.out.keep h.out) (HT.out.keep h.out) (Or.inl works_l))
  have HC3 := Lib.hid (fun (Y : World) (h : Kp Wc Y) => floatB (Nb.out.keep h.out))
  have HC4 := Lib.hid (fun (Y : World) (h : Kp Wc Y) => signBn (-1) (Nb.out.keep h.out) works_s)
  have HC5 := Lib.hid (fun (Y : World) (h : Kp Wc Y) => floatB (Nc.out.keep h.out))
  have HC6 := Lib.hid (fun (Y : World) (h : Kp Wc Y) => intB 1 (by decide) (by decide) (HT.out.keep h.out))
  have HC7 := Lib.hid (fun (Y : World) (h : Kp Wc Y) (v : Value) (hv : NumB F Y v ((1 : Int) : Rat) 64) => shiftB 164 100 hv (HT.out.keep h.out) (by decide) (by decide))
  have HC8 := Lib.hid (fun (Y : World) (h : Kp Wc Y) (v : Value) (hv : NumB F Y v (((1 : Int) : Rat) * (2 : Rat) ^ (100 : Int)) 164) => cmpBn 1 (Nc.out.keep h.out) hv (HT.out.keep h.out) (by decide) (by decide) works_k)
  have HC9 := Lib.hid (fun (Y : World) (h : Kp Wc Y) => lowB 0 (Nc.out.keep h.out) (HT.out.keep h.out) (Or.inl works_o))
  go_region_held3 (fun w' => w'.cell? ⟨w3.heap.size, 0, none⟩ = some (.slice pa na ca) ∧ w'.cell? ⟨w3.heap.size, 1, none⟩ = some (.int .i64 ea) ∧ w'.cell? ⟨w3.heap.size, 2, none⟩ = some (.bool ga) ∧ w'.cell? ⟨w3.heap.size, 3, none⟩ = some (.bool false) ∧ w'.cell? ⟨w6.heap.size, 0, none⟩ = some (.slice pb nb cb) ∧ w'.cell? ⟨w6.heap.size, 1, none⟩ = some (.int .i64 eb) ∧ w'.cell? ⟨w6.heap.size, 2, none⟩ = some (.bool gb) ∧ w'.cell? ⟨w6.heap.size, 3, none⟩ = some (.bool false) ∧ w'.cell? ⟨w10.heap.size, 0, none⟩ = some (.slice pc nc cc) ∧ w'.cell? ⟨w10.heap.size, 1, none⟩ = some (.int .i64 ec) ∧ w'.cell? ⟨w10.heap.size, 2, none⟩ = some (.bool gc) ∧ w'.cell? ⟨w10.heap.size, 3, none⟩ = some (.bool false) ∧ Kp Wc w')
    (first | with_reducible exact sv3 (((((((((((Kp.refl Wc).drew.step hbR_0).step hbR_1).step hbR_2).step hbR_3).step hbR_4).step hbR_5).step hbR_6).step hbR_7).step hbR_8).step hbR_9) qa0 qa1 qa2 qa3 qb0 qb1 qb2 qb3 qc0 qc1 qc2 qc3 | with_reducible exact sv3 ((((((((((Kp.refl Wc).drew.step hbR_0).step hbR_1).step hbR_2).step hbR_3).step hbR_4).step hbR_5).step hbR_6).step hbR_7).step hbR_8) qa0 qa1 qa2 qa3 qb0 qb1 qb2 qb3 qc0 qc1 qc2 qc3 | with_reducible exact sv3 (((((((((Kp.refl Wc).drew.step hbR_0).step hbR_1).step hbR_2).step hbR_3).step hbR_4).step hbR_5).step hbR_6).step hbR_7) qa0 qa1 qa2 qa3 qb0 qb1 qb2 qb3 qc0 qc1 qc2 qc3 | with_reducible exact sv3 ((((((((Kp.refl Wc).drew.step hbR_0).step hbR_1).step hbR_2).step hbR_3).step hbR_4).step hbR_5).step hbR_6) qa0 qa1 qa2 qa3 qb0 qb1 qb2 qb3 qc0 qc1 qc2 qc3 | with_reducible exact sv3 (((((((Kp.refl Wc).drew.step hbR_0).step hbR_1).step hbR_2).step hbR_3).step hbR_4).step hbR_5) qa0 qa1 qa2 qa3 qb0 qb1 qb2 qb3 qc0 qc1 qc2 qc3 | with_reducible exact sv3 ((((((Kp.refl Wc).drew.step hbR_0).step hbR_1).step hbR_2).step hbR_3).step hbR_4) qa0 qa1 qa2 qa3 qb0 qb1 qb2 qb3 qc0 qc1 qc2 qc3 | with_reducible exact sv3 (((((Kp.refl Wc).drew.step hbR_0).step hbR_1).step hbR_2).step hbR_3) qa0 qa1 qa2 qa3 qb0 qb1 qb2 qb3 qc0 qc1 qc2 qc3 | with_reducible exact sv3 ((((Kp.refl Wc).drew.step hbR_0).step hbR_1).step hbR_2) qa0 qa1 qa2 qa3 qb0 qb1 qb2 qb3 qc0 qc1 qc2 qc3 | with_reducible exact sv3 (((Kp.refl Wc).drew.step hbR_0).step hbR_1) qa0 qa1 qa2 qa3 qb0 qb1 qb2 qb3 qc0 qc1 qc2 qc3 | with_reducible exact sv3 ((Kp.refl Wc).drew.step hbR_0) qa0 qa1 qa2 qa3 qb0 qb1 qb2 qb3 qc0 qc1 qc2 qc3 | with_reducible exact sv3 (Kp.refl Wc).drew qa0 qa1 qa2 qa3 qb0 qb1 qb2 qb3 qc0 qc1 qc2 qc3)
    (first
      | (go_at_call 21; ((with_reducible refine (HC9.out _ ?hq).mono ?_); (case hq => exact ((((((((((Kp.refl Wc).drew.step hbR_0).step hbR_1).step hbR_2).step hbR_3).step hbR_4).step hbR_5).step hbR_6).step hbR_7).step hbR_8)); rintro x wR_9 ⟨rfl, hbR_9⟩))
      | (go_at_call 11; ((with_reducible refine (HC8.out _ ?hq _ ?ha0).mono ?_); (case hq => exact (((((((((Kp.refl Wc).drew.step hbR_0).step hbR_1).step hbR_2).step hbR_3).step hbR_4).step hbR_5).step hbR_6).step hbR_7)); (case ha0 => exact MR_7); rintro x wR_8 ⟨rfl, hbR_8⟩))
      | (go_at_call 16; ((with_reducible refine (HC7.out _ ?hq _ ?ha0).mono ?_); (case hq => exact ((((((((Kp.refl Wc).drew.step hbR_0).step hbR_1).step hbR_2).step hbR_3).step hbR_4).step hbR_5).step hbR_6)); (case ha0 => exact MR_6); rintro x wR_7 ⟨vR_7, rfl, MR_7, hbR_7⟩; obtain ⟨pR_7, nR_7, cR_7, eR_7, gR_7, rfl⟩ := NumB.form MR_7))
      | (go_at_call 17; ((with_reducible refine (HC6.out _ ?hq).mono ?_); (case hq => exact (((((((Kp.refl Wc).drew.step hbR_0).step hbR_1).step hbR_2).step hbR_3).step hbR_4).step hbR_5)); rintro x wR_6 ⟨vR_6, rfl, MR_6, hbR_6⟩; obtain ⟨pR_6, nR_6, cR_6, eR_6, gR_6, rfl⟩ := NumB.form MR_6))
      | (go_at_call 19; ((with_reducible refine (HC5.out _ ?hq).mono ?_); (case hq => exact ((((((Kp.refl Wc).drew.step hbR_0).step hbR_1).step hbR_2).step hbR_3).step hbR_4)); rintro x wR_5 ⟨fR_5, rfl, hfR_5, hbR_5⟩; have oR_5 := FloOf.eq hfR_5 works_c; clear hfR_5))
      | (go_at_call 13; ((with_reducible refine (HC4.out _ ?hq).mono ?_); (case hq => exact (((((Kp.refl Wc).drew.step hbR_0).step hbR_1).step hbR_2).step hbR_3)); rintro x wR_4 ⟨rfl, hbR_4⟩))
      | (go_at_call 19; ((with_reducible refine (HC3.out _ ?hq).mono ?_); (case hq => exact ((((Kp.refl Wc).drew.step hbR_0).step hbR_1).step hbR_2)); rintro x wR_3 ⟨fR_3, rfl, hfR_3, hbR_3⟩; have oR_3 := FloOf.eq hfR_3 works_b; clear hfR_3))
      | (go_at_call 21; ((with_reducible refine (HC2.out _ ?hq).mono ?_); (case hq => exact (((Kp.refl Wc).drew.step hbR_0).step hbR_1)); rintro x wR_2 ⟨rfl, hbR_2⟩))
      | (go_at_call 20; ((with_reducible refine (HC1.out _ ?hq).mono ?_); (case hq => exact ((Kp.refl Wc).drew.step hbR_0)); rintro x wR_1 ⟨rfl, hbR_1⟩))
      | (go_at_call 19; ((with_reducible refine (HC0.out _ ?hq).mono ?_); (case hq => exact (Kp.refl Wc).drew); rintro x wR_0 ⟨fR_0, rfl, hfR_0, hbR_0⟩; have oR_0 := FloOf.eq hfR_0 works_a; clear hfR_0)))
  go_wp2_with fail
  go_ret
  exact ⟨rfl, bl_pack HW.out HW.out.size (((((((((((Kp.refl Wc).drew.step hbR_0).step hbR_1).step hbR_2).step hbR_3).step hbR_4).step hbR_5).step hbR_6).step hbR_7).step hbR_8).step hbR_9).out⟩
end Go.Proofs.YtiiipgbfhcbjdaaDoor
