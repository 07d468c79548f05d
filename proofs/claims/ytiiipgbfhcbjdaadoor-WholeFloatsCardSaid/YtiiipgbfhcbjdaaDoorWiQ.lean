/- WholeFloats walked. (Printed by gen_WiQ.py.) -/
import Derived.Test.YtiiipgbfhcbjdaaDoorNwE
import Derived.Test.YtiiipgbfhcbjdaaDoorFoA
import Derived.Test.YtiiipgbfhcbjdaaDoorRfH
namespace Go.Proofs.YtiiipgbfhcbjdaaDoor
open Go.RowKit TV
set_option linter.unusedVariables false
set_option exponentiation.threshold 3000

theorem rs_flip (p q : Rat) : rs (q - p) = -rs (p - q) := by
  unfold rs
  by_cases h1 : p - q < 0
  · rw [if_pos h1, if_neg (by grind), if_neg (by grind)]; rfl
  · by_cases h2 : p - q = 0
    · rw [if_neg h1, if_pos h2, if_neg (by grind), if_pos (by grind)]; rfl
    · rw [if_neg h1, if_neg h2, if_pos (by grind)]
theorem ov_fr {x : Nat} (h : rung x < inf) : ov x = fr x := by unfold ov fr; rw [if_pos h]
theorem self0 {x : Nat} (h : rung x < inf) : (Ieee.double.sub x x).isSome = true ∧ fsub x x = 0 := by
  have h2 : Ieee.double.sub x x = some 0 := fsub_self h
  exact ⟨by rw [h2]; rfl, by unfold fsub; rw [h2]; rfl⟩
set_option maxRecDepth 100000 in
set_option maxHeartbeats 4000000 in
theorem floats_lt {w : World} (ht : TabOk w) (a b : Nat) (ha : a < 18446744073709551616) (hb : b < 18446744073709551616) (fa : rung a < inf) (fb : rung b < inf) (ho : FloatKind.f64.format.order a b = some .lt) (hc : rs (fr a - fr b) = -1) :
    Calls Tryd.prog 6 #[.float .f64 a, .float .f64 b] w fun x w' => x = .returned (.bool true) ∧ Below w.heap.size w w' := by
  go_enter Tryd.func6, Tryd.ntmps6
  have HT := Lib.hid (show Tb 0 w from ⟨ht, Nat.zero_le _⟩)
  have HW := Lib.hid (Below.refl w.heap.size w)
  clear ht
  go_wp2_with fail
  refine (ofB a ha fa HT.out).mono ?_
  rintro _ w1 ⟨vp, rfl, Mp, b1⟩
  have HT := Lib.hid (HT.out.keep b1)
  have HW := Lib.hid (bl_pack HW.out HW.out.size b1)
  have Np := Lib.hid Mp
  clear b1 Mp
  obtain ⟨pp, np, cp, ep, gp, rfl⟩ := Np.out.form
  obtain ⟨Wp, hWp, Bp, -, Jp⟩ := box_res w1 (.cells #[.slice pp np cp, .int .i64 ep, .bool gp, .bool false] 29)
  go_upto_region 2 with (fail)
  rw [← hWp]
  clear hWp
  have HT := Lib.hid (HT.out.keep Bp)
  have HW := Lib.hid (bl_pack HW.out HW.out.size Bp)
  have Np := Lib.hid (Np.out.keep Bp)
  have Kp := Lib.hid Jp
  clear Bp Jp
  obtain ⟨qp0, qp1, qp2, qp3, -, -, -, -⟩ := res4_facts Kp.out
  go_wp2_with fail
  refine (ofB b hb fb HT.out).mono ?_
  rintro _ w2 ⟨vq, rfl, Mq, b2⟩
  have HT := Lib.hid (HT.out.keep b2)
  have HW := Lib.hid (bl_pack HW.out HW.out.size b2)
  have Np := Lib.hid (Np.out.keep b2)
  have Kp := Lib.hid (keep_block b2 Kp.out)
  have Nq := Lib.hid Mq
  clear b2 Mq
  clear qp0 qp1 qp2 qp3
  obtain ⟨pq, nq, cq, eq, gq, rfl⟩ := Nq.out.form
  obtain ⟨Wq, hWq, Bq, -, Jq⟩ := box_res w2 (.cells #[.slice pq nq cq, .int .i64 eq, .bool gq, .bool false] 29)
  go_upto_region 3 with (fail)
  rw [← hWq]
  clear hWq
  have HT := Lib.hid (HT.out.keep Bq)
  have HW := Lib.hid (bl_pack HW.out HW.out.size Bq)
  have Np := Lib.hid (Np.out.keep Bq)
  have Nq := Lib.hid (Nq.out.keep Bq)
  have Kp := Lib.hid (keep_block Bq Kp.out)
  have Kq := Lib.hid Jq
  clear Bq Jq
  obtain ⟨qp0, qp1, qp2, qp3, -, -, -, -⟩ := res4_facts Kp.out
  obtain ⟨qq0, qq1, qq2, qq3, -, -, -, -⟩ := res4_facts Kq.out
  obtain ⟨sa1, za⟩ := self0 fa
  obtain ⟨sb1, zb⟩ := self0 fb
  have oz : FloatKind.f64.format.order 0 0 = some .eq := FloOf.eq FloOf.zero FloOf.zero
  obtain ⟨sA, fA⟩ := flo_add fa fb
  obtain ⟨sS, fS⟩ := flo_sub fa fb
  obtain ⟨sM, fM⟩ := flo_mul fa fb
  have FA := Lib.hid fA
  have FS := Lib.hid fS
  have FM := Lib.hid fM
  clear fA fS fM
  have FPA := Lib.hid (FloOf.fin ha fa)
  have FPB := Lib.hid (FloOf.fin hb fb)
  have hd : rs (fr b - fr a) = -(-1) := by rw [rs_flip, hc]
  have HC := Lib.hid hc
  have HD := Lib.hid hd
  clear hc hd
  go_wp2_with fail
  clear qp0 qp1 qp2 qp3 qq0 qq1 qq2 qq3
  refine (floatB Np.out).mono ?_
  rintro _ w4 ⟨f4, rfl, hf4, b4⟩
  have o4 := hf4.eq FPA.out
  have HT := Lib.hid (HT.out.keep b4)
  have HW := Lib.hid (bl_pack HW.out HW.out.size b4)
  have Np := Lib.hid (Np.out.keep b4)
  have Nq := Lib.hid (Nq.out.keep b4)
  have Kp := Lib.hid (keep_block b4 Kp.out)
  have Kq := Lib.hid (keep_block b4 Kq.out)
  clear b4 hf4
  obtain ⟨qp0, qp1, qp2, qp3, -, -, -, -⟩ := res4_facts Kp.out
  obtain ⟨qq0, qq1, qq2, qq3, -, -, -, -⟩ := res4_facts Kq.out
  go_wp2_with fail
  clear qp0 qp1 qp2 qp3 qq0 qq1 qq2 qq3
  refine (floatB Nq.out).mono ?_
  rintro _ w5 ⟨f5, rfl, hf5, b5⟩
  have o5 := hf5.eq FPB.out
  have HT := Lib.hid (HT.out.keep b5)
  have HW := Lib.hid (bl_pack HW.out HW.out.size b5)
  have Np := Lib.hid (Np.out.keep b5)
  have Nq := Lib.hid (Nq.out.keep b5)
  have Kp := Lib.hid (keep_block b5 Kp.out)
  have Kq := Lib.hid (keep_block b5 Kq.out)
  clear b5 hf5
  obtain ⟨qp0, qp1, qp2, qp3, -, -, -, -⟩ := res4_facts Kp.out
  obtain ⟨qq0, qq1, qq2, qq3, -, -, -, -⟩ := res4_facts Kq.out
  go_wp2_with fail
  clear qp0 qp1 qp2 qp3 qq0 qq1 qq2 qq3
  refine (cmpBn (-1) Np.out Nq.out HT.out (by decide) (by decide) HC.out).mono ?_
  rintro _ w6 ⟨rfl, b6⟩
  have HT := Lib.hid (HT.out.keep b6)
  have HW := Lib.hid (bl_pack HW.out HW.out.size b6)
  have Np := Lib.hid (Np.out.keep b6)
  have Nq := Lib.hid (Nq.out.keep b6)
  have Kp := Lib.hid (keep_block b6 Kp.out)
  have Kq := Lib.hid (keep_block b6 Kq.out)
  clear b6
  obtain ⟨qp0, qp1, qp2, qp3, -, -, -, -⟩ := res4_facts Kp.out
  obtain ⟨qq0, qq1, qq2, qq3, -, -, -, -⟩ := res4_facts Kq.out
  go_wp2_with fail
  clear qp0 qp1 qp2 qp3 qq0 qq1 qq2 qq3
  refine (cmpBn (-(-1)) Nq.out Np.out HT.out (by decide) (by decide) HD.out).mono ?_
  rintro _ w7 ⟨rfl, b7⟩
  have HT := Lib.hid (HT.out.keep b7)
  have HW := Lib.hid (bl_pack HW.out HW.out.size b7)
  have Np := Lib.hid (Np.out.keep b7)
  have Nq := Lib.hid (Nq.out.keep b7)
  have Kp := Lib.hid (keep_block b7 Kp.out)
  have Kq := Lib.hid (keep_block b7 Kq.out)
  clear b7
  obtain ⟨qp0, qp1, qp2, qp3, -, -, -, -⟩ := res4_facts Kp.out
  obtain ⟨qq0, qq1, qq2, qq3, -, -, -, -⟩ := res4_facts Kq.out
  go_wp2_with fail
  clear qp0 qp1 qp2 qp3 qq0 qq1 qq2 qq3
  refine (addB 1075 Np.out Nq.out HT.out (by decide) (by decide) (by decide)).mono ?_
  rintro _ w8 ⟨vs, rfl, Ms, b8⟩
  have HT := Lib.hid (HT.out.keep b8)
  have HW := Lib.hid (bl_pack HW.out HW.out.size b8)
  have Np := Lib.hid (Np.out.keep b8)
  have Nq := Lib.hid (Nq.out.keep b8)
  have Kp := Lib.hid (keep_block b8 Kp.out)
  have Kq := Lib.hid (keep_block b8 Kq.out)
  have Ns := Lib.hid Ms
  clear b8 Ms
  obtain ⟨ps, ns, cs, es, gs, rfl⟩ := Ns.out.form
  obtain ⟨qp0, qp1, qp2, qp3, -, -, -, -⟩ := res4_facts Kp.out
  obtain ⟨qq0, qq1, qq2, qq3, -, -, -, -⟩ := res4_facts Kq.out
  go_wp2_with fail
  clear qp0 qp1 qp2 qp3 qq0 qq1 qq2 qq3
  refine (floatB Ns.out).mono ?_
  rintro _ w9 ⟨f9, rfl, hf9, b9⟩
  have o9 := hf9.eq FA.out
  have HT := Lib.hid (HT.out.keep b9)
  have HW := Lib.hid (bl_pack HW.out HW.out.size b9)
  have Np := Lib.hid (Np.out.keep b9)
  have Nq := Lib.hid (Nq.out.keep b9)
  have Ns := Lib.hid (Ns.out.keep b9)
  have Kp := Lib.hid (keep_block b9 Kp.out)
  have Kq := Lib.hid (keep_block b9 Kq.out)
  clear b9 hf9
  obtain ⟨qp0, qp1, qp2, qp3, -, -, -, -⟩ := res4_facts Kp.out
  obtain ⟨qq0, qq1, qq2, qq3, -, -, -, -⟩ := res4_facts Kq.out
  go_wp2_with fail
  clear qp0 qp1 qp2 qp3 qq0 qq1 qq2 qq3
  refine (subB 1075 Np.out Nq.out HT.out (by decide) (by decide) (by decide)).mono ?_
  rintro _ w10 ⟨vd, rfl, Md, b10⟩
  have HT := Lib.hid (HT.out.keep b10)
  have HW := Lib.hid (bl_pack HW.out HW.out.size b10)
  have Np := Lib.hid (Np.out.keep b10)
  have Nq := Lib.hid (Nq.out.keep b10)
  have Ns := Lib.hid (Ns.out.keep b10)
  have Kp := Lib.hid (keep_block b10 Kp.out)
  have Kq := Lib.hid (keep_block b10 Kq.out)
  have Nd := Lib.hid Md
  clear b10 Md
  obtain ⟨pd, nd, cd, ed, gd, rfl⟩ := Nd.out.form
  obtain ⟨qp0, qp1, qp2, qp3, -, -, -, -⟩ := res4_facts Kp.out
  obtain ⟨qq0, qq1, qq2, qq3, -, -, -, -⟩ := res4_facts Kq.out
  go_wp2_with fail
  clear qp0 qp1 qp2 qp3 qq0 qq1 qq2 qq3
  refine (floatB Nd.out).mono ?_
  rintro _ w11 ⟨f11, rfl, hf11, b11⟩
  have o11 := hf11.eq FS.out
  have HT := Lib.hid (HT.out.keep b11)
  have HW := Lib.hid (bl_pack HW.out HW.out.size b11)
  have Np := Lib.hid (Np.out.keep b11)
  have Nq := Lib.hid (Nq.out.keep b11)
  have Ns := Lib.hid (Ns.out.keep b11)
  have Nd := Lib.hid (Nd.out.keep b11)
  have Kp := Lib.hid (keep_block b11 Kp.out)
  have Kq := Lib.hid (keep_block b11 Kq.out)
  clear b11 hf11
  obtain ⟨qp0, qp1, qp2, qp3, -, -, -, -⟩ := res4_facts Kp.out
  obtain ⟨qq0, qq1, qq2, qq3, -, -, -, -⟩ := res4_facts Kq.out
  go_wp2_with fail
  clear qp0 qp1 qp2 qp3 qq0 qq1 qq2 qq3
  refine (mulB 2148 Np.out Nq.out HT.out (by decide) (by decide)).mono ?_
  rintro _ w12 ⟨vm, rfl, Mm, b12⟩
  have HT := Lib.hid (HT.out.keep b12)
  have HW := Lib.hid (bl_pack HW.out HW.out.size b12)
  have Np := Lib.hid (Np.out.keep b12)
  have Nq := Lib.hid (Nq.out.keep b12)
  have Ns := Lib.hid (Ns.out.keep b12)
  have Nd := Lib.hid (Nd.out.keep b12)
  have Kp := Lib.hid (keep_block b12 Kp.out)
  have Kq := Lib.hid (keep_block b12 Kq.out)
  have Nm := Lib.hid Mm
  clear b12 Mm
  obtain ⟨pm, nm, cm, em, gm, rfl⟩ := Nm.out.form
  obtain ⟨qp0, qp1, qp2, qp3, -, -, -, -⟩ := res4_facts Kp.out
  obtain ⟨qq0, qq1, qq2, qq3, -, -, -, -⟩ := res4_facts Kq.out
  go_wp2_with fail
  clear qp0 qp1 qp2 qp3 qq0 qq1 qq2 qq3
  refine (floatB Nm.out).mono ?_
  rintro _ w13 ⟨f13, rfl, hf13, b13⟩
  have o13 := hf13.eq FM.out
  have HT := Lib.hid (HT.out.keep b13)
  have HW := Lib.hid (bl_pack HW.out HW.out.size b13)
  have Np := Lib.hid (Np.out.keep b13)
  have Nq := Lib.hid (Nq.out.keep b13)
  have Ns := Lib.hid (Ns.out.keep b13)
  have Nd := Lib.hid (Nd.out.keep b13)
  have Nm := Lib.hid (Nm.out.keep b13)
  have Kp := Lib.hid (keep_block b13 Kp.out)
  have Kq := Lib.hid (keep_block b13 Kq.out)
  clear b13 hf13
  obtain ⟨qp0, qp1, qp2, qp3, -, -, -, -⟩ := res4_facts Kp.out
  obtain ⟨qq0, qq1, qq2, qq3, -, -, -, -⟩ := res4_facts Kq.out
  go_wp2_with fail
  clear qp0 qp1 qp2 qp3 qq0 qq1 qq2 qq3
  refine (ofT a ha _).mono ?_
  rintro _ w14 ⟨vx, rfl, Mx, b14⟩
  have HT := Lib.hid (HT.out.keep b14)
  have HW := Lib.hid (bl_pack HW.out HW.out.size b14)
  have Np := Lib.hid (Np.out.keep b14)
  have Nq := Lib.hid (Nq.out.keep b14)
  have Ns := Lib.hid (Ns.out.keep b14)
  have Nd := Lib.hid (Nd.out.keep b14)
  have Nm := Lib.hid (Nm.out.keep b14)
  have Kp := Lib.hid (keep_block b14 Kp.out)
  have Kq := Lib.hid (keep_block b14 Kq.out)
  have Nx := Lib.hid Mx
  clear b14 Mx
  obtain ⟨qp0, qp1, qp2, qp3, -, -, -, -⟩ := res4_facts Kp.out
  obtain ⟨qq0, qq1, qq2, qq3, -, -, -, -⟩ := res4_facts Kq.out
  go_wp2_with fail
  clear qp0 qp1 qp2 qp3 qq0 qq1 qq2 qq3
  refine (ofT b hb _).mono ?_
  rintro _ w15 ⟨vy, rfl, My, b15⟩
  have HT := Lib.hid (HT.out.keep b15)
  have HW := Lib.hid (bl_pack HW.out HW.out.size b15)
  have Np := Lib.hid (Np.out.keep b15)
  have Nq := Lib.hid (Nq.out.keep b15)
  have Ns := Lib.hid (Ns.out.keep b15)
  have Nd := Lib.hid (Nd.out.keep b15)
  have Nm := Lib.hid (Nm.out.keep b15)
  have Nx := Lib.hid (Nx.out.keep b15)
  have Kp := Lib.hid (keep_block b15 Kp.out)
  have Kq := Lib.hid (keep_block b15 Kq.out)
  have Ny := Lib.hid My
  clear b15 My
  obtain ⟨qp0, qp1, qp2, qp3, -, -, -, -⟩ := res4_facts Kp.out
  obtain ⟨qq0, qq1, qq2, qq3, -, -, -, -⟩ := res4_facts Kq.out
  go_wp2_with fail
  clear qp0 qp1 qp2 qp3 qq0 qq1 qq2 qq3
  refine (addT Nx.out Ny.out (by decide)).mono ?_
  rintro _ w16 ⟨vz, rfl, Mz, b16⟩
  have HT := Lib.hid (HT.out.keep b16)
  have HW := Lib.hid (bl_pack HW.out HW.out.size b16)
  have Np := Lib.hid (Np.out.keep b16)
  have Nq := Lib.hid (Nq.out.keep b16)
  have Ns := Lib.hid (Ns.out.keep b16)
  have Nd := Lib.hid (Nd.out.keep b16)
  have Nm := Lib.hid (Nm.out.keep b16)
  have Nx := Lib.hid (Nx.out.keep b16)
  have Ny := Lib.hid (Ny.out.keep b16)
  have Kp := Lib.hid (keep_block b16 Kp.out)
  have Kq := Lib.hid (keep_block b16 Kq.out)
  have Nz := Lib.hid Mz
  clear b16 Mz
  obtain ⟨qp0, qp1, qp2, qp3, -, -, -, -⟩ := res4_facts Kp.out
  obtain ⟨qq0, qq1, qq2, qq3, -, -, -, -⟩ := res4_facts Kq.out
  go_wp2_with fail
  clear qp0 qp1 qp2 qp3 qq0 qq1 qq2 qq3
  rw [ov_fr fa, ov_fr fb] at Nz
  refine (roundsT (fadd a b) FA.out.1 _ Nz.out (by decide) FA.out.2.1 FA.out.2.2).mono ?_
  rintro _ w17 ⟨rfl, b17⟩
  have HT := Lib.hid (HT.out.keep b17)
  have HW := Lib.hid (bl_pack HW.out HW.out.size b17)
  have Np := Lib.hid (Np.out.keep b17)
  have Nq := Lib.hid (Nq.out.keep b17)
  have Ns := Lib.hid (Ns.out.keep b17)
  have Nd := Lib.hid (Nd.out.keep b17)
  have Nm := Lib.hid (Nm.out.keep b17)
  have Nx := Lib.hid (Nx.out.keep b17)
  have Ny := Lib.hid (Ny.out.keep b17)
  have Nz := Lib.hid (Nz.out.keep b17)
  have Kp := Lib.hid (keep_block b17 Kp.out)
  have Kq := Lib.hid (keep_block b17 Kq.out)
  clear b17
  obtain ⟨qp0, qp1, qp2, qp3, -, -, -, -⟩ := res4_facts Kp.out
  obtain ⟨qq0, qq1, qq2, qq3, -, -, -, -⟩ := res4_facts Kq.out
  go_wp2_with fail
  clear qp0 qp1 qp2 qp3 qq0 qq1 qq2 qq3
  refine (ofT a ha _).mono ?_
  rintro _ w18 ⟨vu, rfl, Mu, b18⟩
  have HT := Lib.hid (HT.out.keep b18)
  have HW := Lib.hid (bl_pack HW.out HW.out.size b18)
  have Np := Lib.hid (Np.out.keep b18)
  have Nq := Lib.hid (Nq.out.keep b18)
  have Ns := Lib.hid (Ns.out.keep b18)
  have Nd := Lib.hid (Nd.out.keep b18)
  have Nm := Lib.hid (Nm.out.keep b18)
  have Nx := Lib.hid (Nx.out.keep b18)
  have Ny := Lib.hid (Ny.out.keep b18)
  have Nz := Lib.hid (Nz.out.keep b18)
  have Kp := Lib.hid (keep_block b18 Kp.out)
  have Kq := Lib.hid (keep_block b18 Kq.out)
  have Nu := Lib.hid Mu
  clear b18 Mu
  obtain ⟨qp0, qp1, qp2, qp3, -, -, -, -⟩ := res4_facts Kp.out
  obtain ⟨qq0, qq1, qq2, qq3, -, -, -, -⟩ := res4_facts Kq.out
  go_wp2_with fail
  clear qp0 qp1 qp2 qp3 qq0 qq1 qq2 qq3
  refine (ofT b hb _).mono ?_
  rintro _ w19 ⟨vv, rfl, Mv, b19⟩
  have HT := Lib.hid (HT.out.keep b19)
  have HW := Lib.hid (bl_pack HW.out HW.out.size b19)
  have Np := Lib.hid (Np.out.keep b19)
  have Nq := Lib.hid (Nq.out.keep b19)
  have Ns := Lib.hid (Ns.out.keep b19)
  have Nd := Lib.hid (Nd.out.keep b19)
  have Nm := Lib.hid (Nm.out.keep b19)
  have Nx := Lib.hid (Nx.out.keep b19)
  have Ny := Lib.hid (Ny.out.keep b19)
  have Nz := Lib.hid (Nz.out.keep b19)
  have Nu := Lib.hid (Nu.out.keep b19)
  have Kp := Lib.hid (keep_block b19 Kp.out)
  have Kq := Lib.hid (keep_block b19 Kq.out)
  have Nv := Lib.hid Mv
  clear b19 Mv
  obtain ⟨qp0, qp1, qp2, qp3, -, -, -, -⟩ := res4_facts Kp.out
  obtain ⟨qq0, qq1, qq2, qq3, -, -, -, -⟩ := res4_facts Kq.out
  go_wp2_with fail
  clear qp0 qp1 qp2 qp3 qq0 qq1 qq2 qq3
  refine (mulT Nu.out Nv.out (by decide) (by decide)).mono ?_
  rintro _ w20 ⟨vt, rfl, Mt, b20⟩
  have HT := Lib.hid (HT.out.keep b20)
  have HW := Lib.hid (bl_pack HW.out HW.out.size b20)
  have Np := Lib.hid (Np.out.keep b20)
  have Nq := Lib.hid (Nq.out.keep b20)
  have Ns := Lib.hid (Ns.out.keep b20)
  have Nd := Lib.hid (Nd.out.keep b20)
  have Nm := Lib.hid (Nm.out.keep b20)
  have Nx := Lib.hid (Nx.out.keep b20)
  have Ny := Lib.hid (Ny.out.keep b20)
  have Nz := Lib.hid (Nz.out.keep b20)
  have Nu := Lib.hid (Nu.out.keep b20)
  have Nv := Lib.hid (Nv.out.keep b20)
  have Kp := Lib.hid (keep_block b20 Kp.out)
  have Kq := Lib.hid (keep_block b20 Kq.out)
  have Nt := Lib.hid Mt
  clear b20 Mt
  obtain ⟨qp0, qp1, qp2, qp3, -, -, -, -⟩ := res4_facts Kp.out
  obtain ⟨qq0, qq1, qq2, qq3, -, -, -, -⟩ := res4_facts Kq.out
  go_wp2_with fail
  clear qp0 qp1 qp2 qp3 qq0 qq1 qq2 qq3
  rw [ov_fr fa, ov_fr fb] at Nt
  refine (roundsT (fmul a b) FM.out.1 _ Nt.out (by decide) FM.out.2.1 FM.out.2.2).mono ?_
  rintro _ w21 ⟨rfl, b21⟩
  have HT := Lib.hid (HT.out.keep b21)
  have HW := Lib.hid (bl_pack HW.out HW.out.size b21)
  have Np := Lib.hid (Np.out.keep b21)
  have Nq := Lib.hid (Nq.out.keep b21)
  have Ns := Lib.hid (Ns.out.keep b21)
  have Nd := Lib.hid (Nd.out.keep b21)
  have Nm := Lib.hid (Nm.out.keep b21)
  have Nx := Lib.hid (Nx.out.keep b21)
  have Ny := Lib.hid (Ny.out.keep b21)
  have Nz := Lib.hid (Nz.out.keep b21)
  have Nu := Lib.hid (Nu.out.keep b21)
  have Nv := Lib.hid (Nv.out.keep b21)
  have Nt := Lib.hid (Nt.out.keep b21)
  have Kp := Lib.hid (keep_block b21 Kp.out)
  have Kq := Lib.hid (keep_block b21 Kq.out)
  clear b21
  obtain ⟨qp0, qp1, qp2, qp3, -, -, -, -⟩ := res4_facts Kp.out
  obtain ⟨qq0, qq1, qq2, qq3, -, -, -, -⟩ := res4_facts Kq.out
  go_wp2_with fail
  clear qp0 qp1 qp2 qp3 qq0 qq1 qq2 qq3
  go_ret
  exact ⟨rfl, HW.out⟩
set_option maxRecDepth 100000 in
set_option maxHeartbeats 4000000 in
theorem floats_eq {w : World} (ht : TabOk w) (a b : Nat) (ha : a < 18446744073709551616) (hb : b < 18446744073709551616) (fa : rung a < inf) (fb : rung b < inf) (ho : FloatKind.f64.format.order a b = some .eq) (hc : rs (fr a - fr b) = 0) :
    Calls Tryd.prog 6 #[.float .f64 a, .float .f64 b] w fun x w' => x = .returned (.bool true) ∧ Below w.heap.size w w' := by
  go_enter Tryd.func6, Tryd.ntmps6
  have HT := Lib.hid (show Tb 0 w from ⟨ht, Nat.zero_le _⟩)
  have HW := Lib.hid (Below.refl w.heap.size w)
  clear ht
  go_wp2_with fail
  refine (ofB a ha fa HT.out).mono ?_
  rintro _ w1 ⟨vp, rfl, Mp, b1⟩
  have HT := Lib.hid (HT.out.keep b1)
  have HW := Lib.hid (bl_pack HW.out HW.out.size b1)
  have Np := Lib.hid Mp
  clear b1 Mp
  obtain ⟨pp, np, cp, ep, gp, rfl⟩ := Np.out.form
  obtain ⟨Wp, hWp, Bp, -, Jp⟩ := box_res w1 (.cells #[.slice pp np cp, .int .i64 ep, .bool gp, .bool false] 29)
  go_upto_region 2 with (fail)
  rw [← hWp]
  clear hWp
  have HT := Lib.hid (HT.out.keep Bp)
  have HW := Lib.hid (bl_pack HW.out HW.out.size Bp)
  have Np := Lib.hid (Np.out.keep Bp)
  have Kp := Lib.hid Jp
  clear Bp Jp
  obtain ⟨qp0, qp1, qp2, qp3, -, -, -, -⟩ := res4_facts Kp.out
  go_wp2_with fail
  refine (ofB b hb fb HT.out).mono ?_
  rintro _ w2 ⟨vq, rfl, Mq, b2⟩
  have HT := Lib.hid (HT.out.keep b2)
  have HW := Lib.hid (bl_pack HW.out HW.out.size b2)
  have Np := Lib.hid (Np.out.keep b2)
  have Kp := Lib.hid (keep_block b2 Kp.out)
  have Nq := Lib.hid Mq
  clear b2 Mq
  clear qp0 qp1 qp2 qp3
  obtain ⟨pq, nq, cq, eq, gq, rfl⟩ := Nq.out.form
  obtain ⟨Wq, hWq, Bq, -, Jq⟩ := box_res w2 (.cells #[.slice pq nq cq, .int .i64 eq, .bool gq, .bool false] 29)
  go_upto_region 3 with (fail)
  rw [← hWq]
  clear hWq
  have HT := Lib.hid (HT.out.keep Bq)
  have HW := Lib.hid (bl_pack HW.out HW.out.size Bq)
  have Np := Lib.hid (Np.out.keep Bq)
  have Nq := Lib.hid (Nq.out.keep Bq)
  have Kp := Lib.hid (keep_block Bq Kp.out)
  have Kq := Lib.hid Jq
  clear Bq Jq
  obtain ⟨qp0, qp1, qp2, qp3, -, -, -, -⟩ := res4_facts Kp.out
  obtain ⟨qq0, qq1, qq2, qq3, -, -, -, -⟩ := res4_facts Kq.out
  obtain ⟨sa1, za⟩ := self0 fa
  obtain ⟨sb1, zb⟩ := self0 fb
  have oz : FloatKind.f64.format.order 0 0 = some .eq := FloOf.eq FloOf.zero FloOf.zero
  obtain ⟨sA, fA⟩ := flo_add fa fb
  obtain ⟨sS, fS⟩ := flo_sub fa fb
  obtain ⟨sM, fM⟩ := flo_mul fa fb
  have FA := Lib.hid fA
  have FS := Lib.hid fS
  have FM := Lib.hid fM
  clear fA fS fM
  have FPA := Lib.hid (FloOf.fin ha fa)
  have FPB := Lib.hid (FloOf.fin hb fb)
  have hd : rs (fr b - fr a) = -(0) := by rw [rs_flip, hc]
  have HC := Lib.hid hc
  have HD := Lib.hid hd
  clear hc hd
  go_wp2_with fail
  clear qp0 qp1 qp2 qp3 qq0 qq1 qq2 qq3
  refine (floatB Np.out).mono ?_
  rintro _ w4 ⟨f4, rfl, hf4, b4⟩
  have o4 := hf4.eq FPA.out
  have HT := Lib.hid (HT.out.keep b4)
  have HW := Lib.hid (bl_pack HW.out HW.out.size b4)
  have Np := Lib.hid (Np.out.keep b4)
  have Nq := Lib.hid (Nq.out.keep b4)
  have Kp := Lib.hid (keep_block b4 Kp.out)
  have Kq := Lib.hid (keep_block b4 Kq.out)
  clear b4 hf4
  obtain ⟨qp0, qp1, qp2, qp3, -, -, -, -⟩ := res4_facts Kp.out
  obtain ⟨qq0, qq1, qq2, qq3, -, -, -, -⟩ := res4_facts Kq.out
  go_wp2_with fail
  clear qp0 qp1 qp2 qp3 qq0 qq1 qq2 qq3
  refine (floatB Nq.out).mono ?_
  rintro _ w5 ⟨f5, rfl, hf5, b5⟩
  have o5 := hf5.eq FPB.out
  have HT := Lib.hid (HT.out.keep b5)
  have HW := Lib.hid (bl_pack HW.out HW.out.size b5)
  have Np := Lib.hid (Np.out.keep b5)
  have Nq := Lib.hid (Nq.out.keep b5)
  have Kp := Lib.hid (keep_block b5 Kp.out)
  have Kq := Lib.hid (keep_block b5 Kq.out)
  clear b5 hf5
  obtain ⟨qp0, qp1, qp2, qp3, -, -, -, -⟩ := res4_facts Kp.out
  obtain ⟨qq0, qq1, qq2, qq3, -, -, -, -⟩ := res4_facts Kq.out
  go_wp2_with fail
  clear qp0 qp1 qp2 qp3 qq0 qq1 qq2 qq3
  refine (cmpBn (0) Np.out Nq.out HT.out (by decide) (by decide) HC.out).mono ?_
  rintro _ w6 ⟨rfl, b6⟩
  have HT := Lib.hid (HT.out.keep b6)
  have HW := Lib.hid (bl_pack HW.out HW.out.size b6)
  have Np := Lib.hid (Np.out.keep b6)
  have Nq := Lib.hid (Nq.out.keep b6)
  have Kp := Lib.hid (keep_block b6 Kp.out)
  have Kq := Lib.hid (keep_block b6 Kq.out)
  clear b6
  obtain ⟨qp0, qp1, qp2, qp3, -, -, -, -⟩ := res4_facts Kp.out
  obtain ⟨qq0, qq1, qq2, qq3, -, -, -, -⟩ := res4_facts Kq.out
  go_wp2_with fail
  clear qp0 qp1 qp2 qp3 qq0 qq1 qq2 qq3
  refine (cmpBn (-(0)) Nq.out Np.out HT.out (by decide) (by decide) HD.out).mono ?_
  rintro _ w7 ⟨rfl, b7⟩
  have HT := Lib.hid (HT.out.keep b7)
  have HW := Lib.hid (bl_pack HW.out HW.out.size b7)
  have Np := Lib.hid (Np.out.keep b7)
  have Nq := Lib.hid (Nq.out.keep b7)
  have Kp := Lib.hid (keep_block b7 Kp.out)
  have Kq := Lib.hid (keep_block b7 Kq.out)
  clear b7
  obtain ⟨qp0, qp1, qp2, qp3, -, -, -, -⟩ := res4_facts Kp.out
  obtain ⟨qq0, qq1, qq2, qq3, -, -, -, -⟩ := res4_facts Kq.out
  go_wp2_with fail
  clear qp0 qp1 qp2 qp3 qq0 qq1 qq2 qq3
  refine (addB 1075 Np.out Nq.out HT.out (by decide) (by decide) (by decide)).mono ?_
  rintro _ w8 ⟨vs, rfl, Ms, b8⟩
  have HT := Lib.hid (HT.out.keep b8)
  have HW := Lib.hid (bl_pack HW.out HW.out.size b8)
  have Np := Lib.hid (Np.out.keep b8)
  have Nq := Lib.hid (Nq.out.keep b8)
  have Kp := Lib.hid (keep_block b8 Kp.out)
  have Kq := Lib.hid (keep_block b8 Kq.out)
  have Ns := Lib.hid Ms
  clear b8 Ms
  obtain ⟨ps, ns, cs, es, gs, rfl⟩ := Ns.out.form
  obtain ⟨qp0, qp1, qp2, qp3, -, -, -, -⟩ := res4_facts Kp.out
  obtain ⟨qq0, qq1, qq2, qq3, -, -, -, -⟩ := res4_facts Kq.out
  go_wp2_with fail
  clear qp0 qp1 qp2 qp3 qq0 qq1 qq2 qq3
  refine (floatB Ns.out).mono ?_
  rintro _ w9 ⟨f9, rfl, hf9, b9⟩
  have o9 := hf9.eq FA.out
  have HT := Lib.hid (HT.out.keep b9)
  have HW := Lib.hid (bl_pack HW.out HW.out.size b9)
  have Np := Lib.hid (Np.out.keep b9)
  have Nq := Lib.hid (Nq.out.keep b9)
  have Ns := Lib.hid (Ns.out.keep b9)
  have Kp := Lib.hid (keep_block b9 Kp.out)
  have Kq := Lib.hid (keep_block b9 Kq.out)
  clear b9 hf9
  obtain ⟨qp0, qp1, qp2, qp3, -, -, -, -⟩ := res4_facts Kp.out
  obtain ⟨qq0, qq1, qq2, qq3, -, -, -, -⟩ := res4_facts Kq.out
  go_wp2_with fail
  clear qp0 qp1 qp2 qp3 qq0 qq1 qq2 qq3
  refine (subB 1075 Np.out Nq.out HT.out (by decide) (by decide) (by decide)).mono ?_
  rintro _ w10 ⟨vd, rfl, Md, b10⟩
  have HT := Lib.hid (HT.out.keep b10)
  have HW := Lib.hid (bl_pack HW.out HW.out.size b10)
  have Np := Lib.hid (Np.out.keep b10)
  have Nq := Lib.hid (Nq.out.keep b10)
  have Ns := Lib.hid (Ns.out.keep b10)
  have Kp := Lib.hid (keep_block b10 Kp.out)
  have Kq := Lib.hid (keep_block b10 Kq.out)
  have Nd := Lib.hid Md
  clear b10 Md
  obtain ⟨pd, nd, cd, ed, gd, rfl⟩ := Nd.out.form
  obtain ⟨qp0, qp1, qp2, qp3, -, -, -, -⟩ := res4_facts Kp.out
  obtain ⟨qq0, qq1, qq2, qq3, -, -, -, -⟩ := res4_facts Kq.out
  go_wp2_with fail
  clear qp0 qp1 qp2 qp3 qq0 qq1 qq2 qq3
  refine (floatB Nd.out).mono ?_
  rintro _ w11 ⟨f11, rfl, hf11, b11⟩
  have o11 := hf11.eq FS.out
  have HT := Lib.hid (HT.out.keep b11)
  have HW := Lib.hid (bl_pack HW.out HW.out.size b11)
  have Np := Lib.hid (Np.out.keep b11)
  have Nq := Lib.hid (Nq.out.keep b11)
  have Ns := Lib.hid (Ns.out.keep b11)
  have Nd := Lib.hid (Nd.out.keep b11)
  have Kp := Lib.hid (keep_block b11 Kp.out)
  have Kq := Lib.hid (keep_block b11 Kq.out)
  clear b11 hf11
  obtain ⟨qp0, qp1, qp2, qp3, -, -, -, -⟩ := res4_facts Kp.out
  obtain ⟨qq0, qq1, qq2, qq3, -, -, -, -⟩ := res4_facts Kq.out
  go_wp2_with fail
  clear qp0 qp1 qp2 qp3 qq0 qq1 qq2 qq3
  refine (mulB 2148 Np.out Nq.out HT.out (by decide) (by decide)).mono ?_
  rintro _ w12 ⟨vm, rfl, Mm, b12⟩
  have HT := Lib.hid (HT.out.keep b12)
  have HW := Lib.hid (bl_pack HW.out HW.out.size b12)
  have Np := Lib.hid (Np.out.keep b12)
  have Nq := Lib.hid (Nq.out.keep b12)
  have Ns := Lib.hid (Ns.out.keep b12)
  have Nd := Lib.hid (Nd.out.keep b12)
  have Kp := Lib.hid (keep_block b12 Kp.out)
  have Kq := Lib.hid (keep_block b12 Kq.out)
  have Nm := Lib.hid Mm
  clear b12 Mm
  obtain ⟨pm, nm, cm, em, gm, rfl⟩ := Nm.out.form
  obtain ⟨qp0, qp1, qp2, qp3, -, -, -, -⟩ := res4_facts Kp.out
  obtain ⟨qq0, qq1, qq2, qq3, -, -, -, -⟩ := res4_facts Kq.out
  go_wp2_with fail
  clear qp0 qp1 qp2 qp3 qq0 qq1 qq2 qq3
  refine (floatB Nm.out).mono ?_
  rintro _ w13 ⟨f13, rfl, hf13, b13⟩
  have o13 := hf13.eq FM.out
  have HT := Lib.hid (HT.out.keep b13)
  have HW := Lib.hid (bl_pack HW.out HW.out.size b13)
  have Np := Lib.hid (Np.out.keep b13)
  have Nq := Lib.hid (Nq.out.keep b13)
  have Ns := Lib.hid (Ns.out.keep b13)
  have Nd := Lib.hid (Nd.out.keep b13)
  have Nm := Lib.hid (Nm.out.keep b13)
  have Kp := Lib.hid (keep_block b13 Kp.out)
  have Kq := Lib.hid (keep_block b13 Kq.out)
  clear b13 hf13
  obtain ⟨qp0, qp1, qp2, qp3, -, -, -, -⟩ := res4_facts Kp.out
  obtain ⟨qq0, qq1, qq2, qq3, -, -, -, -⟩ := res4_facts Kq.out
  go_wp2_with fail
  clear qp0 qp1 qp2 qp3 qq0 qq1 qq2 qq3
  refine (ofT a ha _).mono ?_
  rintro _ w14 ⟨vx, rfl, Mx, b14⟩
  have HT := Lib.hid (HT.out.keep b14)
  have HW := Lib.hid (bl_pack HW.out HW.out.size b14)
  have Np := Lib.hid (Np.out.keep b14)
  have Nq := Lib.hid (Nq.out.keep b14)
  have Ns := Lib.hid (Ns.out.keep b14)
  have Nd := Lib.hid (Nd.out.keep b14)
  have Nm := Lib.hid (Nm.out.keep b14)
  have Kp := Lib.hid (keep_block b14 Kp.out)
  have Kq := Lib.hid (keep_block b14 Kq.out)
  have Nx := Lib.hid Mx
  clear b14 Mx
  obtain ⟨qp0, qp1, qp2, qp3, -, -, -, -⟩ := res4_facts Kp.out
  obtain ⟨qq0, qq1, qq2, qq3, -, -, -, -⟩ := res4_facts Kq.out
  go_wp2_with fail
  clear qp0 qp1 qp2 qp3 qq0 qq1 qq2 qq3
  refine (ofT b hb _).mono ?_
  rintro _ w15 ⟨vy, rfl, My, b15⟩
  have HT := Lib.hid (HT.out.keep b15)
  have HW := Lib.hid (bl_pack HW.out HW.out.size b15)
  have Np := Lib.hid (Np.out.keep b15)
  have Nq := Lib.hid (Nq.out.keep b15)
  have Ns := Lib.hid (Ns.out.keep b15)
  have Nd := Lib.hid (Nd.out.keep b15)
  have Nm := Lib.hid (Nm.out.keep b15)
  have Nx := Lib.hid (Nx.out.keep b15)
  have Kp := Lib.hid (keep_block b15 Kp.out)
  have Kq := Lib.hid (keep_block b15 Kq.out)
  have Ny := Lib.hid My
  clear b15 My
  obtain ⟨qp0, qp1, qp2, qp3, -, -, -, -⟩ := res4_facts Kp.out
  obtain ⟨qq0, qq1, qq2, qq3, -, -, -, -⟩ := res4_facts Kq.out
  go_wp2_with fail
  clear qp0 qp1 qp2 qp3 qq0 qq1 qq2 qq3
  refine (addT Nx.out Ny.out (by decide)).mono ?_
  rintro _ w16 ⟨vz, rfl, Mz, b16⟩
  have HT := Lib.hid (HT.out.keep b16)
  have HW := Lib.hid (bl_pack HW.out HW.out.size b16)
  have Np := Lib.hid (Np.out.keep b16)
  have Nq := Lib.hid (Nq.out.keep b16)
  have Ns := Lib.hid (Ns.out.keep b16)
  have Nd := Lib.hid (Nd.out.keep b16)
  have Nm := Lib.hid (Nm.out.keep b16)
  have Nx := Lib.hid (Nx.out.keep b16)
  have Ny := Lib.hid (Ny.out.keep b16)
  have Kp := Lib.hid (keep_block b16 Kp.out)
  have Kq := Lib.hid (keep_block b16 Kq.out)
  have Nz := Lib.hid Mz
  clear b16 Mz
  obtain ⟨qp0, qp1, qp2, qp3, -, -, -, -⟩ := res4_facts Kp.out
  obtain ⟨qq0, qq1, qq2, qq3, -, -, -, -⟩ := res4_facts Kq.out
  go_wp2_with fail
  clear qp0 qp1 qp2 qp3 qq0 qq1 qq2 qq3
  rw [ov_fr fa, ov_fr fb] at Nz
  refine (roundsT (fadd a b) FA.out.1 _ Nz.out (by decide) FA.out.2.1 FA.out.2.2).mono ?_
  rintro _ w17 ⟨rfl, b17⟩
  have HT := Lib.hid (HT.out.keep b17)
  have HW := Lib.hid (bl_pack HW.out HW.out.size b17)
  have Np := Lib.hid (Np.out.keep b17)
  have Nq := Lib.hid (Nq.out.keep b17)
  have Ns := Lib.hid (Ns.out.keep b17)
  have Nd := Lib.hid (Nd.out.keep b17)
  have Nm := Lib.hid (Nm.out.keep b17)
  have Nx := Lib.hid (Nx.out.keep b17)
  have Ny := Lib.hid (Ny.out.keep b17)
  have Nz := Lib.hid (Nz.out.keep b17)
  have Kp := Lib.hid (keep_block b17 Kp.out)
  have Kq := Lib.hid (keep_block b17 Kq.out)
  clear b17
  obtain ⟨qp0, qp1, qp2, qp3, -, -, -, -⟩ := res4_facts Kp.out
  obtain ⟨qq0, qq1, qq2, qq3, -, -, -, -⟩ := res4_facts Kq.out
  go_wp2_with fail
  clear qp0 qp1 qp2 qp3 qq0 qq1 qq2 qq3
  refine (ofT a ha _).mono ?_
  rintro _ w18 ⟨vu, rfl, Mu, b18⟩
  have HT := Lib.hid (HT.out.keep b18)
  have HW := Lib.hid (bl_pack HW.out HW.out.size b18)
  have Np := Lib.hid (Np.out.keep b18)
  have Nq := Lib.hid (Nq.out.keep b18)
  have Ns := Lib.hid (Ns.out.keep b18)
  have Nd := Lib.hid (Nd.out.keep b18)
  have Nm := Lib.hid (Nm.out.keep b18)
  have Nx := Lib.hid (Nx.out.keep b18)
  have Ny := Lib.hid (Ny.out.keep b18)
  have Nz := Lib.hid (Nz.out.keep b18)
  have Kp := Lib.hid (keep_block b18 Kp.out)
  have Kq := Lib.hid (keep_block b18 Kq.out)
  have Nu := Lib.hid Mu
  clear b18 Mu
  obtain ⟨qp0, qp1, qp2, qp3, -, -, -, -⟩ := res4_facts Kp.out
  obtain ⟨qq0, qq1, qq2, qq3, -, -, -, -⟩ := res4_facts Kq.out
  go_wp2_with fail
  clear qp0 qp1 qp2 qp3 qq0 qq1 qq2 qq3
  refine (ofT b hb _).mono ?_
  rintro _ w19 ⟨vv, rfl, Mv, b19⟩
  have HT := Lib.hid (HT.out.keep b19)
  have HW := Lib.hid (bl_pack HW.out HW.out.size b19)
  have Np := Lib.hid (Np.out.keep b19)
  have Nq := Lib.hid (Nq.out.keep b19)
  have Ns := Lib.hid (Ns.out.keep b19)
  have Nd := Lib.hid (Nd.out.keep b19)
  have Nm := Lib.hid (Nm.out.keep b19)
  have Nx := Lib.hid (Nx.out.keep b19)
  have Ny := Lib.hid (Ny.out.keep b19)
  have Nz := Lib.hid (Nz.out.keep b19)
  have Nu := Lib.hid (Nu.out.keep b19)
  have Kp := Lib.hid (keep_block b19 Kp.out)
  have Kq := Lib.hid (keep_block b19 Kq.out)
  have Nv := Lib.hid Mv
  clear b19 Mv
  obtain ⟨qp0, qp1, qp2, qp3, -, -, -, -⟩ := res4_facts Kp.out
  obtain ⟨qq0, qq1, qq2, qq3, -, -, -, -⟩ := res4_facts Kq.out
  go_wp2_with fail
  clear qp0 qp1 qp2 qp3 qq0 qq1 qq2 qq3
  refine (mulT Nu.out Nv.out (by decide) (by decide)).mono ?_
  rintro _ w20 ⟨vt, rfl, Mt, b20⟩
  have HT := Lib.hid (HT.out.keep b20)
  have HW := Lib.hid (bl_pack HW.out HW.out.size b20)
  have Np := Lib.hid (Np.out.keep b20)
  have Nq := Lib.hid (Nq.out.keep b20)
  have Ns := Lib.hid (Ns.out.keep b20)
  have Nd := Lib.hid (Nd.out.keep b20)
  have Nm := Lib.hid (Nm.out.keep b20)
  have Nx := Lib.hid (Nx.out.keep b20)
  have Ny := Lib.hid (Ny.out.keep b20)
  have Nz := Lib.hid (Nz.out.keep b20)
  have Nu := Lib.hid (Nu.out.keep b20)
  have Nv := Lib.hid (Nv.out.keep b20)
  have Kp := Lib.hid (keep_block b20 Kp.out)
  have Kq := Lib.hid (keep_block b20 Kq.out)
  have Nt := Lib.hid Mt
  clear b20 Mt
  obtain ⟨qp0, qp1, qp2, qp3, -, -, -, -⟩ := res4_facts Kp.out
  obtain ⟨qq0, qq1, qq2, qq3, -, -, -, -⟩ := res4_facts Kq.out
  go_wp2_with fail
  clear qp0 qp1 qp2 qp3 qq0 qq1 qq2 qq3
  rw [ov_fr fa, ov_fr fb] at Nt
  refine (roundsT (fmul a b) FM.out.1 _ Nt.out (by decide) FM.out.2.1 FM.out.2.2).mono ?_
  rintro _ w21 ⟨rfl, b21⟩
  have HT := Lib.hid (HT.out.keep b21)
  have HW := Lib.hid (bl_pack HW.out HW.out.size b21)
  have Np := Lib.hid (Np.out.keep b21)
  have Nq := Lib.hid (Nq.out.keep b21)
  have Ns := Lib.hid (Ns.out.keep b21)
  have Nd := Lib.hid (Nd.out.keep b21)
  have Nm := Lib.hid (Nm.out.keep b21)
  have Nx := Lib.hid (Nx.out.keep b21)
  have Ny := Lib.hid (Ny.out.keep b21)
  have Nz := Lib.hid (Nz.out.keep b21)
  have Nu := Lib.hid (Nu.out.keep b21)
  have Nv := Lib.hid (Nv.out.keep b21)
  have Nt := Lib.hid (Nt.out.keep b21)
  have Kp := Lib.hid (keep_block b21 Kp.out)
  have Kq := Lib.hid (keep_block b21 Kq.out)
  clear b21
  obtain ⟨qp0, qp1, qp2, qp3, -, -, -, -⟩ := res4_facts Kp.out
  obtain ⟨qq0, qq1, qq2, qq3, -, -, -, -⟩ := res4_facts Kq.out
  go_wp2_with fail
  clear qp0 qp1 qp2 qp3 qq0 qq1 qq2 qq3
  go_ret
  exact ⟨rfl, HW.out⟩
set_option maxRecDepth 100000 in
set_option maxHeartbeats 4000000 in
theorem floats_gt {w : World} (ht : TabOk w) (a b : Nat) (ha : a < 18446744073709551616) (hb : b < 18446744073709551616) (fa : rung a < inf) (fb : rung b < inf) (ho : FloatKind.f64.format.order a b = some .gt) (hc : rs (fr a - fr b) = 1) :
    Calls Tryd.prog 6 #[.float .f64 a, .float .f64 b] w fun x w' => x = .returned (.bool true) ∧ Below w.heap.size w w' := by
  go_enter Tryd.func6, Tryd.ntmps6
  have HT := Lib.hid (show Tb 0 w from ⟨ht, Nat.zero_le _⟩)
  have HW := Lib.hid (Below.refl w.heap.size w)
  clear ht
  go_wp2_with fail
  refine (ofB a ha fa HT.out).mono ?_
  rintro _ w1 ⟨vp, rfl, Mp, b1⟩
  have HT := Lib.hid (HT.out.keep b1)
  have HW := Lib.hid (bl_pack HW.out HW.out.size b1)
  have Np := Lib.hid Mp
  clear b1 Mp
  obtain ⟨pp, np, cp, ep, gp, rfl⟩ := Np.out.form
  obtain ⟨Wp, hWp, Bp, -, Jp⟩ := box_res w1 (.cells #[.slice pp np cp, .int .i64 ep, .bool gp, .bool false] 29)
  go_upto_region 2 with (fail)
  rw [← hWp]
  clear hWp
  have HT := Lib.hid (HT.out.keep Bp)
  have HW := Lib.hid (bl_pack HW.out HW.out.size Bp)
  have Np := Lib.hid (Np.out.keep Bp)
  have Kp := Lib.hid Jp
  clear Bp Jp
  obtain ⟨qp0, qp1, qp2, qp3, -, -, -, -⟩ := res4_facts Kp.out
  go_wp2_with fail
  refine (ofB b hb fb HT.out).mono ?_
  rintro _ w2 ⟨vq, rfl, Mq, b2⟩
  have HT := Lib.hid (HT.out.keep b2)
  have HW := Lib.hid (bl_pack HW.out HW.out.size b2)
  have Np := Lib.hid (Np.out.keep b2)
  have Kp := Lib.hid (keep_block b2 Kp.out)
  have Nq := Lib.hid Mq
  clear b2 Mq
  clear qp0 qp1 qp2 qp3
  obtain ⟨pq, nq, cq, eq, gq, rfl⟩ := Nq.out.form
  obtain ⟨Wq, hWq, Bq, -, Jq⟩ := box_res w2 (.cells #[.slice pq nq cq, .int .i64 eq, .bool gq, .bool false] 29)
  go_upto_region 3 with (fail)
  rw [← hWq]
  clear hWq
  have HT := Lib.hid (HT.out.keep Bq)
  have HW := Lib.hid (bl_pack HW.out HW.out.size Bq)
  have Np := Lib.hid (Np.out.keep Bq)
  have Nq := Lib.hid (Nq.out.keep Bq)
  have Kp := Lib.hid (keep_block Bq Kp.out)
  have Kq := Lib.hid Jq
  clear Bq Jq
  obtain ⟨qp0, qp1, qp2, qp3, -, -, -, -⟩ := res4_facts Kp.out
  obtain ⟨qq0, qq1, qq2, qq3, -, -, -, -⟩ := res4_facts Kq.out
  obtain ⟨sa1, za⟩ := self0 fa
  obtain ⟨sb1, zb⟩ := self0 fb
  have oz : FloatKind.f64.format.order 0 0 = some .eq := FloOf.eq FloOf.zero FloOf.zero
  obtain ⟨sA, fA⟩ := flo_add fa fb
  obtain ⟨sS, fS⟩ := flo_sub fa fb
  obtain ⟨sM, fM⟩ := flo_mul fa fb
  have FA := Lib.hid fA
  have FS := Lib.hid fS
  have FM := Lib.hid fM
  clear fA fS fM
  have FPA := Lib.hid (FloOf.fin ha fa)
  have FPB := Lib.hid (FloOf.fin hb fb)
  have hd : rs (fr b - fr a) = -(1) := by rw [rs_flip, hc]
  have HC := Lib.hid hc
  have HD := Lib.hid hd
  clear hc hd
  go_wp2_with fail
  clear qp0 qp1 qp2 qp3 qq0 qq1 qq2 qq3
  refine (floatB Np.out).mono ?_
  rintro _ w4 ⟨f4, rfl, hf4, b4⟩
  have o4 := hf4.eq FPA.out
  have HT := Lib.hid (HT.out.keep b4)
  have HW := Lib.hid (bl_pack HW.out HW.out.size b4)
  have Np := Lib.hid (Np.out.keep b4)
  have Nq := Lib.hid (Nq.out.keep b4)
  have Kp := Lib.hid (keep_block b4 Kp.out)
  have Kq := Lib.hid (keep_block b4 Kq.out)
  clear b4 hf4
  obtain ⟨qp0, qp1, qp2, qp3, -, -, -, -⟩ := res4_facts Kp.out
  obtain ⟨qq0, qq1, qq2, qq3, -, -, -, -⟩ := res4_facts Kq.out
  go_wp2_with fail
  clear qp0 qp1 qp2 qp3 qq0 qq1 qq2 qq3
  refine (floatB Nq.out).mono ?_
  rintro _ w5 ⟨f5, rfl, hf5, b5⟩
  have o5 := hf5.eq FPB.out
  have HT := Lib.hid (HT.out.keep b5)
  have HW := Lib.hid (bl_pack HW.out HW.out.size b5)
  have Np := Lib.hid (Np.out.keep b5)
  have Nq := Lib.hid (Nq.out.keep b5)
  have Kp := Lib.hid (keep_block b5 Kp.out)
  have Kq := Lib.hid (keep_block b5 Kq.out)
  clear b5 hf5
  obtain ⟨qp0, qp1, qp2, qp3, -, -, -, -⟩ := res4_facts Kp.out
  obtain ⟨qq0, qq1, qq2, qq3, -, -, -, -⟩ := res4_facts Kq.out
  go_wp2_with fail
  clear qp0 qp1 qp2 qp3 qq0 qq1 qq2 qq3
  refine (cmpBn (1) Np.out Nq.out HT.out (by decide) (by decide) HC.out).mono ?_
  rintro _ w6 ⟨rfl, b6⟩
  have HT := Lib.hid (HT.out.keep b6)
  have HW := Lib.hid (bl_pack HW.out HW.out.size b6)
  have Np := Lib.hid (Np.out.keep b6)
  have Nq := Lib.hid (Nq.out.keep b6)
  have Kp := Lib.hid (keep_block b6 Kp.out)
  have Kq := Lib.hid (keep_block b6 Kq.out)
  clear b6
  obtain ⟨qp0, qp1, qp2, qp3, -, -, -, -⟩ := res4_facts Kp.out
  obtain ⟨qq0, qq1, qq2, qq3, -, -, -, -⟩ := res4_facts Kq.out
  go_wp2_with fail
  clear qp0 qp1 qp2 qp3 qq0 qq1 qq2 qq3
  refine (cmpBn (-(1)) Nq.out Np.out HT.out (by decide) (by decide) HD.out).mono ?_
  rintro _ w7 ⟨rfl, b7⟩
  have HT := Lib.hid (HT.out.keep b7)
  have HW := Lib.hid (bl_pack HW.out HW.out.size b7)
  have Np := Lib.hid (Np.out.keep b7)
  have Nq := Lib.hid (Nq.out.keep b7)
  have Kp := Lib.hid (keep_block b7 Kp.out)
  have Kq := Lib.hid (keep_block b7 Kq.out)
  clear b7
  obtain ⟨qp0, qp1, qp2, qp3, -, -, -, -⟩ := res4_facts Kp.out
  obtain ⟨qq0, qq1, qq2, qq3, -, -, -, -⟩ := res4_facts Kq.out
  go_wp2_with fail
  clear qp0 qp1 qp2 qp3 qq0 qq1 qq2 qq3
  refine (addB 1075 Np.out Nq.out HT.out (by decide) (by decide) (by decide)).mono ?_
  rintro _ w8 ⟨vs, rfl, Ms, b8⟩
  have HT := Lib.hid (HT.out.keep b8)
  have HW := Lib.hid (bl_pack HW.out HW.out.size b8)
  have Np := Lib.hid (Np.out.keep b8)
  have Nq := Lib.hid (Nq.out.keep b8)
  have Kp := Lib.hid (keep_block b8 Kp.out)
  have Kq := Lib.hid (keep_block b8 Kq.out)
  have Ns := Lib.hid Ms
  clear b8 Ms
  obtain ⟨ps, ns, cs, es, gs, rfl⟩ := Ns.out.form
  obtain ⟨qp0, qp1, qp2, qp3, -, -, -, -⟩ := res4_facts Kp.out
  obtain ⟨qq0, qq1, qq2, qq3, -, -, -, -⟩ := res4_facts Kq.out
  go_wp2_with fail
  clear qp0 qp1 qp2 qp3 qq0 qq1 qq2 qq3
  refine (floatB Ns.out).mono ?_
  rintro _ w9 ⟨f9, rfl, hf9, b9⟩
  have o9 := hf9.eq FA.out
  have HT := Lib.hid (HT.out.keep b9)
  have HW := Lib.hid (bl_pack HW.out HW.out.size b9)
  have Np := Lib.hid (Np.out.keep b9)
  have Nq := Lib.hid (Nq.out.keep b9)
  have Ns := Lib.hid (Ns.out.keep b9)
  have Kp := Lib.hid (keep_block b9 Kp.out)
  have Kq := Lib.hid (keep_block b9 Kq.out)
  clear b9 hf9
  obtain ⟨qp0, qp1, qp2, qp3, -, -, -, -⟩ := res4_facts Kp.out
  obtain ⟨qq0, qq1, qq2, qq3, -, -, -, -⟩ := res4_facts Kq.out
  go_wp2_with fail
  clear qp0 qp1 qp2 qp3 qq0 qq1 qq2 qq3
  refine (subB 1075 Np.out Nq.out HT.out (by decide) (by decide) (by decide)).mono ?_
  rintro _ w10 ⟨vd, rfl, Md, b10⟩
  have HT := Lib.hid (HT.out.keep b10)
  have HW := Lib.hid (bl_pack HW.out HW.out.size b10)
  have Np := Lib.hid (Np.out.keep b10)
  have Nq := Lib.hid (Nq.out.keep b10)
  have Ns := Lib.hid (Ns.out.keep b10)
  have Kp := Lib.hid (keep_block b10 Kp.out)
  have Kq := Lib.hid (keep_block b10 Kq.out)
  have Nd := Lib.hid Md
  clear b10 Md
  obtain ⟨pd, nd, cd, ed, gd, rfl⟩ := Nd.out.form
  obtain ⟨qp0, qp1, qp2, qp3, -, -, -, -⟩ := res4_facts Kp.out
  obtain ⟨qq0, qq1, qq2, qq3, -, -, -, -⟩ := res4_facts Kq.out
  go_wp2_with fail
  clear qp0 qp1 qp2 qp3 qq0 qq1 qq2 qq3
  refine (floatB Nd.out).mono ?_
  rintro _ w11 ⟨f11, rfl, hf11, b11⟩
  have o11 := hf11.eq FS.out
  have HT := Lib.hid (HT.out.keep b11)
  have HW := Lib.hid (bl_pack HW.out HW.out.size b11)
  have Np := Lib.hid (Np.out.keep b11)
  have Nq := Lib.hid (Nq.out.keep b11)
  have Ns := Lib.hid (Ns.out.keep b11)
  have Nd := Lib.hid (Nd.out.keep b11)
  have Kp := Lib.hid (keep_block b11 Kp.out)
  have Kq := Lib.hid (keep_block b11 Kq.out)
  clear b11 hf11
  obtain ⟨qp0, qp1, qp2, qp3, -, -, -, -⟩ := res4_facts Kp.out
  obtain ⟨qq0, qq1, qq2, qq3, -, -, -, -⟩ := res4_facts Kq.out
  go_wp2_with fail
  clear qp0 qp1 qp2 qp3 qq0 qq1 qq2 qq3
  refine (mulB 2148 Np.out Nq.out HT.out (by decide) (by decide)).mono ?_
  rintro _ w12 ⟨vm, rfl, Mm, b12⟩
  have HT := Lib.hid (HT.out.keep b12)
  have HW := Lib.hid (bl_pack HW.out HW.out.size b12)
  have Np := Lib.hid (Np.out.keep b12)
  have Nq := Lib.hid (Nq.out.keep b12)
  have Ns := Lib.hid (Ns.out.keep b12)
  have Nd := Lib.hid (Nd.out.keep b12)
  have Kp := Lib.hid (keep_block b12 Kp.out)
  have Kq := Lib.hid (keep_block b12 Kq.out)
  have Nm := Lib.hid Mm
  clear b12 Mm
  obtain ⟨pm, nm, cm, em, gm, rfl⟩ := Nm.out.form
  obtain ⟨qp0, qp1, qp2, qp3, -, -, -, -⟩ := res4_facts Kp.out
  obtain ⟨qq0, qq1, qq2, qq3, -, -, -, -⟩ := res4_facts Kq.out
  go_wp2_with fail
  clear qp0 qp1 qp2 qp3 qq0 qq1 qq2 qq3
  refine (floatB Nm.out).mono ?_
  rintro _ w13 ⟨f13, rfl, hf13, b13⟩
  have o13 := hf13.eq FM.out
  have HT := Lib.hid (HT.out.keep b13)
  have HW := Lib.hid (bl_pack HW.out HW.out.size b13)
  have Np := Lib.hid (Np.out.keep b13)
  have Nq := Lib.hid (Nq.out.keep b13)
  have Ns := Lib.hid (Ns.out.keep b13)
  have Nd := Lib.hid (Nd.out.keep b13)
  have Nm := Lib.hid (Nm.out.keep b13)
  have Kp := Lib.hid (keep_block b13 Kp.out)
  have Kq := Lib.hid (keep_block b13 Kq.out)
  clear b13 hf13
  obtain ⟨qp0, qp1, qp2, qp3, -, -, -, -⟩ := res4_facts Kp.out
  obtain ⟨qq0, qq1, qq2, qq3, -, -, -, -⟩ := res4_facts Kq.out
  go_wp2_with fail
  clear qp0 qp1 qp2 qp3 qq0 qq1 qq2 qq3
  refine (ofT a ha _).mono ?_
  rintro _ w14 ⟨vx, rfl, Mx, b14⟩
  have HT := Lib.hid (HT.out.keep b14)
  have HW := Lib.hid (bl_pack HW.out HW.out.size b14)
  have Np := Lib.hid (Np.out.keep b14)
  have Nq := Lib.hid (Nq.out.keep b14)
  have Ns := Lib.hid (Ns.out.keep b14)
  have Nd := Lib.hid (Nd.out.keep b14)
  have Nm := Lib.hid (Nm.out.keep b14)
  have Kp := Lib.hid (keep_block b14 Kp.out)
  have Kq := Lib.hid (keep_block b14 Kq.out)
  have Nx := Lib.hid Mx
  clear b14 Mx
  obtain ⟨qp0, qp1, qp2, qp3, -, -, -, -⟩ := res4_facts Kp.out
  obtain ⟨qq0, qq1, qq2, qq3, -, -, -, -⟩ := res4_facts Kq.out
  go_wp2_with fail
  clear qp0 qp1 qp2 qp3 qq0 qq1 qq2 qq3
  refine (ofT b hb _).mono ?_
  rintro _ w15 ⟨vy, rfl, My, b15⟩
  have HT := Lib.hid (HT.out.keep b15)
  have HW := Lib.hid (bl_pack HW.out HW.out.size b15)
  have Np := Lib.hid (Np.out.keep b15)
  have Nq := Lib.hid (Nq.out.keep b15)
  have Ns := Lib.hid (Ns.out.keep b15)
  have Nd := Lib.hid (Nd.out.keep b15)
  have Nm := Lib.hid (Nm.out.keep b15)
  have Nx := Lib.hid (Nx.out.keep b15)
  have Kp := Lib.hid (keep_block b15 Kp.out)
  have Kq := Lib.hid (keep_block b15 Kq.out)
  have Ny := Lib.hid My
  clear b15 My
  obtain ⟨qp0, qp1, qp2, qp3, -, -, -, -⟩ := res4_facts Kp.out
  obtain ⟨qq0, qq1, qq2, qq3, -, -, -, -⟩ := res4_facts Kq.out
  go_wp2_with fail
  clear qp0 qp1 qp2 qp3 qq0 qq1 qq2 qq3
  refine (addT Nx.out Ny.out (by decide)).mono ?_
  rintro _ w16 ⟨vz, rfl, Mz, b16⟩
  have HT := Lib.hid (HT.out.keep b16)
  have HW := Lib.hid (bl_pack HW.out HW.out.size b16)
  have Np := Lib.hid (Np.out.keep b16)
  have Nq := Lib.hid (Nq.out.keep b16)
  have Ns := Lib.hid (Ns.out.keep b16)
  have Nd := Lib.hid (Nd.out.keep b16)
  have Nm := Lib.hid (Nm.out.keep b16)
  have Nx := Lib.hid (Nx.out.keep b16)
  have Ny := Lib.hid (Ny.out.keep b16)
  have Kp := Lib.hid (keep_block b16 Kp.out)
  have Kq := Lib.hid (keep_block b16 Kq.out)
  have Nz := Lib.hid Mz
  clear b16 Mz
  obtain ⟨qp0, qp1, qp2, qp3, -, -, -, -⟩ := res4_facts Kp.out
  obtain ⟨qq0, qq1, qq2, qq3, -, -, -, -⟩ := res4_facts Kq.out
  go_wp2_with fail
  clear qp0 qp1 qp2 qp3 qq0 qq1 qq2 qq3
  rw [ov_fr fa, ov_fr fb] at Nz
  refine (roundsT (fadd a b) FA.out.1 _ Nz.out (by decide) FA.out.2.1 FA.out.2.2).mono ?_
  rintro _ w17 ⟨rfl, b17⟩
  have HT := Lib.hid (HT.out.keep b17)
  have HW := Lib.hid (bl_pack HW.out HW.out.size b17)
  have Np := Lib.hid (Np.out.keep b17)
  have Nq := Lib.hid (Nq.out.keep b17)
  have Ns := Lib.hid (Ns.out.keep b17)
  have Nd := Lib.hid (Nd.out.keep b17)
  have Nm := Lib.hid (Nm.out.keep b17)
  have Nx := Lib.hid (Nx.out.keep b17)
  have Ny := Lib.hid (Ny.out.keep b17)
  have Nz := Lib.hid (Nz.out.keep b17)
  have Kp := Lib.hid (keep_block b17 Kp.out)
  have Kq := Lib.hid (keep_block b17 Kq.out)
  clear b17
  obtain ⟨qp0, qp1, qp2, qp3, -, -, -, -⟩ := res4_facts Kp.out
  obtain ⟨qq0, qq1, qq2, qq3, -, -, -, -⟩ := res4_facts Kq.out
  go_wp2_with fail
  clear qp0 qp1 qp2 qp3 qq0 qq1 qq2 qq3
  refine (ofT a ha _).mono ?_
  rintro _ w18 ⟨vu, rfl, Mu, b18⟩
  have HT := Lib.hid (HT.out.keep b18)
  have HW := Lib.hid (bl_pack HW.out HW.out.size b18)
  have Np := Lib.hid (Np.out.keep b18)
  have Nq := Lib.hid (Nq.out.keep b18)
  have Ns := Lib.hid (Ns.out.keep b18)
  have Nd := Lib.hid (Nd.out.keep b18)
  have Nm := Lib.hid (Nm.out.keep b18)
  have Nx := Lib.hid (Nx.out.keep b18)
  have Ny := Lib.hid (Ny.out.keep b18)
  have Nz := Lib.hid (Nz.out.keep b18)
  have Kp := Lib.hid (keep_block b18 Kp.out)
  have Kq := Lib.hid (keep_block b18 Kq.out)
  have Nu := Lib.hid Mu
  clear b18 Mu
  obtain ⟨qp0, qp1, qp2, qp3, -, -, -, -⟩ := res4_facts Kp.out
  obtain ⟨qq0, qq1, qq2, qq3, -, -, -, -⟩ := res4_facts Kq.out
  go_wp2_with fail
  clear qp0 qp1 qp2 qp3 qq0 qq1 qq2 qq3
  refine (ofT b hb _).mono ?_
  rintro _ w19 ⟨vv, rfl, Mv, b19⟩
  have HT := Lib.hid (HT.out.keep b19)
  have HW := Lib.hid (bl_pack HW.out HW.out.size b19)
  have Np := Lib.hid (Np.out.keep b19)
  have Nq := Lib.hid (Nq.out.keep b19)
  have Ns := Lib.hid (Ns.out.keep b19)
  have Nd := Lib.hid (Nd.out.keep b19)
  have Nm := Lib.hid (Nm.out.keep b19)
  have Nx := Lib.hid (Nx.out.keep b19)
  have Ny := Lib.hid (Ny.out.keep b19)
  have Nz := Lib.hid (Nz.out.keep b19)
  have Nu := Lib.hid (Nu.out.keep b19)
  have Kp := Lib.hid (keep_block b19 Kp.out)
  have Kq := Lib.hid (keep_block b19 Kq.out)
  have Nv := Lib.hid Mv
  clear b19 Mv
  obtain ⟨qp0, qp1, qp2, qp3, -, -, -, -⟩ := res4_facts Kp.out
  obtain ⟨qq0, qq1, qq2, qq3, -, -, -, -⟩ := res4_facts Kq.out
  go_wp2_with fail
  clear qp0 qp1 qp2 qp3 qq0 qq1 qq2 qq3
  refine (mulT Nu.out Nv.out (by decide) (by decide)).mono ?_
  rintro _ w20 ⟨vt, rfl, Mt, b20⟩
  have HT := Lib.hid (HT.out.keep b20)
  have HW := Lib.hid (bl_pack HW.out HW.out.size b20)
  have Np := Lib.hid (Np.out.keep b20)
  have Nq := Lib.hid (Nq.out.keep b20)
  have Ns := Lib.hid (Ns.out.keep b20)
  have Nd := Lib.hid (Nd.out.keep b20)
  have Nm := Lib.hid (Nm.out.keep b20)
  have Nx := Lib.hid (Nx.out.keep b20)
  have Ny := Lib.hid (Ny.out.keep b20)
  have Nz := Lib.hid (Nz.out.keep b20)
  have Nu := Lib.hid (Nu.out.keep b20)
  have Nv := Lib.hid (Nv.out.keep b20)
  have Kp := Lib.hid (keep_block b20 Kp.out)
  have Kq := Lib.hid (keep_block b20 Kq.out)
  have Nt := Lib.hid Mt
  clear b20 Mt
  obtain ⟨qp0, qp1, qp2, qp3, -, -, -, -⟩ := res4_facts Kp.out
  obtain ⟨qq0, qq1, qq2, qq3, -, -, -, -⟩ := res4_facts Kq.out
  go_wp2_with fail
  clear qp0 qp1 qp2 qp3 qq0 qq1 qq2 qq3
  rw [ov_fr fa, ov_fr fb] at Nt
  refine (roundsT (fmul a b) FM.out.1 _ Nt.out (by decide) FM.out.2.1 FM.out.2.2).mono ?_
  rintro _ w21 ⟨rfl, b21⟩
  have HT := Lib.hid (HT.out.keep b21)
  have HW := Lib.hid (bl_pack HW.out HW.out.size b21)
  have Np := Lib.hid (Np.out.keep b21)
  have Nq := Lib.hid (Nq.out.keep b21)
  have Ns := Lib.hid (Ns.out.keep b21)
  have Nd := Lib.hid (Nd.out.keep b21)
  have Nm := Lib.hid (Nm.out.keep b21)
  have Nx := Lib.hid (Nx.out.keep b21)
  have Ny := Lib.hid (Ny.out.keep b21)
  have Nz := Lib.hid (Nz.out.keep b21)
  have Nu := Lib.hid (Nu.out.keep b21)
  have Nv := Lib.hid (Nv.out.keep b21)
  have Nt := Lib.hid (Nt.out.keep b21)
  have Kp := Lib.hid (keep_block b21 Kp.out)
  have Kq := Lib.hid (keep_block b21 Kq.out)
  clear b21
  obtain ⟨qp0, qp1, qp2, qp3, -, -, -, -⟩ := res4_facts Kp.out
  obtain ⟨qq0, qq1, qq2, qq3, -, -, -, -⟩ := res4_facts Kq.out
  go_wp2_with fail
  clear qp0 qp1 qp2 qp3 qq0 qq1 qq2 qq3
  go_ret
  exact ⟨rfl, HW.out⟩

theorem addNN {F : Nat} {w : World} (ht : Tb F w) : Calls Tryd.prog 10 #[NONE, NONE] w (Ret1 NONE w) := by
  refine (wAdd_calls (none_num (fun _ => True) w) (none_num _ w) ht.tab).mono ?_
  rintro x w' ⟨o, rfl, h⟩
  exact retW_none h
theorem mulNN {F : Nat} {w : World} (ht : Tb F w) : Calls Tryd.prog 14 #[NONE, NONE] w (Ret1 NONE w) := by
  refine (wMul_calls (none_num (fun _ => True) w) (none_num _ w) ht.tab).mono ?_
  rintro x w' ⟨o, rfl, h⟩
  exact retW_none h
theorem sub_none {x : Nat} (h : ¬ rung x < inf) : Ieee.double.sub x x = none := by
  rcases Nat.lt_or_eq_of_le (Nat.le_of_not_lt h) with c | c
  · exact sub_nan_left c
  · exact sub_inf_inf c.symm c.symm rfl
set_option maxRecDepth 100000 in
set_option maxHeartbeats 4000000 in
theorem floats_nn {w : World} (ht : TabOk w) (a b : Nat) (ha : a < 18446744073709551616) (hb : b < 18446744073709551616) (fa : ¬ rung a < inf) (fb : ¬ rung b < inf) :
    Calls Tryd.prog 6 #[.float .f64 a, .float .f64 b] w fun x w' => x = .returned (.bool true) ∧ Below w.heap.size w w' := by
  go_enter Tryd.func6, Tryd.ntmps6
  have HT := Lib.hid (show Tb 0 w from ⟨ht, Nat.zero_le _⟩)
  have HW := Lib.hid (Below.refl w.heap.size w)
  clear ht
  go_wp2_with fail
  refine (ofNo a ha fa HT.out).mono ?_
  rintro _ w1 ⟨rfl, b1⟩
  have HT := Lib.hid (HT.out.keep b1)
  have HW := Lib.hid (bl_pack HW.out HW.out.size b1)
  clear b1
  obtain ⟨Wp, hWp, Bp, -, Jp⟩ := box_res w1 (.cells #[.slice none 0 0, .int .i64 0, .bool false, .bool true] 29)
  go_upto_region 2 with (fail)
  rw [← hWp]
  clear hWp
  have HT := Lib.hid (HT.out.keep Bp)
  have HW := Lib.hid (bl_pack HW.out HW.out.size Bp)
  have Kp := Lib.hid Jp
  clear Bp Jp
  obtain ⟨qp0, qp1, qp2, qp3, -, -, -, -⟩ := res4_facts Kp.out
  go_wp2_with fail
  refine (ofNo b hb fb HT.out).mono ?_
  rintro _ w2 ⟨rfl, b2⟩
  have HT := Lib.hid (HT.out.keep b2)
  have HW := Lib.hid (bl_pack HW.out HW.out.size b2)
  have Kp := Lib.hid (keep_block b2 Kp.out)
  clear b2
  clear qp0 qp1 qp2 qp3
  obtain ⟨Wq, hWq, Bq, -, Jq⟩ := box_res w2 (.cells #[.slice none 0 0, .int .i64 0, .bool false, .bool true] 29)
  go_upto_region 3 with (fail)
  rw [← hWq]
  clear hWq
  have HT := Lib.hid (HT.out.keep Bq)
  have HW := Lib.hid (bl_pack HW.out HW.out.size Bq)
  have Kp := Lib.hid (keep_block Bq Kp.out)
  have Kq := Lib.hid Jq
  clear Bq Jq
  obtain ⟨qp0, qp1, qp2, qp3, -, -, -, -⟩ := res4_facts Kp.out
  obtain ⟨qq0, qq1, qq2, qq3, -, -, -, -⟩ := res4_facts Kq.out
  have sa1 := sub_none fa
  have za : ∀ w, FloatKind.f64.format.order (nanAt w a a) 0 = none := fun w => order_nan_left (nanAt_nan w a a)
  have sb1 := sub_none fb
  have zb : ∀ w, FloatKind.f64.format.order (nanAt w b b) 0 = none := fun w => order_nan_left (nanAt_nan w b b)
  have oz : FloatKind.f64.format.order 0 0 = some .eq := FloOf.eq FloOf.zero FloOf.zero
  go_wp2_with fail
  obtain ⟨wd3, hwd3⟩ : ∃ z : World, z = (Wq).drew := ⟨_, rfl⟩
  rw [← hwd3]
  have bwd3 : Below (Wq).heap.size (Wq) wd3 := by rw [hwd3]; exact (Below.refl _ _).drew
  clear qp0 qp1 qp2 qp3 qq0 qq1 qq2 qq3
  have HT := Lib.hid (HT.out.keep bwd3)
  have HW := Lib.hid (bl_pack HW.out HW.out.size bwd3)
  have Kp := Lib.hid (keep_block bwd3 Kp.out)
  have Kq := Lib.hid (keep_block bwd3 Kq.out)
  clear hwd3 bwd3
  obtain ⟨qp0, qp1, qp2, qp3, -, -, -, -⟩ := res4_facts Kp.out
  obtain ⟨qq0, qq1, qq2, qq3, -, -, -, -⟩ := res4_facts Kq.out
  clear qp0 qp1 qp2 qp3 qq0 qq1 qq2 qq3
  refine (okNo).mono ?_
  rintro _ w4 ⟨rfl, b4⟩
  have HT := Lib.hid (HT.out.keep b4)
  have HW := Lib.hid (bl_pack HW.out HW.out.size b4)
  have Kp := Lib.hid (keep_block b4 Kp.out)
  have Kq := Lib.hid (keep_block b4 Kq.out)
  clear b4
  obtain ⟨qp0, qp1, qp2, qp3, -, -, -, -⟩ := res4_facts Kp.out
  obtain ⟨qq0, qq1, qq2, qq3, -, -, -, -⟩ := res4_facts Kq.out
  go_wp2_with fail
  obtain ⟨wd5, hwd5⟩ : ∃ z : World, z = (w4).drew := ⟨_, rfl⟩
  rw [← hwd5]
  have bwd5 : Below (w4).heap.size (w4) wd5 := by rw [hwd5]; exact (Below.refl _ _).drew
  clear qp0 qp1 qp2 qp3 qq0 qq1 qq2 qq3
  have HT := Lib.hid (HT.out.keep bwd5)
  have HW := Lib.hid (bl_pack HW.out HW.out.size bwd5)
  have Kp := Lib.hid (keep_block bwd5 Kp.out)
  have Kq := Lib.hid (keep_block bwd5 Kq.out)
  clear hwd5 bwd5
  obtain ⟨qp0, qp1, qp2, qp3, -, -, -, -⟩ := res4_facts Kp.out
  obtain ⟨qq0, qq1, qq2, qq3, -, -, -, -⟩ := res4_facts Kq.out
  clear qp0 qp1 qp2 qp3 qq0 qq1 qq2 qq3
  refine (okNo).mono ?_
  rintro _ w6 ⟨rfl, b6⟩
  have HT := Lib.hid (HT.out.keep b6)
  have HW := Lib.hid (bl_pack HW.out HW.out.size b6)
  have Kp := Lib.hid (keep_block b6 Kp.out)
  have Kq := Lib.hid (keep_block b6 Kq.out)
  clear b6
  obtain ⟨qp0, qp1, qp2, qp3, -, -, -, -⟩ := res4_facts Kp.out
  obtain ⟨qq0, qq1, qq2, qq3, -, -, -, -⟩ := res4_facts Kq.out
  go_wp2_with fail
  obtain ⟨wd7, hwd7⟩ : ∃ z : World, z = (w6).drew := ⟨_, rfl⟩
  rw [← hwd7]
  have bwd7 : Below (w6).heap.size (w6) wd7 := by rw [hwd7]; exact (Below.refl _ _).drew
  clear qp0 qp1 qp2 qp3 qq0 qq1 qq2 qq3
  have HT := Lib.hid (HT.out.keep bwd7)
  have HW := Lib.hid (bl_pack HW.out HW.out.size bwd7)
  have Kp := Lib.hid (keep_block bwd7 Kp.out)
  have Kq := Lib.hid (keep_block bwd7 Kq.out)
  clear hwd7 bwd7
  obtain ⟨qp0, qp1, qp2, qp3, -, -, -, -⟩ := res4_facts Kp.out
  obtain ⟨qq0, qq1, qq2, qq3, -, -, -, -⟩ := res4_facts Kq.out
  clear qp0 qp1 qp2 qp3 qq0 qq1 qq2 qq3
  refine (addNN HT.out).mono ?_
  rintro _ w8 ⟨rfl, b8⟩
  have HT := Lib.hid (HT.out.keep b8)
  have HW := Lib.hid (bl_pack HW.out HW.out.size b8)
  have Kp := Lib.hid (keep_block b8 Kp.out)
  have Kq := Lib.hid (keep_block b8 Kq.out)
  clear b8
  obtain ⟨qp0, qp1, qp2, qp3, -, -, -, -⟩ := res4_facts Kp.out
  obtain ⟨qq0, qq1, qq2, qq3, -, -, -, -⟩ := res4_facts Kq.out
  go_wp2_with fail
  clear qp0 qp1 qp2 qp3 qq0 qq1 qq2 qq3
  refine (okNo).mono ?_
  rintro _ w9 ⟨rfl, b9⟩
  have HT := Lib.hid (HT.out.keep b9)
  have HW := Lib.hid (bl_pack HW.out HW.out.size b9)
  have Kp := Lib.hid (keep_block b9 Kp.out)
  have Kq := Lib.hid (keep_block b9 Kq.out)
  clear b9
  obtain ⟨qp0, qp1, qp2, qp3, -, -, -, -⟩ := res4_facts Kp.out
  obtain ⟨qq0, qq1, qq2, qq3, -, -, -, -⟩ := res4_facts Kq.out
  go_wp2_with fail
  clear qp0 qp1 qp2 qp3 qq0 qq1 qq2 qq3
  refine (mulNN HT.out).mono ?_
  rintro _ w10 ⟨rfl, b10⟩
  have HT := Lib.hid (HT.out.keep b10)
  have HW := Lib.hid (bl_pack HW.out HW.out.size b10)
  have Kp := Lib.hid (keep_block b10 Kp.out)
  have Kq := Lib.hid (keep_block b10 Kq.out)
  clear b10
  obtain ⟨qp0, qp1, qp2, qp3, -, -, -, -⟩ := res4_facts Kp.out
  obtain ⟨qq0, qq1, qq2, qq3, -, -, -, -⟩ := res4_facts Kq.out
  go_wp2_with fail
  clear qp0 qp1 qp2 qp3 qq0 qq1 qq2 qq3
  refine (okNo).mono ?_
  rintro _ w11 ⟨rfl, b11⟩
  have HT := Lib.hid (HT.out.keep b11)
  have HW := Lib.hid (bl_pack HW.out HW.out.size b11)
  have Kp := Lib.hid (keep_block b11 Kp.out)
  have Kq := Lib.hid (keep_block b11 Kq.out)
  clear b11
  obtain ⟨qp0, qp1, qp2, qp3, -, -, -, -⟩ := res4_facts Kp.out
  obtain ⟨qq0, qq1, qq2, qq3, -, -, -, -⟩ := res4_facts Kq.out
  go_wp2_with fail
  go_ret
  exact ⟨rfl, HW.out⟩
set_option maxRecDepth 100000 in
set_option maxHeartbeats 4000000 in
theorem floats_nf {w : World} (ht : TabOk w) (a b : Nat) (ha : a < 18446744073709551616) (hb : b < 18446744073709551616) (fa : ¬ rung a < inf) (fb : rung b < inf) :
    Calls Tryd.prog 6 #[.float .f64 a, .float .f64 b] w fun x w' => x = .returned (.bool true) ∧ Below w.heap.size w w' := by
  go_enter Tryd.func6, Tryd.ntmps6
  have HT := Lib.hid (show Tb 0 w from ⟨ht, Nat.zero_le _⟩)
  have HW := Lib.hid (Below.refl w.heap.size w)
  clear ht
  go_wp2_with fail
  refine (ofNo a ha fa HT.out).mono ?_
  rintro _ w1 ⟨rfl, b1⟩
  have HT := Lib.hid (HT.out.keep b1)
  have HW := Lib.hid (bl_pack HW.out HW.out.size b1)
  clear b1
  obtain ⟨Wp, hWp, Bp, -, Jp⟩ := box_res w1 (.cells #[.slice none 0 0, .int .i64 0, .bool false, .bool true] 29)
  go_upto_region 2 with (fail)
  rw [← hWp]
  clear hWp
  have HT := Lib.hid (HT.out.keep Bp)
  have HW := Lib.hid (bl_pack HW.out HW.out.size Bp)
  have Kp := Lib.hid Jp
  clear Bp Jp
  obtain ⟨qp0, qp1, qp2, qp3, -, -, -, -⟩ := res4_facts Kp.out
  go_wp2_with fail
  refine (ofB b hb fb HT.out).mono ?_
  rintro _ w2 ⟨vq, rfl, Mq, b2⟩
  have HT := Lib.hid (HT.out.keep b2)
  have HW := Lib.hid (bl_pack HW.out HW.out.size b2)
  have Kp := Lib.hid (keep_block b2 Kp.out)
  have Nq := Lib.hid Mq
  clear b2 Mq
  clear qp0 qp1 qp2 qp3
  obtain ⟨pq, nq, cq, eq, gq, rfl⟩ := Nq.out.form
  obtain ⟨Wq, hWq, Bq, -, Jq⟩ := box_res w2 (.cells #[.slice pq nq cq, .int .i64 eq, .bool gq, .bool false] 29)
  go_upto_region 3 with (fail)
  rw [← hWq]
  clear hWq
  have HT := Lib.hid (HT.out.keep Bq)
  have HW := Lib.hid (bl_pack HW.out HW.out.size Bq)
  have Nq := Lib.hid (Nq.out.keep Bq)
  have Kp := Lib.hid (keep_block Bq Kp.out)
  have Kq := Lib.hid Jq
  clear Bq Jq
  obtain ⟨qp0, qp1, qp2, qp3, -, -, -, -⟩ := res4_facts Kp.out
  obtain ⟨qq0, qq1, qq2, qq3, -, -, -, -⟩ := res4_facts Kq.out
  have sa1 := sub_none fa
  have za : ∀ w, FloatKind.f64.format.order (nanAt w a a) 0 = none := fun w => order_nan_left (nanAt_nan w a a)
  obtain ⟨sb1, zb⟩ := self0 fb
  have oz : FloatKind.f64.format.order 0 0 = some .eq := FloOf.eq FloOf.zero FloOf.zero
  go_wp2_with fail
  obtain ⟨wd3, hwd3⟩ : ∃ z : World, z = (Wq).drew := ⟨_, rfl⟩
  rw [← hwd3]
  have bwd3 : Below (Wq).heap.size (Wq) wd3 := by rw [hwd3]; exact (Below.refl _ _).drew
  clear qp0 qp1 qp2 qp3 qq0 qq1 qq2 qq3
  have HT := Lib.hid (HT.out.keep bwd3)
  have HW := Lib.hid (bl_pack HW.out HW.out.size bwd3)
  have Nq := Lib.hid (Nq.out.keep bwd3)
  have Kp := Lib.hid (keep_block bwd3 Kp.out)
  have Kq := Lib.hid (keep_block bwd3 Kq.out)
  clear hwd3 bwd3
  obtain ⟨qp0, qp1, qp2, qp3, -, -, -, -⟩ := res4_facts Kp.out
  obtain ⟨qq0, qq1, qq2, qq3, -, -, -, -⟩ := res4_facts Kq.out
  clear qp0 qp1 qp2 qp3 qq0 qq1 qq2 qq3
  refine (okNo).mono ?_
  rintro _ w4 ⟨rfl, b4⟩
  have HT := Lib.hid (HT.out.keep b4)
  have HW := Lib.hid (bl_pack HW.out HW.out.size b4)
  have Nq := Lib.hid (Nq.out.keep b4)
  have Kp := Lib.hid (keep_block b4 Kp.out)
  have Kq := Lib.hid (keep_block b4 Kq.out)
  clear b4
  obtain ⟨qp0, qp1, qp2, qp3, -, -, -, -⟩ := res4_facts Kp.out
  obtain ⟨qq0, qq1, qq2, qq3, -, -, -, -⟩ := res4_facts Kq.out
  go_wp2_with fail
  obtain ⟨wd5, hwd5⟩ : ∃ z : World, z = (w4).drew := ⟨_, rfl⟩
  rw [← hwd5]
  have bwd5 : Below (w4).heap.size (w4) wd5 := by rw [hwd5]; exact (Below.refl _ _).drew
  clear qp0 qp1 qp2 qp3 qq0 qq1 qq2 qq3
  have HT := Lib.hid (HT.out.keep bwd5)
  have HW := Lib.hid (bl_pack HW.out HW.out.size bwd5)
  have Nq := Lib.hid (Nq.out.keep bwd5)
  have Kp := Lib.hid (keep_block bwd5 Kp.out)
  have Kq := Lib.hid (keep_block bwd5 Kq.out)
  clear hwd5 bwd5
  obtain ⟨qp0, qp1, qp2, qp3, -, -, -, -⟩ := res4_facts Kp.out
  obtain ⟨qq0, qq1, qq2, qq3, -, -, -, -⟩ := res4_facts Kq.out
  clear qp0 qp1 qp2 qp3 qq0 qq1 qq2 qq3
  refine (okB Nq.out).mono ?_
  rintro _ w6 ⟨rfl, b6⟩
  have HT := Lib.hid (HT.out.keep b6)
  have HW := Lib.hid (bl_pack HW.out HW.out.size b6)
  have Nq := Lib.hid (Nq.out.keep b6)
  have Kp := Lib.hid (keep_block b6 Kp.out)
  have Kq := Lib.hid (keep_block b6 Kq.out)
  clear b6
  obtain ⟨qp0, qp1, qp2, qp3, -, -, -, -⟩ := res4_facts Kp.out
  obtain ⟨qq0, qq1, qq2, qq3, -, -, -, -⟩ := res4_facts Kq.out
  go_wp2_with fail
  clear qp0 qp1 qp2 qp3 qq0 qq1 qq2 qq3
  refine (addNa Nq.out HT.out).mono ?_
  rintro _ w7 ⟨rfl, b7⟩
  have HT := Lib.hid (HT.out.keep b7)
  have HW := Lib.hid (bl_pack HW.out HW.out.size b7)
  have Nq := Lib.hid (Nq.out.keep b7)
  have Kp := Lib.hid (keep_block b7 Kp.out)
  have Kq := Lib.hid (keep_block b7 Kq.out)
  clear b7
  obtain ⟨qp0, qp1, qp2, qp3, -, -, -, -⟩ := res4_facts Kp.out
  obtain ⟨qq0, qq1, qq2, qq3, -, -, -, -⟩ := res4_facts Kq.out
  go_wp2_with fail
  clear qp0 qp1 qp2 qp3 qq0 qq1 qq2 qq3
  refine (okNo).mono ?_
  rintro _ w8 ⟨rfl, b8⟩
  have HT := Lib.hid (HT.out.keep b8)
  have HW := Lib.hid (bl_pack HW.out HW.out.size b8)
  have Nq := Lib.hid (Nq.out.keep b8)
  have Kp := Lib.hid (keep_block b8 Kp.out)
  have Kq := Lib.hid (keep_block b8 Kq.out)
  clear b8
  obtain ⟨qp0, qp1, qp2, qp3, -, -, -, -⟩ := res4_facts Kp.out
  obtain ⟨qq0, qq1, qq2, qq3, -, -, -, -⟩ := res4_facts Kq.out
  go_wp2_with fail
  clear qp0 qp1 qp2 qp3 qq0 qq1 qq2 qq3
  refine (mulNa Nq.out HT.out).mono ?_
  rintro _ w9 ⟨rfl, b9⟩
  have HT := Lib.hid (HT.out.keep b9)
  have HW := Lib.hid (bl_pack HW.out HW.out.size b9)
  have Nq := Lib.hid (Nq.out.keep b9)
  have Kp := Lib.hid (keep_block b9 Kp.out)
  have Kq := Lib.hid (keep_block b9 Kq.out)
  clear b9
  obtain ⟨qp0, qp1, qp2, qp3, -, -, -, -⟩ := res4_facts Kp.out
  obtain ⟨qq0, qq1, qq2, qq3, -, -, -, -⟩ := res4_facts Kq.out
  go_wp2_with fail
  clear qp0 qp1 qp2 qp3 qq0 qq1 qq2 qq3
  refine (okNo).mono ?_
  rintro _ w10 ⟨rfl, b10⟩
  have HT := Lib.hid (HT.out.keep b10)
  have HW := Lib.hid (bl_pack HW.out HW.out.size b10)
  have Nq := Lib.hid (Nq.out.keep b10)
  have Kp := Lib.hid (keep_block b10 Kp.out)
  have Kq := Lib.hid (keep_block b10 Kq.out)
  clear b10
  obtain ⟨qp0, qp1, qp2, qp3, -, -, -, -⟩ := res4_facts Kp.out
  obtain ⟨qq0, qq1, qq2, qq3, -, -, -, -⟩ := res4_facts Kq.out
  go_wp2_with fail
  go_ret
  exact ⟨rfl, HW.out⟩
set_option maxRecDepth 100000 in
set_option maxHeartbeats 4000000 in
theorem floats_fn {w : World} (ht : TabOk w) (a b : Nat) (ha : a < 18446744073709551616) (hb : b < 18446744073709551616) (fa : rung a < inf) (fb : ¬ rung b < inf) :
    Calls Tryd.prog 6 #[.float .f64 a, .float .f64 b] w fun x w' => x = .returned (.bool true) ∧ Below w.heap.size w w' := by
  go_enter Tryd.func6, Tryd.ntmps6
  have HT := Lib.hid (show Tb 0 w from ⟨ht, Nat.zero_le _⟩)
  have HW := Lib.hid (Below.refl w.heap.size w)
  clear ht
  go_wp2_with fail
  refine (ofB a ha fa HT.out).mono ?_
  rintro _ w1 ⟨vp, rfl, Mp, b1⟩
  have HT := Lib.hid (HT.out.keep b1)
  have HW := Lib.hid (bl_pack HW.out HW.out.size b1)
  have Np := Lib.hid Mp
  clear b1 Mp
  obtain ⟨pp, np, cp, ep, gp, rfl⟩ := Np.out.form
  obtain ⟨Wp, hWp, Bp, -, Jp⟩ := box_res w1 (.cells #[.slice pp np cp, .int .i64 ep, .bool gp, .bool false] 29)
  go_upto_region 2 with (fail)
  rw [← hWp]
  clear hWp
  have HT := Lib.hid (HT.out.keep Bp)
  have HW := Lib.hid (bl_pack HW.out HW.out.size Bp)
  have Np := Lib.hid (Np.out.keep Bp)
  have Kp := Lib.hid Jp
  clear Bp Jp
  obtain ⟨qp0, qp1, qp2, qp3, -, -, -, -⟩ := res4_facts Kp.out
  go_wp2_with fail
  refine (ofNo b hb fb HT.out).mono ?_
  rintro _ w2 ⟨rfl, b2⟩
  have HT := Lib.hid (HT.out.keep b2)
  have HW := Lib.hid (bl_pack HW.out HW.out.size b2)
  have Np := Lib.hid (Np.out.keep b2)
  have Kp := Lib.hid (keep_block b2 Kp.out)
  clear b2
  clear qp0 qp1 qp2 qp3
  obtain ⟨Wq, hWq, Bq, -, Jq⟩ := box_res w2 (.cells #[.slice none 0 0, .int .i64 0, .bool false, .bool true] 29)
  go_upto_region 3 with (fail)
  rw [← hWq]
  clear hWq
  have HT := Lib.hid (HT.out.keep Bq)
  have HW := Lib.hid (bl_pack HW.out HW.out.size Bq)
  have Np := Lib.hid (Np.out.keep Bq)
  have Kp := Lib.hid (keep_block Bq Kp.out)
  have Kq := Lib.hid Jq
  clear Bq Jq
  obtain ⟨qp0, qp1, qp2, qp3, -, -, -, -⟩ := res4_facts Kp.out
  obtain ⟨qq0, qq1, qq2, qq3, -, -, -, -⟩ := res4_facts Kq.out
  obtain ⟨sa1, za⟩ := self0 fa
  have sb1 := sub_none fb
  have zb : ∀ w, FloatKind.f64.format.order (nanAt w b b) 0 = none := fun w => order_nan_left (nanAt_nan w b b)
  have oz : FloatKind.f64.format.order 0 0 = some .eq := FloOf.eq FloOf.zero FloOf.zero
  go_wp2_with fail
  obtain ⟨wd3, hwd3⟩ : ∃ z : World, z = (Wq).drew := ⟨_, rfl⟩
  rw [← hwd3]
  have bwd3 : Below (Wq).heap.size (Wq) wd3 := by rw [hwd3]; exact (Below.refl _ _).drew
  clear qp0 qp1 qp2 qp3 qq0 qq1 qq2 qq3
  have HT := Lib.hid (HT.out.keep bwd3)
  have HW := Lib.hid (bl_pack HW.out HW.out.size bwd3)
  have Np := Lib.hid (Np.out.keep bwd3)
  have Kp := Lib.hid (keep_block bwd3 Kp.out)
  have Kq := Lib.hid (keep_block bwd3 Kq.out)
  clear hwd3 bwd3
  obtain ⟨qp0, qp1, qp2, qp3, -, -, -, -⟩ := res4_facts Kp.out
  obtain ⟨qq0, qq1, qq2, qq3, -, -, -, -⟩ := res4_facts Kq.out
  clear qp0 qp1 qp2 qp3 qq0 qq1 qq2 qq3
  refine (okB Np.out).mono ?_
  rintro _ w4 ⟨rfl, b4⟩
  have HT := Lib.hid (HT.out.keep b4)
  have HW := Lib.hid (bl_pack HW.out HW.out.size b4)
  have Np := Lib.hid (Np.out.keep b4)
  have Kp := Lib.hid (keep_block b4 Kp.out)
  have Kq := Lib.hid (keep_block b4 Kq.out)
  clear b4
  obtain ⟨qp0, qp1, qp2, qp3, -, -, -, -⟩ := res4_facts Kp.out
  obtain ⟨qq0, qq1, qq2, qq3, -, -, -, -⟩ := res4_facts Kq.out
  go_wp2_with fail
  clear qp0 qp1 qp2 qp3 qq0 qq1 qq2 qq3
  refine (okNo).mono ?_
  rintro _ w5 ⟨rfl, b5⟩
  have HT := Lib.hid (HT.out.keep b5)
  have HW := Lib.hid (bl_pack HW.out HW.out.size b5)
  have Np := Lib.hid (Np.out.keep b5)
  have Kp := Lib.hid (keep_block b5 Kp.out)
  have Kq := Lib.hid (keep_block b5 Kq.out)
  clear b5
  obtain ⟨qp0, qp1, qp2, qp3, -, -, -, -⟩ := res4_facts Kp.out
  obtain ⟨qq0, qq1, qq2, qq3, -, -, -, -⟩ := res4_facts Kq.out
  go_wp2_with fail
  obtain ⟨wd6, hwd6⟩ : ∃ z : World, z = (w5).drew := ⟨_, rfl⟩
  rw [← hwd6]
  have bwd6 : Below (w5).heap.size (w5) wd6 := by rw [hwd6]; exact (Below.refl _ _).drew
  clear qp0 qp1 qp2 qp3 qq0 qq1 qq2 qq3
  have HT := Lib.hid (HT.out.keep bwd6)
  have HW := Lib.hid (bl_pack HW.out HW.out.size bwd6)
  have Np := Lib.hid (Np.out.keep bwd6)
  have Kp := Lib.hid (keep_block bwd6 Kp.out)
  have Kq := Lib.hid (keep_block bwd6 Kq.out)
  clear hwd6 bwd6
  obtain ⟨qp0, qp1, qp2, qp3, -, -, -, -⟩ := res4_facts Kp.out
  obtain ⟨qq0, qq1, qq2, qq3, -, -, -, -⟩ := res4_facts Kq.out
  clear qp0 qp1 qp2 qp3 qq0 qq1 qq2 qq3
  refine (addNb Np.out HT.out).mono ?_
  rintro _ w7 ⟨rfl, b7⟩
  have HT := Lib.hid (HT.out.keep b7)
  have HW := Lib.hid (bl_pack HW.out HW.out.size b7)
  have Np := Lib.hid (Np.out.keep b7)
  have Kp := Lib.hid (keep_block b7 Kp.out)
  have Kq := Lib.hid (keep_block b7 Kq.out)
  clear b7
  obtain ⟨qp0, qp1, qp2, qp3, -, -, -, -⟩ := res4_facts Kp.out
  obtain ⟨qq0, qq1, qq2, qq3, -, -, -, -⟩ := res4_facts Kq.out
  go_wp2_with fail
  clear qp0 qp1 qp2 qp3 qq0 qq1 qq2 qq3
  refine (okNo).mono ?_
  rintro _ w8 ⟨rfl, b8⟩
  have HT := Lib.hid (HT.out.keep b8)
  have HW := Lib.hid (bl_pack HW.out HW.out.size b8)
  have Np := Lib.hid (Np.out.keep b8)
  have Kp := Lib.hid (keep_block b8 Kp.out)
  have Kq := Lib.hid (keep_block b8 Kq.out)
  clear b8
  obtain ⟨qp0, qp1, qp2, qp3, -, -, -, -⟩ := res4_facts Kp.out
  obtain ⟨qq0, qq1, qq2, qq3, -, -, -, -⟩ := res4_facts Kq.out
  go_wp2_with fail
  clear qp0 qp1 qp2 qp3 qq0 qq1 qq2 qq3
  refine (mulNb Np.out HT.out).mono ?_
  rintro _ w9 ⟨rfl, b9⟩
  have HT := Lib.hid (HT.out.keep b9)
  have HW := Lib.hid (bl_pack HW.out HW.out.size b9)
  have Np := Lib.hid (Np.out.keep b9)
  have Kp := Lib.hid (keep_block b9 Kp.out)
  have Kq := Lib.hid (keep_block b9 Kq.out)
  clear b9
  obtain ⟨qp0, qp1, qp2, qp3, -, -, -, -⟩ := res4_facts Kp.out
  obtain ⟨qq0, qq1, qq2, qq3, -, -, -, -⟩ := res4_facts Kq.out
  go_wp2_with fail
  clear qp0 qp1 qp2 qp3 qq0 qq1 qq2 qq3
  refine (okNo).mono ?_
  rintro _ w10 ⟨rfl, b10⟩
  have HT := Lib.hid (HT.out.keep b10)
  have HW := Lib.hid (bl_pack HW.out HW.out.size b10)
  have Np := Lib.hid (Np.out.keep b10)
  have Kp := Lib.hid (keep_block b10 Kp.out)
  have Kq := Lib.hid (keep_block b10 Kq.out)
  clear b10
  obtain ⟨qp0, qp1, qp2, qp3, -, -, -, -⟩ := res4_facts Kp.out
  obtain ⟨qq0, qq1, qq2, qq3, -, -, -, -⟩ := res4_facts Kq.out
  go_wp2_with fail
  go_ret
  exact ⟨rfl, HW.out⟩

theorem rs_fr {a b : Nat} : rs (fr a - fr b) = if fv a < fv b then -1 else if fv a = fv b then 0 else 1 := by
  have hu := uu_pos
  have ea : fr a - fr b = ((fv a - fv b : Int) : Rat) * uu := by rw [fr_sub]; rfl
  rw [ea]
  by_cases h1 : fv a < fv b
  · rw [if_pos h1]
    refine rs_neg ?_
    have h2 : ((fv a - fv b : Int) : Rat) < 0 := by rw [← Rat.intCast_zero]; exact Rat.intCast_lt_intCast.2 (by omega)
    have := Rat.mul_lt_mul_of_pos_right h2 hu
    grind
  · rw [if_neg h1]
    by_cases h2 : fv a = fv b
    · rw [if_pos h2, h2, Int.sub_self]; simp [rs]
    · rw [if_neg h2]
      refine rs_pos (Rat.mul_pos ?_ hu)
      rw [← Rat.intCast_zero]; exact Rat.intCast_lt_intCast.2 (by omega)
theorem floats_walk {w : World} (ht : TabOk w) (a : Nat) (wa : (Lit.float .f64 a).wf = true) (b : Nat) (wb : (Lit.float .f64 b).wf = true) :
    Calls Tryd.prog 6 #[.float .f64 a, .float .f64 b] w fun x w' => x = .returned (.bool true) ∧ Below w.heap.size w w' := by
  have ha := float_wf wa
  have hb := float_wf wb
  by_cases fa : rung a < inf
  · by_cases fb : rung b < inf
    · have ho := order_fin fa fb
      have hr := rs_fr (a := a) (b := b)
      rcases Int.lt_trichotomy (fv a) (fv b) with h | h | h
      · exact floats_lt ht a b ha hb fa fb (ho.trans (by rw [Int.compare_eq_lt.2 h])) (by rw [hr, if_pos h])
      · exact floats_eq ht a b ha hb fa fb (ho.trans (by rw [Int.compare_eq_eq.2 h])) (by rw [hr, if_neg (by omega), if_pos h])
      · exact floats_gt ht a b ha hb fa fb (ho.trans (by rw [Int.compare_eq_gt.2 h])) (by rw [hr, if_neg (by omega), if_neg (by omega)])
    · exact floats_fn ht a b ha hb fa fb
  · by_cases fb : rung b < inf
    · exact floats_nf ht a b ha hb fa fb
    · exact floats_nn ht a b ha hb fa fb
end Go.Proofs.YtiiipgbfhcbjdaaDoor
