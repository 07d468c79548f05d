/- Package orient, walked: exactly, Sign. (Printed by gen_OrF.py.) -/
import Derived.Test.YtiihokgjplpceaaDoorOrE
import Derived.Test.YtiihokgjplpceaaDoorEwP
import Derived.Deep.RegionHeld3
namespace Go.Proofs.YtiihokgjplpceaaDoor
open Go.RowKit TV
set_option linter.unusedVariables false

theorem diff_any (a b : Nat) (ha : a < 18446744073709551616) (hb : b < 18446744073709551616) (w : World) :
    Calls Tryd.prog 38 #[.float .f64 a, .float .f64 b] w fun e w' => e = .returned (.tuple #[.float .f64 (sHi a (fneg b)), .float .f64 (sLo a (fneg b))]) ∧ Below w.heap.size w w' := by
  have HS := Lib.hid (sumAny a (fneg b) ha (fneg_lt hb) w)
  clear ha hb
  go_enter Tryd.func38, Tryd.ntmps38
  go_wp2_with (go_at_call 51; refine HS.out.mono ?_; rintro _ w1 ⟨rfl, hb⟩)
  go_ret2
  exact ⟨rfl, hb⟩
/-- A list that is there then. -/
def RetS (l : List Nat) (w : World) (x : Ending) (w' : World) : Prop := ∃ v, x = .returned v ∧ Sl w' v (fvs l) ∧ Below w.heap.size w w'
def RetM (l : List Nat) (w : World) (x : Ending) (w' : World) : Prop := ∃ v, x = .returned (.tuple #[v, .bool true]) ∧ Sl w' v (fvs l) ∧ Below w.heap.size w w'
set_option maxRecDepth 100000 in
set_option maxHeartbeats 1000000 in
theorem oless_calls (x y : Nat) (hx : x < 18446744073709551616) (hy : y < 18446744073709551616) (w : World) :
    Calls Tryd.prog 37 #[.float .f64 x, .float .f64 y] w (RetS (lessB x y) w) := by
  have HD := Lib.hid (diff_any x y hx hy w)
  obtain ⟨i0, hi, hz0, hz1, hz2⟩ := info_parts info_f64
  have hl : lessB x y = nzB (sLo x (fneg y)) ++ nzB (sHi x (fneg y)) := rfl
  obtain ⟨qh, hqh⟩ : ∃ z, z = sHi x (fneg y) := ⟨_, rfl⟩
  obtain ⟨ql, hql⟩ : ∃ z, z = sLo x (fneg y) := ⟨_, rfl⟩
  rw [← hqh, ← hql] at HD hl
  rw [hl]
  clear hx hy hqh hql hl
  go_enter Tryd.func37, Tryd.ntmps37
  go_wp2_with (go_at_call 38; refine HD.out.mono ?_; rintro _ w1 ⟨rfl, b1⟩)
  have hB := heap_alloc_new w1 (.cells #[.float .f64 ql, .float .f64 qh] 22)
  have c0 : (w1.alloc (.cells #[.float .f64 ql, .float .f64 qh] 22)).cell? ⟨w1.heap.size, 0, none⟩ = some (.float .f64 ql) := cell_of_block hB 0
  have c1 : (w1.alloc (.cells #[.float .f64 ql, .float .f64 qh] 22)).cell? ⟨w1.heap.size, 1, none⟩ = some (.float .f64 qh) := cell_of_block hB 1
  obtain ⟨w2, hw2⟩ : ∃ W, W = w1.alloc (.cells #[.float .f64 ql, .float .f64 qh] 22) := ⟨_, rfl⟩
  have b2 : Below w.heap.size w w2 := by rw [hw2]; exact b1.alloc b1.size _
  rw [← hw2] at c0 c1 ⊢
  have C0 := Lib.hid c0
  have C1 := Lib.hid c1
  have hs2 : w1.heap.size + 1 ≤ w2.heap.size := by rw [hw2]; simp
  clear hB hw2 c0 c1 b1
  go_loopw [7, 9, 20] (fun ov _ iv wr => ∃ (k : Nat) (os : List Nat), iv = .int .i64 k ∧ (k = 0 ∧ os = [] ∨ k = 1 ∧ os = nzB ql ∨ k = 2 ∧ os = nzB ql ++ nzB qh) ∧ wr.ownsRow w2.heap.size 22 1 ov os.length (fvs os) ∧ Below w2.heap.size w2 wr) (fun _ _ iv _ => 2 - (intOf iv).toNat)
  case atStart => exact ⟨0, [], rfl, Or.inl ⟨rfl, rfl⟩, ⟨rfl, Or.inl ⟨rfl, rfl⟩⟩, Below.refl _ _⟩
  case round =>
    obtain ⟨k, os, rfl, hc, hown, hBr⟩ := hrel
    obtain ⟨wz, rfl⟩ : ∃ z : World, z = wr := ⟨_, rfl⟩
    obtain ⟨pr, cr, rfl⟩ := own_form hown
    have hbs := hBr.size
    have hob := own_block hown
    have key : ∀ (j : Nat) (q : Nat), w2.cell? ⟨w1.heap.size, j, none⟩ = some (.float .f64 q) → wz.cell? ⟨w1.heap.size, j, none⟩ = some (.float .f64 q) := fun j q h => keep_cell hBr h
    rcases hc with ⟨rfl, rfl⟩ | ⟨rfl, rfl⟩ | ⟨rfl, rfl⟩
    · have cc := key 0 _ C0.out
      have hlen : (([] : List Nat)).length ≤ 10 := by simp
      have HOw := Lib.hid hown
      clear key hown
      rw [show ((0 : Nat) : Int) = 0 from rfl]
      by_cases z : rung ql = 0
      · have e1 : (FloatKind.f64.format.order ql 0 == some .eq) = true := (eq_zero ql).trans (decide_eq_true z)
        have e2 : (FloatKind.f64.format.order ql 0 != some .eq) = false := by simp [bne, e1]
        have HZ := Lib.hid z
        clear z
        go_wp2_with fail
        go_roundw
        case rel => exact ⟨1, ([] : List Nat), rfl, Or.inr (Or.inl ⟨rfl, by unfold nzB; rw [if_neg (by simpa using HZ.out)]⟩), HOw.out, hBr⟩
        case measure => simp [intOf]
      · have e1 : (FloatKind.f64.format.order ql 0 == some .eq) = false := (eq_zero ql).trans (decide_eq_false z)
        have e2 : (FloatKind.f64.format.order ql 0 != some .eq) = true := by simp [bne, e1]
        have HZ := Lib.hid z
        clear z
        go_wp2_with (at_builtin; refine wpList_append_own _ rfl _ _ 55 rfl w2.heap.size 22 i0 (.float .f64 0) 1 8 Tryd.underlying55 hi hz0 hz1 hz2 rfl (by decide) _ _ _ rfl (HOw.out.alloc _) ⟨wz.heap.size, 0, none⟩ 1 1 [.float .f64 ql] rfl rfl (news_one _ _ _) (by simp [Value.oneCell']) (by unfold maxLen; omega) (by omega) (by simp; omega) ?_; intro ov' w7 hown7 hgrow hnil; clear hnil; obtain ⟨q7, cap7, rfl⟩ := own_form hown7)
        go_roundw
        case rel => exact ⟨1, ([] : List Nat) ++ [ql], rfl, Or.inr (Or.inl ⟨rfl, by unfold nzB; rw [if_pos HZ.out]; rfl⟩), by simpa [fvs] using hown7, (hBr.alloc hbs _).grown hgrow (by simp; omega) hob⟩
        case measure => simp [intOf]
    · have cc := key 1 _ C1.out
      have hlen : (nzB ql).length ≤ 10 := by unfold nzB; split <;> simp
      have HOw := Lib.hid hown
      clear key hown
      rw [show ((1 : Nat) : Int) = 1 from rfl]
      by_cases z : rung qh = 0
      · have e1 : (FloatKind.f64.format.order qh 0 == some .eq) = true := (eq_zero qh).trans (decide_eq_true z)
        have e2 : (FloatKind.f64.format.order qh 0 != some .eq) = false := by simp [bne, e1]
        have HZ := Lib.hid z
        clear z
        go_wp2_with fail
        go_roundw
        case rel => exact ⟨2, nzB ql, rfl, Or.inr (Or.inr ⟨rfl, by rw [show nzB qh = [] by unfold nzB; rw [if_neg (by simpa using HZ.out)]]; simp⟩), HOw.out, hBr⟩
        case measure => simp [intOf]
      · have e1 : (FloatKind.f64.format.order qh 0 == some .eq) = false := (eq_zero qh).trans (decide_eq_false z)
        have e2 : (FloatKind.f64.format.order qh 0 != some .eq) = true := by simp [bne, e1]
        have HZ := Lib.hid z
        clear z
        go_wp2_with (at_builtin; refine wpList_append_own _ rfl _ _ 55 rfl w2.heap.size 22 i0 (.float .f64 0) 1 8 Tryd.underlying55 hi hz0 hz1 hz2 rfl (by decide) _ _ _ rfl (HOw.out.alloc _) ⟨wz.heap.size, 0, none⟩ 1 1 [.float .f64 qh] rfl rfl (news_one _ _ _) (by simp [Value.oneCell']) (by unfold maxLen; omega) (by omega) (by simp; omega) ?_; intro ov' w7 hown7 hgrow hnil; clear hnil; obtain ⟨q7, cap7, rfl⟩ := own_form hown7)
        go_roundw
        case rel => exact ⟨2, nzB ql ++ [qh], rfl, Or.inr (Or.inr ⟨rfl, by rw [show nzB qh = [qh] by unfold nzB; rw [if_pos HZ.out]]⟩), by simpa [fvs] using hown7, (hBr.alloc hbs _).grown hgrow (by simp; omega) hob⟩
        case measure => simp [intOf]
    · have HOw := Lib.hid hown
      have hlen : (nzB ql ++ nzB qh).length ≤ 10 := by unfold nzB; split <;> split <;> simp
      clear key hown hob
      rw [show ((2 : Nat) : Int) = 2 from rfl]
      go_wp2_with fail
      go_ret
      exact ⟨_, rfl, own_sl HOw.out, b2.trans (hBr.mono b2.size)⟩

theorem mul_safe {w : World} (ht : TabOk w) {v1 v2 : Value} {l1 l2 : List Nat} (h1 : Sl w v1 (fvs l1)) (h2 : Sl w v2 (fvs l2)) (f1 : ∀ x ∈ l1, x < 18446744073709551616) (f2 : ∀ x ∈ l2, x < 18446744073709551616)
    (s1 : allB 2580562586483294208 6633802251116740608 l1 = true) (s2 : allB 2580562586483294208 6633802251116740608 l2 = true) : Calls Tryd.prog 39 #[v1, v2] w (RetM (mulX l1 l2) w) := by
  have ho : xmOk l1 l2 = true := by unfold xmOk; rw [s1, s2]; rfl
  have hl : xmL l1 l2 = mulX l1 l2 := by unfold xmL; rw [if_pos ho]
  have n1 := ((allB_ok (by decide) l1).1 s1).1
  have n2 := ((allB_ok (by decide) l2).1 s2).1
  have h := mul_calls2 ht h1 h2 f1 f2 (by omega) (by omega)
  rw [ho, hl] at h
  refine h.mono ?_
  rintro x w' ⟨u, rfl, h3, h4⟩
  exact ⟨u, rfl, own_sl h3, h4⟩
theorem nzB_lt {x : Nat} (h : x < 18446744073709551616) : ∀ y ∈ nzB x, y < 18446744073709551616 := fun y hy => by rw [nzB_mem hy]; exact h
theorem lessB_lt (x y : Nat) : ∀ z ∈ lessB x y, z < 18446744073709551616 := fun z hz => by
  unfold lessB at hz
  rcases List.mem_append.1 hz with h | h
  · exact nzB_lt (sLo_fl _ _).1 z h
  · exact nzB_lt (sHi_fl _ _).1 z h
set_option maxRecDepth 100000 in
set_option maxHeartbeats 4000000 in
theorem exactly_calls {w : World} (ht : TabOk w) (ax ay bx bY cx cy : Nat) (hax : Co ax) (hay : Co ay) (hbx : Co bx) (hby : Co bY) (hcx : Co cx) (hcy : Co cy) :
    Calls Tryd.prog 27 #[.agg #[.float .f64 ax, .float .f64 ay], .agg #[.float .f64 bx, .float .f64 bY], .agg #[.float .f64 cx, .float .f64 cy]] w fun e w' => e = .returned (.int .i64 (TV.sg (osum ax ay bx bY cx cy))) ∧ Below w.heap.size w w' := by
  obtain ⟨-, -, -, -, t1, t2, t3, t4, k1, k2, n1, n2, E1, E2, E3, hM⟩ := exact_law (x1 := bx) (y1 := ax) (x2 := cy) (y2 := ay) (x3 := bY) (y3 := ay) (x4 := cx) (y4 := ax) (by
    intro z hz
    simp only [List.mem_cons, List.not_mem_nil, or_false] at hz
    rcases hz with rfl | rfl | rfl | rfl | rfl | rfl | rfl | rfl <;> assumption)
  have hsg : sgnL (plusB (mulX (lessB bx ax) (lessB cy ay)) ((mulX (lessB bY ay) (lessB cx ax)).map fneg)) = TV.sg (osum ax ay bx bY cx cy) := by
    rw [sgnL_ex E3 pM_most]
    have e : osum ax ay bx bY cx cy = (k1 - k2) * (uW : Int) := by unfold osum; rw [← n1, ← n2]; exact (Int.sub_mul _ _ _).symm
    rw [e, sg_mul uW_pos]
  have hA : 2 ^ (pM + 1) ≤ mag 9065746049896808448 := Nat.le_trans (pow_up (by omega)) pM_most
  have c1 := E1.may hA
  have c2 := E2.may hA
  have ff1 := E1.fl
  have ff2 := E2.fl
  have ff3 := E3.fl
  have l1 := E1.len
  have l2 := E2.len
  have l3 := E3.len
  have wax := hax.1.1
  have way := hay.1.1
  have wbx := hbx.1.1
  have wby := hby.1.1
  have wcx := hcx.1.1
  have wcy := hcy.1.1
  obtain ⟨L1, hL1⟩ : ∃ L, L = lessB bx ax := ⟨_, rfl⟩
  obtain ⟨L2, hL2⟩ : ∃ L, L = lessB cy ay := ⟨_, rfl⟩
  obtain ⟨L3, hL3⟩ : ∃ L, L = lessB bY ay := ⟨_, rfl⟩
  obtain ⟨L4, hL4⟩ : ∃ L, L = lessB cx ax := ⟨_, rfl⟩
  have HL1 := Lib.hid (fun W => oless_calls bx ax wbx wax W)
  have HL2 := Lib.hid (fun W => oless_calls cy ay wcy way W)
  have HL3 := Lib.hid (fun W => oless_calls bY ay wby way W)
  have HL4 := Lib.hid (fun W => oless_calls cx ax wcx wax W)
  have g1 := lessB_lt bx ax
  have g2 := lessB_lt cy ay
  have g3 := lessB_lt bY ay
  have g4 := lessB_lt cx ax
  rw [← hL1] at HL1 g1 t1
  rw [← hL2] at HL2 g2 t2
  rw [← hL3] at HL3 g3 t3
  rw [← hL4] at HL4 g4 t4
  rw [← hL1, ← hL2, ← hL3, ← hL4] at hsg
  rw [← hL1, ← hL2] at c1 ff1 l1
  rw [← hL3, ← hL4] at c2 ff2 l2
  rw [← hL1, ← hL2, ← hL3, ← hL4] at ff3 l3 hM
  have HMA := Lib.hid (fun (W : World) (v1 v2 : Value) (hT : TabOk W) (h1 : Sl W v1 (fvs L1)) (h2 : Sl W v2 (fvs L2)) => mul_safe hT h1 h2 g1 g2 t1 t2)
  have HMB := Lib.hid (fun (W : World) (v1 v2 : Value) (hT : TabOk W) (h1 : Sl W v1 (fvs L3)) (h2 : Sl W v2 (fvs L4)) => mul_safe hT h1 h2 g3 g4 t3 t4)
  obtain ⟨P1, hP1⟩ : ∃ P, P = mulX L1 L2 := ⟨_, rfl⟩
  obtain ⟨P2, hP2⟩ : ∃ P, P = mulX L3 L4 := ⟨_, rfl⟩
  rw [← hP1] at HMA c1 ff1 l1
  rw [← hP2] at HMB c2 ff2 l2
  rw [← hP1, ← hP2] at hsg ff3 l3 hM
  have HCM := Lib.hid (fun (W : World) (v1 v2 : Value) (hT : TabOk W) (h1 : Sl W v1 (fvs P1)) (h2 : Sl W v2 (fvs P2)) => ecmp_calls hT h1 h2 ff1 ff2 (by omega) (by omega) c1 c2 hM (fun x hx => (ff3 x hx).1) (by omega))
  rw [hsg] at HCM
  obtain ⟨SS, hSS⟩ : ∃ S, S = TV.sg (osum ax ay bx bY cx cy) := ⟨_, rfl⟩
  rw [← hSS] at HCM ⊢
  obtain ⟨wn, hwn, HW0, hsz, k0, k1', k2'⟩ := three_cells w (.cells #[.float .f64 ax, .float .f64 ay] 24) (.cells #[.float .f64 bx, .float .f64 bY] 24) (.cells #[.float .f64 cx, .float .f64 cy] 24)
  have a0 : wn.cell? ⟨w.heap.size, 0, none⟩ = some (.float .f64 ax) := cell_of_block k0 0
  have a1 : wn.cell? ⟨w.heap.size, 1, none⟩ = some (.float .f64 ay) := cell_of_block k0 1
  have b0 : wn.cell? ⟨w.heap.size + 1, 0, none⟩ = some (.float .f64 bx) := cell_of_block k1' 0
  have b1 : wn.cell? ⟨w.heap.size + 1, 1, none⟩ = some (.float .f64 bY) := cell_of_block k1' 1
  have c0 : wn.cell? ⟨w.heap.size + 1 + 1, 0, none⟩ = some (.float .f64 cx) := cell_of_block k2' 0
  have c1' : wn.cell? ⟨w.heap.size + 1 + 1, 1, none⟩ = some (.float .f64 cy) := cell_of_block k2' 1
  have HW := Lib.hid HW0
  have HT := Lib.hid (ht.keep HW0)
  clear n1 n2 E1 E2 E3 hM hsg hA c1 c2 ff1 ff2 ff3 l1 l2 l3 wax way wbx wby wcx wcy hL1 hL2 hL3 hL4 g1 g2 g3 g4 t1 t2 t3 t4 hP1 hP2 hSS HW0 hsz k0 k1' k2' hax hay hbx hby hcx hcy k1 k2 ht
  go_enter Tryd.func27, Tryd.ntmps27
  go_wp2_with fail
  rw [← hwn]
  clear hwn
  have HC0 := Lib.hid (fun (Y : World) (h' : Kp wn Y) => HL1.out Y)
  have HC1 := Lib.hid (fun (Y : World) (h' : Kp wn Y) => HL2.out Y)
  have HC2 := Lib.hid (fun (Y : World) (h' : Kp wn Y) (v1 : Value) (hv1 : Sl Y v1 (fvs L1)) (v2 : Value) (hv2 : Sl Y v2 (fvs L2)) => HMA.out Y v1 v2 (HT.out.keep h'.out) hv1 hv2)
  go_region_held3 (fun w' => w'.cell? ⟨w.heap.size, 0, none⟩ = some (.float .f64 ax) ∧ w'.cell? ⟨w.heap.size, 1, none⟩ = some (.float .f64 ay) ∧ w'.cell? ⟨w.heap.size + 1, 0, none⟩ = some (.float .f64 bx) ∧ w'.cell? ⟨w.heap.size + 1, 1, none⟩ = some (.float .f64 bY) ∧ w'.cell? ⟨w.heap.size + 1 + 1, 0, none⟩ = some (.float .f64 cx) ∧ w'.cell? ⟨w.heap.size + 1 + 1, 1, none⟩ = some (.float .f64 cy) ∧ Kp wn w')
    (first | with_reducible exact ⟨keep_cell ((((Kp.refl wn).drew.step hbS_0).step hbS_1).step hbS_2).out a0, keep_cell ((((Kp.refl wn).drew.step hbS_0).step hbS_1).step hbS_2).out a1, keep_cell ((((Kp.refl wn).drew.step hbS_0).step hbS_1).step hbS_2).out b0, keep_cell ((((Kp.refl wn).drew.step hbS_0).step hbS_1).step hbS_2).out b1, keep_cell ((((Kp.refl wn).drew.step hbS_0).step hbS_1).step hbS_2).out c0, keep_cell ((((Kp.refl wn).drew.step hbS_0).step hbS_1).step hbS_2).out c1', ((((Kp.refl wn).drew.step hbS_0).step hbS_1).step hbS_2)⟩ | with_reducible exact ⟨keep_cell (((Kp.refl wn).drew.step hbS_0).step hbS_1).out a0, keep_cell (((Kp.refl wn).drew.step hbS_0).step hbS_1).out a1, keep_cell (((Kp.refl wn).drew.step hbS_0).step hbS_1).out b0, keep_cell (((Kp.refl wn).drew.step hbS_0).step hbS_1).out b1, keep_cell (((Kp.refl wn).drew.step hbS_0).step hbS_1).out c0, keep_cell (((Kp.refl wn).drew.step hbS_0).step hbS_1).out c1', (((Kp.refl wn).drew.step hbS_0).step hbS_1)⟩ | with_reducible exact ⟨keep_cell ((Kp.refl wn).drew.step hbS_0).out a0, keep_cell ((Kp.refl wn).drew.step hbS_0).out a1, keep_cell ((Kp.refl wn).drew.step hbS_0).out b0, keep_cell ((Kp.refl wn).drew.step hbS_0).out b1, keep_cell ((Kp.refl wn).drew.step hbS_0).out c0, keep_cell ((Kp.refl wn).drew.step hbS_0).out c1', ((Kp.refl wn).drew.step hbS_0)⟩ | with_reducible exact ⟨keep_cell (Kp.refl wn).drew.out a0, keep_cell (Kp.refl wn).drew.out a1, keep_cell (Kp.refl wn).drew.out b0, keep_cell (Kp.refl wn).drew.out b1, keep_cell (Kp.refl wn).drew.out c0, keep_cell (Kp.refl wn).drew.out c1', (Kp.refl wn).drew⟩)
    (first
      | (go_at_call 39; ((with_reducible refine (HC2.out _ ?hq _ ?ha0 _ ?ha1).mono ?_); (case hq => exact (((Kp.refl wn).drew.step hbS_0).step hbS_1)); (case ha0 => exact (MS_0.keep hbS_1)); (case ha1 => exact MS_1); rintro x wS_2 ⟨vS_2, rfl, MS_2, hbS_2⟩))
      | (go_at_call 37; ((with_reducible refine (HC1.out _ ?hq).mono ?_); (case hq => exact ((Kp.refl wn).drew.step hbS_0)); rintro x wS_1 ⟨vS_1, rfl, MS_1, hbS_1⟩))
      | (go_at_call 37; ((with_reducible refine (HC0.out _ ?hq).mono ?_); (case hq => exact (Kp.refl wn).drew); rintro x wS_0 ⟨vS_0, rfl, MS_0, hbS_0⟩)))
  have KEND := Lib.hid ((((Kp.refl wn).drew.step hbS_0).step hbS_1).step hbS_2)
  have a0 := keep_cell KEND.out.out a0
  have a1 := keep_cell KEND.out.out a1
  have b0 := keep_cell KEND.out.out b0
  have b1 := keep_cell KEND.out.out b1
  have c0 := keep_cell KEND.out.out c0
  have c1' := keep_cell KEND.out.out c1'
  have HT := Lib.hid (HT.out.keep KEND.out.out)
  have HW := Lib.hid (bl_pack HW.out HW.out.size KEND.out.out)
  have MM1 := Lib.hid MS_2
  clear KEND MS_0 MS_1 MS_2 hbS_0 hbS_1 hbS_2 HC0 HC1 HC2
  go_wp2_with fail
  have HC0 := Lib.hid (fun (Y : World) (h' : Kp wS_2 Y) => HL3.out Y)
  have HC1 := Lib.hid (fun (Y : World) (h' : Kp wS_2 Y) => HL4.out Y)
  have HC2 := Lib.hid (fun (Y : World) (h' : Kp wS_2 Y) (v1 : Value) (hv1 : Sl Y v1 (fvs L3)) (v2 : Value) (hv2 : Sl Y v2 (fvs L4)) => HMB.out Y v1 v2 (HT.out.keep h'.out) hv1 hv2)
  go_region_held3 (fun w' => w'.cell? ⟨w.heap.size, 0, none⟩ = some (.float .f64 ax) ∧ w'.cell? ⟨w.heap.size, 1, none⟩ = some (.float .f64 ay) ∧ w'.cell? ⟨w.heap.size + 1, 0, none⟩ = some (.float .f64 bx) ∧ w'.cell? ⟨w.heap.size + 1, 1, none⟩ = some (.float .f64 bY) ∧ w'.cell? ⟨w.heap.size + 1 + 1, 0, none⟩ = some (.float .f64 cx) ∧ w'.cell? ⟨w.heap.size + 1 + 1, 1, none⟩ = some (.float .f64 cy) ∧ Kp wS_2 w')
    (first | with_reducible exact ⟨keep_cell ((((Kp.refl wS_2).drew.step hbT_0).step hbT_1).step hbT_2).out a0, keep_cell ((((Kp.refl wS_2).drew.step hbT_0).step hbT_1).step hbT_2).out a1, keep_cell ((((Kp.refl wS_2).drew.step hbT_0).step hbT_1).step hbT_2).out b0, keep_cell ((((Kp.refl wS_2).drew.step hbT_0).step hbT_1).step hbT_2).out b1, keep_cell ((((Kp.refl wS_2).drew.step hbT_0).step hbT_1).step hbT_2).out c0, keep_cell ((((Kp.refl wS_2).drew.step hbT_0).step hbT_1).step hbT_2).out c1', ((((Kp.refl wS_2).drew.step hbT_0).step hbT_1).step hbT_2)⟩ | with_reducible exact ⟨keep_cell (((Kp.refl wS_2).drew.step hbT_0).step hbT_1).out a0, keep_cell (((Kp.refl wS_2).drew.step hbT_0).step hbT_1).out a1, keep_cell (((Kp.refl wS_2).drew.step hbT_0).step hbT_1).out b0, keep_cell (((Kp.refl wS_2).drew.step hbT_0).step hbT_1).out b1, keep_cell (((Kp.refl wS_2).drew.step hbT_0).step hbT_1).out c0, keep_cell (((Kp.refl wS_2).drew.step hbT_0).step hbT_1).out c1', (((Kp.refl wS_2).drew.step hbT_0).step hbT_1)⟩ | with_reducible exact ⟨keep_cell ((Kp.refl wS_2).drew.step hbT_0).out a0, keep_cell ((Kp.refl wS_2).drew.step hbT_0).out a1, keep_cell ((Kp.refl wS_2).drew.step hbT_0).out b0, keep_cell ((Kp.refl wS_2).drew.step hbT_0).out b1, keep_cell ((Kp.refl wS_2).drew.step hbT_0).out c0, keep_cell ((Kp.refl wS_2).drew.step hbT_0).out c1', ((Kp.refl wS_2).drew.step hbT_0)⟩ | with_reducible exact ⟨keep_cell (Kp.refl wS_2).drew.out a0, keep_cell (Kp.refl wS_2).drew.out a1, keep_cell (Kp.refl wS_2).drew.out b0, keep_cell (Kp.refl wS_2).drew.out b1, keep_cell (Kp.refl wS_2).drew.out c0, keep_cell (Kp.refl wS_2).drew.out c1', (Kp.refl wS_2).drew⟩)
    (first
      | (go_at_call 39; ((with_reducible refine (HC2.out _ ?hq _ ?ha0 _ ?ha1).mono ?_); (case hq => exact (((Kp.refl wS_2).drew.step hbT_0).step hbT_1)); (case ha0 => exact (MT_0.keep hbT_1)); (case ha1 => exact MT_1); rintro x wT_2 ⟨vT_2, rfl, MT_2, hbT_2⟩))
      | (go_at_call 37; ((with_reducible refine (HC1.out _ ?hq).mono ?_); (case hq => exact ((Kp.refl wS_2).drew.step hbT_0)); rintro x wT_1 ⟨vT_1, rfl, MT_1, hbT_1⟩))
      | (go_at_call 37; ((with_reducible refine (HC0.out _ ?hq).mono ?_); (case hq => exact (Kp.refl wS_2).drew); rintro x wT_0 ⟨vT_0, rfl, MT_0, hbT_0⟩)))
  have KEND := Lib.hid ((((Kp.refl wS_2).drew.step hbT_0).step hbT_1).step hbT_2)
  have a0 := keep_cell KEND.out.out a0
  have a1 := keep_cell KEND.out.out a1
  have b0 := keep_cell KEND.out.out b0
  have b1 := keep_cell KEND.out.out b1
  have c0 := keep_cell KEND.out.out c0
  have c1' := keep_cell KEND.out.out c1'
  have HT := Lib.hid (HT.out.keep KEND.out.out)
  have HW := Lib.hid (bl_pack HW.out HW.out.size KEND.out.out)
  have MM1 := Lib.hid (MM1.out.keep KEND.out.out)
  have HC := Lib.hid (HCM.out wT_2 _ _ HT.out MM1.out MT_2)
  clear KEND MT_0 MT_1 MT_2 hbT_0 hbT_1 hbT_2 HC0 HC1 HC2 a0 a1 b0 b1 c0 c1'
  go_wp2_with fail
  refine HC.out.mono ?_
  rintro _ w9 ⟨rfl, b9⟩
  go_wp2_with fail
  go_ret
  exact ⟨rfl, bl_pack HW.out HW.out.size b9⟩

set_option maxRecDepth 100000 in
set_option maxHeartbeats 2000000 in
theorem osign_calls {w : World} (ht : TabOk w) (ax ay bx bY cx cy : Nat) (hax : ax < 18446744073709551616) (hay : ay < 18446744073709551616) (hbx : bx < 18446744073709551616) (hby : bY < 18446744073709551616) (hcx : cx < 18446744073709551616) (hcy : cy < 18446744073709551616) :
    Calls Tryd.prog 11 #[.agg #[.float .f64 ax, .float .f64 ay], .agg #[.float .f64 bx, .float .f64 bY], .agg #[.float .f64 cx, .float .f64 cy]] w fun e w' => e = .returned (.int .i64 (osg ax ay bx bY cx cy)) ∧ Below w.heap.size w w' := by
  have HF := Lib.hid (fun W => fast_calls ax ay bx bY cx cy hax hay hbx hby hcx hcy W)
  have HMay := Lib.hid (fun (W : World) (b c : Nat) (h : Pts W b 0 [(ax, ay), (bx, bY), (cx, cy)]) (hb : b < W.heap.size) => omay_calls [(ax, ay), (bx, bY), (cx, cy)] (wf3 hax hay hbx hby hcx hcy) (by simp) b c W h hb)
  have HE := Lib.hid (fun (hm : mayL [(ax, ay), (bx, bY), (cx, cy)] = true) (W : World) (hT : TabOk W) => (by
    obtain ⟨m1, m2, m3, m4, m5, m6⟩ := mayL3 hm
    exact exactly_calls hT ax ay bx bY cx cy (mayB_co hax m1) (mayB_co hay m2) (mayB_co hbx m3) (mayB_co hby m4) (mayB_co hcx m5) (mayB_co hcy m6) : Calls Tryd.prog 27 #[.agg #[.float .f64 ax, .float .f64 ay], .agg #[.float .f64 bx, .float .f64 bY], .agg #[.float .f64 cx, .float .f64 cy]] W fun e w' => e = .returned (.int .i64 (TV.sg (osum ax ay bx bY cx cy))) ∧ Below W.heap.size W w'))
  have hgo : osg ax ay bx bY cx cy = if mayL [(ax, ay), (bx, bY), (cx, cy)] = true then TV.sg (osum ax ay bx bY cx cy) else 0 := rfl
  have hP := fun (W : World) => pt3 W 24 ax ay bx bY cx cy
  have HPT := Lib.hid hP
  obtain ⟨SS, hSS⟩ : ∃ S, S = osg ax ay bx bY cx cy := ⟨_, rfl⟩
  obtain ⟨FO, hFO⟩ : ∃ F, F = fastOk ax ay bx bY cx cy := ⟨_, rfl⟩
  obtain ⟨ME, hME⟩ : ∃ M, M = mayL [(ax, ay), (bx, bY), (cx, cy)] := ⟨_, rfl⟩
  obtain ⟨TT, hTT⟩ : ∃ T, T = TV.sg (osum ax ay bx bY cx cy) := ⟨_, rfl⟩
  rw [← hSS, ← hFO] at HF
  rw [← hSS, ← hME, ← hTT] at hgo
  rw [← hME] at HMay
  rw [← hTT, ← hME] at HE
  rw [← hSS]
  obtain ⟨wn, hwn, HW0, hsz, k0, k1, k2⟩ := three_cells w (.cells #[.float .f64 ax, .float .f64 ay] 24) (.cells #[.float .f64 bx, .float .f64 bY] 24) (.cells #[.float .f64 cx, .float .f64 cy] 24)
  have HK0 := Lib.hid k0
  have HK1 := Lib.hid k1
  have HK2 := Lib.hid k2
  have HW := Lib.hid HW0
  have HT := Lib.hid (ht.keep HW0)
  have HGO := Lib.hid hgo
  clear hSS hFO hME hTT hax hay hbx hby hcx hcy hP hgo k0 k1 k2 HW0 ht
  have hs1 : w.heap.size + 1 + 1 < wn.heap.size := by omega
  clear hsz
  have q00 : wn.cell? ⟨w.heap.size, 0, none⟩ = some (.float .f64 ax) := cell_of_block HK0.out 0
  have q01 : wn.cell? ⟨w.heap.size, 1, none⟩ = some (.float .f64 ay) := cell_of_block HK0.out 1
  have q10 : wn.cell? ⟨w.heap.size + 1, 0, none⟩ = some (.float .f64 bx) := cell_of_block HK1.out 0
  have q11 : wn.cell? ⟨w.heap.size + 1, 1, none⟩ = some (.float .f64 bY) := cell_of_block HK1.out 1
  have q20 : wn.cell? ⟨w.heap.size + 1 + 1, 0, none⟩ = some (.float .f64 cx) := cell_of_block HK2.out 0
  have q21 : wn.cell? ⟨w.heap.size + 1 + 1, 1, none⟩ = some (.float .f64 cy) := cell_of_block HK2.out 1
  go_enter Tryd.func11, Tryd.ntmps11
  go_wp2_with fail
  rw [← hwn]
  clear hwn
  refine (HF.out _).mono ?_
  rintro _ w1 ⟨rfl, b1⟩
  have HW1 := Lib.hid (bl_pack HW.out HW.out.size b1)
  have HT1 := Lib.hid (HT.out.keep b1)
  have q00 : w1.cell? ⟨w.heap.size, 0, none⟩ = some (.float .f64 ax) := keep_cell b1 (cell_of_block HK0.out 0)
  have q01 : w1.cell? ⟨w.heap.size, 1, none⟩ = some (.float .f64 ay) := keep_cell b1 (cell_of_block HK0.out 1)
  have q10 : w1.cell? ⟨w.heap.size + 1, 0, none⟩ = some (.float .f64 bx) := keep_cell b1 (cell_of_block HK1.out 0)
  have q11 : w1.cell? ⟨w.heap.size + 1, 1, none⟩ = some (.float .f64 bY) := keep_cell b1 (cell_of_block HK1.out 1)
  have q20 : w1.cell? ⟨w.heap.size + 1 + 1, 0, none⟩ = some (.float .f64 cx) := keep_cell b1 (cell_of_block HK2.out 0)
  have q21 : w1.cell? ⟨w.heap.size + 1 + 1, 1, none⟩ = some (.float .f64 cy) := keep_cell b1 (cell_of_block HK2.out 1)
  cases FO with
  | true =>
    go_wp2_with fail
    go_ret
    exact ⟨rfl, HW1.out⟩
  | false =>
    go_wp2_with fail
    refine (HMay.out _ _ _ (HPT.out w1) (by simp)).mono ?_
    rintro _ w2 ⟨rfl, b2⟩
    have b12 := (kp_alloc w1 (.cells #[.float .f64 ax, .float .f64 ay, .float .f64 bx, .float .f64 bY, .float .f64 cx, .float .f64 cy] 24)).trans (b2.mono (by simp))
    have HW2 := Lib.hid (bl_pack HW1.out HW1.out.size b12)
    have HT2 := Lib.hid (HT1.out.keep b12)
    have q00 : w2.cell? ⟨w.heap.size, 0, none⟩ = some (.float .f64 ax) := keep_cell b12 (keep_cell b1 (cell_of_block HK0.out 0))
    have q01 : w2.cell? ⟨w.heap.size, 1, none⟩ = some (.float .f64 ay) := keep_cell b12 (keep_cell b1 (cell_of_block HK0.out 1))
    have q10 : w2.cell? ⟨w.heap.size + 1, 0, none⟩ = some (.float .f64 bx) := keep_cell b12 (keep_cell b1 (cell_of_block HK1.out 0))
    have q11 : w2.cell? ⟨w.heap.size + 1, 1, none⟩ = some (.float .f64 bY) := keep_cell b12 (keep_cell b1 (cell_of_block HK1.out 1))
    have q20 : w2.cell? ⟨w.heap.size + 1 + 1, 0, none⟩ = some (.float .f64 cx) := keep_cell b12 (keep_cell b1 (cell_of_block HK2.out 0))
    have q21 : w2.cell? ⟨w.heap.size + 1 + 1, 1, none⟩ = some (.float .f64 cy) := keep_cell b12 (keep_cell b1 (cell_of_block HK2.out 1))
    clear b2
    cases ME with
    | false =>
      go_wp2_with fail
      go_ret
      exact ⟨by rw [HGO.out]; rfl, HW2.out⟩
    | true =>
      have HE2 := Lib.hid (HE.out rfl w2 HT2.out)
      go_wp2_with fail
      refine HE2.out.mono ?_
      rintro _ w3 ⟨rfl, b3⟩
      go_wp2_with fail
      go_ret
      exact ⟨by rw [HGO.out]; rfl, bl_pack HW2.out HW2.out.size b3⟩
end Go.Proofs.YtiihokgjplpceaaDoor
