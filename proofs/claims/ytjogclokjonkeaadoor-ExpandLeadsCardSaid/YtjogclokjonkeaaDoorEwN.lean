/- Package expand, walked: Add, Scale, Mul. -/
import Derived.Test.YtjogclokjonkeaaDoorEwM
import Derived.Test.YtjogclokjonkeaaDoorEpF
namespace Go.Proofs.YtjogclokjonkeaaDoor
open Go.RowKit TV
set_option linter.unusedVariables false

/-- A list of the call's own, and whether it is done. -/
def TwoP (r : List Nat) (ok : Bool) (w : World) (x : Ending) (w' : World) : Prop :=
  ∃ u, x = .returned (.tuple #[u, .bool ok]) ∧ w'.ownsRow w.heap.size 34 1 u r.length (fvs r) ∧ Below w.heap.size w w'
theorem TwoP.nil {w w' : World} {ok : Bool} (hb : Below w.heap.size w w') : TwoP [] ok w (.returned (.tuple #[.slice none 0 0, .bool ok])) w' := ⟨_, rfl, ⟨rfl, Or.inl ⟨rfl, rfl⟩⟩, hb⟩
def addOk (e f : List Nat) : Bool := allB 1 8660422083433463808 e && allB 1 8660422083433463808 f
def addL (e f : List Nat) : List Nat := if addOk e f = true then plusB e f else []
theorem allAdd {w : World} {v : Value} {l : List Nat} (hs : Sl w v (fvs l)) (hl : ∀ x ∈ l, x < 18446744073709551616) (hn : l.length ≤ 1000) :
    Calls Tryd.prog 42 #[v, .float .f64 1, .float .f64 8660422083433463808] w fun x w' => x = .returned (.bool (allB 1 8660422083433463808 l)) ∧ Below w.heap.size w w' :=
  all_calls hs hl 1 8660422083433463808 (by decide) (by decide) (by decide) (fun x _ h => by have := inf_eq; omega) (by omega)
set_option maxRecDepth 100000 in
set_option maxHeartbeats 1000000 in
theorem eadd_calls {w : World} (ht : TabOk w) {ve vf : Value} {le lf : List Nat} (hse : Sl w ve (fvs le)) (hsf : Sl w vf (fvs lf)) (hle : ∀ x ∈ le, x < 18446744073709551616) (hlf : ∀ x ∈ lf, x < 18446744073709551616) (hn1 : le.length ≤ 1000) (hn2 : lf.length ≤ 1000) :
    Calls Tryd.prog 9 #[ve, vf] w (TwoP (addL le lf) (addOk le lf) w) := by
  have HA := Lib.hid (allAdd hse hle hn1)
  have HB := Lib.hid (fun (W : World) (h : Sl W vf (fvs lf)) => allAdd h hlf hn2)
  have HP := Lib.hid (fun (hle' : ∀ x ∈ le, Fl x) (hlf' : ∀ x ∈ lf, Fl x) (hM : ((neatB (growsB [] (mergeB le lf))).map fv).sum.natAbs ≤ tameM) (W : World) (hW : TabOk W) (h1 : Sl W ve (fvs le)) (h2 : Sl W vf (fvs lf)) => plus_calls hW h1 h2 hle' hlf' hn1 hn2 hM)
  have HSE := Lib.hid hse
  have HSF := Lib.hid hsf
  have HT := Lib.hid ht
  by_cases c1 : allB 1 8660422083433463808 le = true
  · by_cases c2 : allB 1 8660422083433463808 lf = true
    · have e1 := allB_ex (by decide) le hle c1
      have e2 := allB_ex (by decide) lf hlf c2
      have hM := plus_tame e1 e2 (by have := add_T0; omega)
      have HPP := Lib.hid (HP.out e1.fl e2.fl hM)
      have eo : addOk le lf = true := by unfold addOk; rw [c1, c2]; rfl
      have el : addL le lf = plusB le lf := by unfold addL; rw [if_pos eo]
      rw [eo, el]
      rw [c1] at HA
      rw [c2] at HB
      obtain ⟨p, ce, rfl⟩ := hse.form
      obtain ⟨q, cf, rfl⟩ := hsf.form
      clear hse hsf hle hlf hM e1 e2 eo el c1 c2 HP ht
      go_enter Tryd.func9, Tryd.ntmps9
      go_wp2_with fail
      refine HA.out.mono ?_
      rintro _ w1 ⟨rfl, b1⟩
      have h2 := Lib.hid (HB.out w1 (HSF.out.keep b1))
      go_wp2_with fail
      refine h2.out.mono ?_
      rintro _ w2 ⟨rfl, b2⟩
      have b12 := below2 b1 b2
      have h3 := Lib.hid (HPP.out w2 (HT.out.keep b12) (HSE.out.keep b12) (HSF.out.keep b12))
      go_wp2_with (go_at_call 43; refine h3.out.mono ?_; rintro _ w3 ⟨v3, rfl, hown3, b3⟩; obtain ⟨p3, c3, rfl⟩ := own_form hown3)
      go_ret2
      exact ⟨_, rfl, own_less hown3 b12.size, below2 b12 b3⟩
    · have c2' : allB 1 8660422083433463808 lf = false := by simpa using c2
      have eo : addOk le lf = false := by unfold addOk; rw [c2']; simp
      have el : addL le lf = [] := by unfold addL; rw [eo]; rfl
      rw [eo, el]
      rw [c1] at HA
      rw [c2'] at HB
      obtain ⟨p, ce, rfl⟩ := hse.form
      obtain ⟨q, cf, rfl⟩ := hsf.form
      clear hse hsf hle hlf eo el c1 c2 c2' HP ht
      go_enter Tryd.func9, Tryd.ntmps9
      go_wp2_with fail
      refine HA.out.mono ?_
      rintro _ w1 ⟨rfl, b1⟩
      have h2 := Lib.hid (HB.out w1 (HSF.out.keep b1))
      go_wp2_with fail
      refine h2.out.mono ?_
      rintro _ w2 ⟨rfl, b2⟩
      go_wp2_with fail
      go_ret2
      exact TwoP.nil (below2 b1 b2)
  · have c1' : allB 1 8660422083433463808 le = false := by simpa using c1
    have eo : addOk le lf = false := by unfold addOk; rw [c1']; simp
    have el : addL le lf = [] := by unfold addL; rw [eo]; rfl
    rw [eo, el]
    rw [c1'] at HA
    obtain ⟨p, ce, rfl⟩ := hse.form
    obtain ⟨q, cf, rfl⟩ := hsf.form
    clear hse hsf hle hlf eo el c1 c1' HP ht HB
    go_enter Tryd.func9, Tryd.ntmps9
    go_wp2_with fail
    refine HA.out.mono ?_
    rintro _ w1 ⟨rfl, b1⟩
    go_wp2_with fail
    go_ret2
    exact TwoP.nil b1

/-! ### Scale -/
theorem safeNz {b : Nat} (hz : rung b ≠ 0) (h : inB 2580562586483294208 6633802251116740608 b = true) : safeB b = true := by
  have := of_decide_eq_true h
  exact decide_eq_true (Or.inr this)
theorem prodAny (x y : Nat) (hx : x < 18446744073709551616) (hy : y < 18446744073709551616) (hx2 : safeB x = true) (hy2 : safeB y = true) (w : World) :
    Calls Tryd.prog 55 #[.float .f64 x, .float .f64 y] w fun e w' => e = .returned (.tuple #[.float .f64 (pHi x y), .float .f64 (pLo x y)]) ∧ Below w.heap.size w w' := by
  refine (prod_calls x y hx hy hx2 hy2 w).mono ?_
  rintro e w' ⟨rfl, hb⟩
  refine ⟨?_, hb⟩
  unfold pHi pLo; rw [hx2, hy2]; rfl
theorem prods_step {e : List Nat} {b k : Nat} (h : k < e.length) : prodsB (e.drop k) b = pLo e[k] b :: pHi e[k] b :: prodsB (e.drop (k + 1)) b := by
  rw [List.drop_eq_getElem_cons h]; rfl
def scaleOk (e : List Nat) (b : Nat) : Bool := allB 2580562586483294208 6633802251116740608 e && (decide (rung b = 0) || inB 2580562586483294208 6633802251116740608 b)
def scaleL (e : List Nat) (b : Nat) : List Nat := if scaleOk e b = true ∧ rung b ≠ 0 then scaleB e b else []
set_option maxRecDepth 100000 in
set_option maxHeartbeats 1000000 in
theorem scale_calls {w : World} (ht : TabOk w) {ve : Value} {le : List Nat} (hse : Sl w ve (fvs le)) (hle : ∀ x ∈ le, x < 18446744073709551616) (hn1 : le.length ≤ 1000) (b : Nat) (hb : b < 18446744073709551616) :
    Calls Tryd.prog 28 #[ve, .float .f64 b] w (TwoP (scaleL le b) (scaleOk le b) w) := by
  have HA := Lib.hid (safe_calls2 hse hle (by omega))
  have HB := Lib.hid (fun w => within_calls b 2580562586483294208 6633802251116740608 hb (by decide) (by decide) w)
  have HSE := Lib.hid hse
  have HT := Lib.hid ht
  by_cases c1 : allB 2580562586483294208 6633802251116740608 le = true
  · rw [c1] at HA
    by_cases z : rung b = 0
    · have e1 : (FloatKind.f64.format.order b 0 == some .eq) = true := (eq_zero b).trans (decide_eq_true z)
      have e2 : (FloatKind.f64.format.order b 0 != some .eq) = false := by simp [bne, e1]
      have eo : scaleOk le b = true := by unfold scaleOk; rw [c1, decide_eq_true z]; rfl
      have el : scaleL le b = [] := by unfold scaleL; rw [if_neg (fun h => h.2 z)]
      rw [eo, el]
      obtain ⟨p, ce, rfl⟩ := hse.form
      clear hse hle eo el c1 z ht
      go_enter Tryd.func28, Tryd.ntmps28
      go_wp2_with (go_at_call 19; refine HA.out.mono ?_; rintro _ w1 ⟨rfl, b1⟩)
      go_ret2
      exact TwoP.nil b1
    · have e1 : (FloatKind.f64.format.order b 0 == some .eq) = false := (eq_zero b).trans (decide_eq_false z)
      have e2 : (FloatKind.f64.format.order b 0 != some .eq) = true := by simp [bne, e1]
      by_cases c2 : inB 2580562586483294208 6633802251116740608 b = true
      · rw [c2] at HB
        have eo : scaleOk le b = true := by unfold scaleOk; rw [c1, c2]; simp
        have el : scaleL le b = scaleB le b := by unfold scaleL; rw [if_pos ⟨eo, z⟩]
        rw [eo, el]
        obtain ⟨hl64, hsafe, -⟩ := allB_safe c1
        have hsb := safeNz z c2
        have hM := (scaleB_ex hsafe hsb hl64).2
        have HPr := Lib.hid (fun (k : Nat) (h : k < le.length) (W : World) => prodAny le[k] b (hle _ (List.getElem_mem h)) hb (hsafe _ (List.getElem_mem h)) hsb W)
        have HTM := Lib.hid hM
        obtain ⟨p, ce, rfl⟩ := hse.form
        have hll : (fvs le).length = le.length := by simp [fvs]
        rw [hll] at HA HSE ⊢
        clear hse hle eo el c1 c2 z ht hsafe hsb hM hll
        go_enter Tryd.func28, Tryd.ntmps28
        go_wp2_with (first
          | (go_at_call 19; refine HA.out.mono ?_; rintro _ w1 ⟨rfl, b1⟩)
          | (go_at_call 54; ((with_reducible refine (HB.out _).mono ?_); rintro _ w2 ⟨rfl, rfl⟩)))
        go_loopw [6, 8, 9, 10, 29, 33] (fun ov _ _ _ iv _ wr => ∃ (k : Nat) (os : List Nat), iv = .int .i64 k ∧ k ≤ le.length ∧ Hid (growsB [] (prodsB le b) = growsB os (prodsB (le.drop k) b)) ∧ Hid (∀ x ∈ os, Fl x) ∧ os.length ≤ 2 * k ∧
            wr.ownsRow w.heap.size 34 1 ov os.length (fvs os) ∧ Below w.heap.size w wr) (fun _ _ _ _ iv _ _ => le.length - (intOf iv).toNat)
        case atStart => exact ⟨0, [], rfl, Nat.zero_le _, by show _ = _; rfl, fun x hx => (by cases hx), Nat.le_refl _, ⟨rfl, Or.inl ⟨rfl, rfl⟩⟩, b1⟩
        case round =>
          obtain ⟨k, os, rfl, hk, HG, HF, hos, hown, hB⟩ := hrel
          obtain ⟨wz, rfl⟩ : ∃ z : World, z = wr := ⟨_, rfl⟩
          obtain ⟨pr, cr, rfl⟩ := own_form hown
          by_cases hlt : k < le.length
          · obtain ⟨bb, oo, rfl, hcell⟩ := sl_atf (HSE.out.keep hB) hlt
            have HPk := Lib.hid (HPr.out k hlt)
            have hst := prods_step (b := b) hlt
            obtain ⟨x, hx⟩ : ∃ x, x = le[k] := ⟨_, rfl⟩
            rw [← hx] at hcell HPk hst
            obtain ⟨hi, hhi⟩ : ∃ y, y = pHi x b := ⟨_, rfl⟩
            obtain ⟨lo, hlo⟩ : ∃ y, y = pLo x b := ⟨_, rfl⟩
            have hfp := p_fl x b
            rw [← hhi, ← hlo] at HPk hst hfp
            have hG2 : growsB [] (prodsB le b) = growsB (growB (growB os lo) hi) (prodsB (le.drop (k + 1)) b) := by rw [HG.out, hst]; rfl
            have HG2 := Lib.hid hG2
            have f1 := growB_fl os lo hfp.2
            have HF2 := Lib.hid (growB_fl (growB os lo) hi hfp.1)
            have l1 := growB_len os lo
            have l2 := growB_len (growB os lo) hi
            have HG1 := Lib.hid (fun (W : World) (u : Value) (h : Sl W u (fvs os)) => grow_calls h HF.out (by omega) lo hfp.2)
            have HG3 := Lib.hid (fun (W : World) (u : Value) (h : Sl W u (fvs (growB os lo))) => grow_calls h f1 (by omega) hi hfp.1)
            have HOw := Lib.hid hown
            have HBz := Lib.hid hB
            clear hx hhi hlo hst hG2 f1 hown hB hfp
            go_wp2_with fail
            refine (HPk.out _).mono ?_
            rintro _ w3 ⟨rfl, b3⟩
            have h4 := Lib.hid (HG1.out w3 _ (own_sl (own_keep HOw.out b3)))
            go_wp2_with fail
            refine h4.out.mono ?_
            rintro _ w5 ⟨v5, rfl, hown5, b5⟩
            have h6 := Lib.hid (HG3.out w5 _ (own_sl hown5))
            obtain ⟨p5, c5, rfl⟩ := own_form hown5
            clear hown5
            go_wp2_with fail
            refine h6.out.mono ?_
            rintro _ w7 ⟨v7, rfl, hown7, b7⟩
            obtain ⟨p7, c7, rfl⟩ := own_form hown7
            have hb1 := HBz.out.size
            have hb3 := b3.size
            have hb5 := b5.size
            have HO7 := Lib.hid (own_less hown7 (show w.heap.size ≤ w5.heap.size by omega))
            clear hown7
            go_wp2_with fail
            go_roundw
            case rel => exact ⟨k + 1, growB (growB os lo) hi, by go_num, by omega, HG2.out, HF2.out, by omega, HO7.out, bl_pack (bl_pack (bl_pack HBz.out hb1 b3) (by omega) b5) (by omega) b7⟩
            case measure => simp [intOf]; omega
          · obtain rfl : k = le.length := by omega
            have hG := HG.out
            rw [List.drop_length] at hG
            have hF := HF.out
            have HNe := Lib.hid (neat_calls (own_sl hown) hF (by omega))
            have hfl := neatB_fl os hF
            have hln := neatB_len os
            have hM := HTM.out
            rw [hG] at hM
            have hp : scaleB le b = apartB (neatB os) := by unfold scaleB apneB; rw [hG]; rfl
            have hM' : ((neatB os).map fv).sum.natAbs ≤ tameM := hM
            have HAp := Lib.hid (fun (W : World) (u : Value) (h : W.ownsRow wz.heap.size 34 1 u (neatB os).length (fvs (neatB os))) (hb : wz.heap.size ≤ W.heap.size) (hk : TabOk W) => apart_calls hk h hb hfl (by omega) hM')
            have HP := Lib.hid hp
            have HTz := Lib.hid (HT.out.keep hB)
            have HBz := Lib.hid hB
            clear hG hM hM' hp hF hfl hown hB
            go_wp2_with (first
              | (go_at_call 58; refine HNe.out.mono ?_; rintro _ w6 ⟨v6, rfl, hown6, b6⟩; have HA6 := Lib.hid (HAp.out w6 _ hown6 b6.size (HTz.out.keep b6)); obtain ⟨p6, c6, rfl⟩ := own_form hown6)
              | (go_at_call 57; refine HA6.out.mono ?_; rintro _ w7 ⟨v7, rfl, hown7, b7⟩; obtain ⟨p7, c7, rfl⟩ := own_form hown7))
            go_ret2
            refine ⟨_, rfl, ?_, bl_pack (bl_pack HBz.out HBz.out.size b6) (Nat.le_trans HBz.out.size b6.size) b7⟩
            rw [HP.out]
            exact own_less hown7 HBz.out.size
      · have c2' : inB 2580562586483294208 6633802251116740608 b = false := by simpa using c2
        rw [c2'] at HB
        have eo : scaleOk le b = false := by unfold scaleOk; rw [c2', decide_eq_false z]; simp
        have el : scaleL le b = [] := by unfold scaleL; rw [eo]; simp
        rw [eo, el]
        obtain ⟨p, ce, rfl⟩ := hse.form
        clear hse hle eo el c1 c2 c2' z ht
        go_enter Tryd.func28, Tryd.ntmps28
        go_wp2_with (first
          | (go_at_call 19; refine HA.out.mono ?_; rintro _ w1 ⟨rfl, b1⟩)
          | (go_at_call 54; ((with_reducible refine (HB.out _).mono ?_); rintro _ w2 ⟨rfl, rfl⟩)))
        go_ret2
        exact TwoP.nil b1
  · have c1' : allB 2580562586483294208 6633802251116740608 le = false := by simpa using c1
    rw [c1'] at HA
    have eo : scaleOk le b = false := by unfold scaleOk; rw [c1']; rfl
    have el : scaleL le b = [] := by unfold scaleL; rw [eo]; simp
    rw [eo, el]
    obtain ⟨p, ce, rfl⟩ := hse.form
    clear hse hle eo el c1 c1' ht
    go_enter Tryd.func28, Tryd.ntmps28
    go_wp2_with (go_at_call 19; refine HA.out.mono ?_; rintro _ w1 ⟨rfl, b1⟩)
    go_ret2
    exact TwoP.nil b1
end Go.Proofs.YtjogclokjonkeaaDoor
