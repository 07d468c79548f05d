/- Texts of one kind, joined. -/
import Derived.Test.YtiihokgjplpceaaDoorEwJ
import Derived.Test.YtiihokgjplpceaaDoorEwL
import Derived.Test.YtiihokgjplpceaaDoorEpX
import Derived.Test.YtiihokgjplpceaaDoorEwS

section
/- Package expand, walked: plus. -/
namespace Go.Proofs.YtiihokgjplpceaaDoor
open Go.RowKit TV
set_option linter.unusedVariables false

theorem box_four (w : World) (o0 o1 o2 o3 : Obj) : ∃ wn, wn = (((w.alloc o0).alloc o1).alloc o2).alloc o3 ∧ Below w.heap.size w wn ∧ wn.heap.size = w.heap.size + 4 ∧ wn.heap[w.heap.size]? = some o0 ∧ wn.heap[w.heap.size + 1]? = some o1 ∧ wn.heap[w.heap.size + 2]? = some o2 ∧ wn.heap[w.heap.size + 3]? = some o3 := by
  have k1 := heap_alloc_new (w.alloc o0) o1
  have k2 := heap_alloc_new ((w.alloc o0).alloc o1) o2
  have k3 := heap_alloc_new (((w.alloc o0).alloc o1).alloc o2) o3
  simp only [World.size_alloc] at k1 k2 k3
  refine ⟨_, rfl, ((((Below.refl _ _).alloc (Nat.le_refl _) _).alloc (by simp) _).alloc (by simp <;> omega) _).alloc (by simp <;> omega) _, by simp, ?_, ?_, ?_, k3⟩
  · exact (Below.heap_alloc _ _ _ (by simp <;> omega)).trans ((Below.heap_alloc _ _ _ (by simp <;> omega)).trans ((Below.heap_alloc _ _ _ (by simp)).trans (heap_alloc_new _ _)))
  · exact (Below.heap_alloc _ _ _ (by simp <;> omega)).trans ((Below.heap_alloc _ _ _ (by simp)).trans k1)
  · exact (Below.heap_alloc _ _ _ (by simp)).trans k2
theorem own_same {w w1 : World} {base : Nat} {e : TypeId} {size n : Nat} {v : Value} {xs : List Value} (h : w.ownsRow base e size v n xs) (hb : ∀ b, base ≤ b → w1.heap[b]? = w.heap[b]?) : w1.ownsRow base e size v n xs := by
  obtain ⟨h1, h2⟩ := h
  refine ⟨h1, ?_⟩
  rcases h2 with h2 | ⟨g, cap, cur, hv, hg, hh, r⟩
  · exact Or.inl h2
  · exact Or.inr ⟨g, cap, cur, hv, hg, (hb g hg).trans hh, r⟩
set_option maxRecDepth 100000 in
set_option maxHeartbeats 2000000 in
theorem plus_calls {w : World} (ht : TabOk w) {ve vf : Value} {le lf : List Nat} (hse : Sl w ve (fvs le)) (hsf : Sl w vf (fvs lf)) (hle : ∀ x ∈ le, Fl x) (hlf : ∀ x ∈ lf, Fl x) (hn1 : le.length ≤ 1000) (hn2 : lf.length ≤ 1000)
    (hM : ((neatB (growsB [] (mergeB le lf))).map fv).sum.natAbs ≤ tameM) :
    Calls Tryd.prog 54 #[ve, vf] w fun x w' => ∃ u, x = .returned u ∧ w'.ownsRow w.heap.size 22 1 u (plusB le lf).length (fvs (plusB le lf)) ∧ Below w.heap.size w w' := by
  have hIe := hse.lt
  have hIf := hsf.lt
  obtain ⟨p, ce, rfl⟩ := hse.form
  obtain ⟨q, cf, rfl⟩ := hsf.form
  have hll : (fvs le).length = le.length := by simp [fvs]
  have hll2 : (fvs lf).length = lf.length := by simp [fvs]
  rw [hll] at hse hIe ⊢
  rw [hll2] at hsf hIf ⊢
  have HLE := Lib.hid hle
  have HLF := Lib.hid hlf
  have HSE := Lib.hid hse
  have HSF := Lib.hid hsf
  have HTM := Lib.hid hM
  have HT := Lib.hid ht
  clear hse hsf hle hlf hll hll2 hM
  go_enter Tryd.func54, Tryd.ntmps54
  go_wp2_with fail
  obtain ⟨W4, h4, B4, S4, J0, J1, J2, J3⟩ := box_four w (.cells #[.slice p le.length ce] 55) (.cells #[.slice q lf.length cf] 55) (.cells #[.int .i64 0] 3) (.cells #[.int .i64 0] 3)
  rw [← h4]
  clear h4
  obtain ⟨b0, hb0⟩ : ∃ b, b = w.heap.size := ⟨_, rfl⟩
  have hbw := Lib.hid hb0
  rw [← hb0] at J0 J1 J2 J3 S4 hIe hIf B4
  rw [← hb0]
  clear hb0
  have HIE := Lib.hid hIe
  have HIF := Lib.hid hIf
  clear hIe hIf
  go_loopw [8, 15] (fun ov iv wr => ∃ (i k : Nat) (os : List Nat), iv = .int .i64 ((i + k : Nat) : Int) ∧ i ≤ le.length ∧ k ≤ lf.length ∧ Hid (growsB [] (mergeB le lf) = growsB os (mergeB (le.drop i) (lf.drop k))) ∧ Hid (∀ x ∈ os, Fl x) ∧ os.length ≤ i + k ∧
      wr.ownsRow (b0 + 4) 22 1 ov os.length (fvs os) ∧ wr.heap[b0]? = some (.cells #[.slice p le.length ce] 55 (0, 0)) ∧ wr.heap[b0 + 1]? = some (.cells #[.slice q lf.length cf] 55 (0, 0)) ∧
      wr.heap[b0 + 2]? = some (.cells #[.int .i64 i] 3 (0, 0)) ∧ wr.heap[b0 + 3]? = some (.cells #[.int .i64 k] 3 (0, 0)) ∧ Below b0 w wr)
    (fun _ iv _ => le.length + lf.length - (intOf iv).toNat)
  case atStart => exact ⟨0, 0, [], rfl, Nat.zero_le _, Nat.zero_le _, by show _ = _; rfl, fun x hx => (by cases hx), Nat.le_refl _, ⟨rfl, Or.inl ⟨rfl, rfl⟩⟩, J0, J1, J2, J3, B4⟩
  case round =>
    clear J0 J1 J2 J3 S4 B4
    obtain ⟨i, k, os, rfl, hi, hk, HG, HF, hos, hown, J0, J1, J2, J3, hB⟩ := hrel
    obtain ⟨wz, rfl⟩ : ∃ z : World, z = wr := ⟨_, rfl⟩
    obtain ⟨pr, cr, rfl⟩ := own_form hown
    by_cases hlt : i + k < le.length + lf.length
    · have hlt' : decide (((i + k : Nat) : Int) < (le.length : Int) + lf.length) = true := decide_eq_true (by omega)
      have hbz : Below w.heap.size w wz := by rw [hbw.out] at hB; exact hB
      have HN := Lib.hid (enext_calls (base := b0) J0 J1 J2 J3 (HSE.out.keep hbz) (HSF.out.keep hbz) HLE.out HLF.out HIE.out HIF.out (by omega) (by omega) (by omega) (by omega) (by omega) (by omega) (by omega) hi hk hlt (by omega) (by omega))
      have HOw := Lib.hid hown
      have hbs := block_lt J3
      clear hown hbz
      go_wp2_with fail
      refine HN.out.mono ?_
      rintro _ w5 ⟨y, i', k', rfl, hi2, hk2, hik, HM, K2, K3, hfar, hs5, b5⟩
      have hown5 := own_same HOw.out (fun b h => hfar b (by omega) (by omega))
      have J0' := (hfar b0 (by omega) (by omega)).trans J0
      have J1' := (hfar (b0 + 1) (by omega) (by omega)).trans J1
      have hB5 : Below b0 w w5 := hB.trans b5
      have hfy : Fl y := by
        have h1 := mergeB_mem (P := Fl) (le.drop i) (lf.drop k) (fun x hx => HLE.out x (List.mem_of_mem_drop hx)) (fun x hx => HLF.out x (List.mem_of_mem_drop hx))
        rw [HM.out] at h1
        exact h1 y (by simp)
      have HGr := Lib.hid (grow_calls (own_sl hown5) HF.out (by omega) y hfy)
      have hG2 : growsB [] (mergeB le lf) = growsB (growB os y) (mergeB (le.drop i') (lf.drop k')) := by rw [HG.out, HM.out]; rfl
      have HG2 := Lib.hid hG2
      have HF2 := Lib.hid (growB_fl os y hfy)
      have hgl := growB_len os y
      clear hfar hown5 hfy J0 J1 J2 J3 hG2 hB b5
      go_wp2_with (go_at_call 70; refine HGr.out.mono ?_; rintro _ w6 ⟨v6, rfl, hown6, b6⟩; obtain ⟨p6, c6, rfl⟩ := own_form hown6)
      go_roundw
      case rel => exact ⟨i', k', growB os y, by congr 1; omega, hi2, hk2, HG2.out, HF2.out, by omega, own_less hown6 (by omega), keep_block b6 J0', keep_block b6 J1', keep_block b6 K2, keep_block b6 K3, hB5.trans (b6.mono (by have := hB5.size; omega))⟩
      case measure => simp [intOf]; omega
    · have hlt' : decide (((i + k : Nat) : Int) < (le.length : Int) + lf.length) = false := decide_eq_false (by omega)
      obtain rfl : i = le.length := by omega
      obtain rfl : k = lf.length := by omega
      have hG := HG.out
      rw [List.drop_length, List.drop_length, mergeB_nil] at hG
      have hbz : Below w.heap.size w wz := by rw [hbw.out] at hB; exact hB
      have hF := HF.out
      have HNe := Lib.hid (neat_calls (own_sl hown) hF (by omega))
      have hfl := neatB_fl os hF
      have hln := neatB_len os
      have hM := HTM.out
      rw [hG] at hM
      have hp : plusB le lf = apartB (neatB os) := by unfold plusB apneB; rw [hG]; rfl
      have hM' : ((neatB os).map fv).sum.natAbs ≤ tameM := hM
      have HAp := Lib.hid (fun (W : World) (u : Value) (h : W.ownsRow wz.heap.size 22 1 u (neatB os).length (fvs (neatB os))) (hb : wz.heap.size ≤ W.heap.size) (hk : TabOk W) => apart_calls hk h hb hfl (by omega) hM')
      have HP := Lib.hid hp
      have HTz := Lib.hid (HT.out.keep hbz)
      have HBz := Lib.hid hbz
      rw [show le.length + lf.length = le.length + lf.length from rfl]
      clear hG hM hM' hp hF hfl hown hbz hB
      go_wp2_with (first
        | (go_at_call 72; refine HNe.out.mono ?_; rintro _ w6 ⟨v6, rfl, hown6, b6⟩; have HA6 := Lib.hid (HAp.out w6 _ hown6 b6.size (HTz.out.keep b6)); obtain ⟨p6, c6, rfl⟩ := own_form hown6)
        | (go_at_call 71; refine HA6.out.mono ?_; rintro _ w7 ⟨v7, rfl, hown7, b7⟩; obtain ⟨p7, c7, rfl⟩ := own_form hown7))
      go_ret
      refine ⟨_, rfl, ?_, bl_pack (bl_pack HBz.out HBz.out.size b6) (Nat.le_trans HBz.out.size b6.size) b7⟩
      rw [HP.out]
      exact own_less hown7 HBz.out.size
end Go.Proofs.YtiihokgjplpceaaDoor
end

section
/- Package expand, walked: Add, Scale, Mul. -/
namespace Go.Proofs.YtiihokgjplpceaaDoor
open Go.RowKit TV
set_option linter.unusedVariables false

/-- A list of the call's own, and whether it is done. -/
def TwoP (r : List Nat) (ok : Bool) (w : World) (x : Ending) (w' : World) : Prop :=
  ∃ u, x = .returned (.tuple #[u, .bool ok]) ∧ w'.ownsRow w.heap.size 22 1 u r.length (fvs r) ∧ Below w.heap.size w w'
theorem TwoP.nil {w w' : World} {ok : Bool} (hb : Below w.heap.size w w') : TwoP [] ok w (.returned (.tuple #[.slice none 0 0, .bool ok])) w' := ⟨_, rfl, ⟨rfl, Or.inl ⟨rfl, rfl⟩⟩, hb⟩
def addOk (e f : List Nat) : Bool := allB 1 8660422083433463808 e && allB 1 8660422083433463808 f
def addL (e f : List Nat) : List Nat := if addOk e f = true then plusB e f else []
theorem allAdd {w : World} {v : Value} {l : List Nat} (hs : Sl w v (fvs l)) (hl : ∀ x ∈ l, x < 18446744073709551616) (hn : l.length ≤ 1000) :
    Calls Tryd.prog 67 #[v, .float .f64 1, .float .f64 8660422083433463808] w fun x w' => x = .returned (.bool (allB 1 8660422083433463808 l)) ∧ Below w.heap.size w w' :=
  all_calls hs hl 1 8660422083433463808 (by decide) (by decide) (by decide) (fun x _ h => by have := inf_eq; omega) (by omega)
/-! ### Scale -/
theorem safeNz {b : Nat} (hz : rung b ≠ 0) (h : inB 2580562586483294208 6633802251116740608 b = true) : safeB b = true := by
  have := of_decide_eq_true h
  exact decide_eq_true (Or.inr this)
theorem prodAny (x y : Nat) (hx : x < 18446744073709551616) (hy : y < 18446744073709551616) (hx2 : safeB x = true) (hy2 : safeB y = true) (w : World) :
    Calls Tryd.prog 69 #[.float .f64 x, .float .f64 y] w fun e w' => e = .returned (.tuple #[.float .f64 (pHi x y), .float .f64 (pLo x y)]) ∧ Below w.heap.size w w' := by
  refine (prod_calls x y hx hy hx2 hy2 w).mono ?_
  rintro e w' ⟨rfl, hb⟩
  refine ⟨?_, hb⟩
  unfold pHi pLo; rw [hx2, hy2]; rfl
theorem prods_step {e : List Nat} {b k : Nat} (h : k < e.length) : prodsB (e.drop k) b = pLo e[k] b :: pHi e[k] b :: prodsB (e.drop (k + 1)) b := by
  rw [List.drop_eq_getElem_cons h]; rfl
def scaleOk (e : List Nat) (b : Nat) : Bool := allB 2580562586483294208 6633802251116740608 e && (decide (rung b = 0) || inB 2580562586483294208 6633802251116740608 b)
def scaleL (e : List Nat) (b : Nat) : List Nat := if scaleOk e b = true ∧ rung b ≠ 0 then scaleB e b else []
set_option maxRecDepth 100000 in
set_option maxHeartbeats 1000000 in
theorem scale_calls {w : World} (ht : TabOk w) {ve : Value} {le : List Nat} (hse : Sl w ve (fvs le)) (hle : ∀ x ∈ le, x < 18446744073709551616) (hn1 : le.length ≤ 1000) (b : Nat) (hb : b < 18446744073709551616) :
    Calls Tryd.prog 53 #[ve, .float .f64 b] w (TwoP (scaleL le b) (scaleOk le b) w) := by
  have HA := Lib.hid (safe_calls2 hse hle (by omega))
  have HB := Lib.hid (fun w => within_calls b 2580562586483294208 6633802251116740608 hb (by decide) (by decide) w)
  have HSE := Lib.hid hse
  have HT := Lib.hid ht
  by_cases c1 : allB 2580562586483294208 6633802251116740608 le = true
  · rw [c1] at HA
    by_cases z : rung b = 0
    · have e1 : (FloatKind.f64.format.order b 0 == some .eq) = true := (eq_zero b).trans (decide_eq_true z)
      have e2 : (FloatKind.f64.format.order b 0 != some .eq) = false := by simp [bne, e1]
      have eo : scaleOk le b = true := by unfold scaleOk; rw [c1, decide_eq_true z]; rfl
      have el : scaleL le b = [] := by unfold scaleL; rw [if_neg (fun h => h.2 z)]
      rw [eo, el]
      obtain ⟨p, ce, rfl⟩ := hse.form
      clear hse hle eo el c1 z ht
      go_enter Tryd.func53, Tryd.ntmps53
      go_wp2_with (go_at_call 52; refine HA.out.mono ?_; rintro _ w1 ⟨rfl, b1⟩)
      go_ret2
      exact TwoP.nil b1
    · have e1 : (FloatKind.f64.format.order b 0 == some .eq) = false := (eq_zero b).trans (decide_eq_false z)
      have e2 : (FloatKind.f64.format.order b 0 != some .eq) = true := by simp [bne, e1]
      by_cases c2 : inB 2580562586483294208 6633802251116740608 b = true
      · rw [c2] at HB
        have eo : scaleOk le b = true := by unfold scaleOk; rw [c1, c2]; simp
        have el : scaleL le b = scaleB le b := by unfold scaleL; rw [if_pos ⟨eo, z⟩]
        rw [eo, el]
        obtain ⟨hl64, hsafe, -⟩ := allB_safe c1
        have hsb := safeNz z c2
        have hM := (scaleB_ex hsafe hsb hl64).2
        have HPr := Lib.hid (fun (k : Nat) (h : k < le.length) (W : World) => prodAny le[k] b (hle _ (List.getElem_mem h)) hb (hsafe _ (List.getElem_mem h)) hsb W)
        have HTM := Lib.hid hM
        obtain ⟨p, ce, rfl⟩ := hse.form
        have hll : (fvs le).length = le.length := by simp [fvs]
        rw [hll] at HA HSE ⊢
        clear hse hle eo el c1 c2 z ht hsafe hsb hM hll
        go_enter Tryd.func53, Tryd.ntmps53
        go_wp2_with (first
          | (go_at_call 52; refine HA.out.mono ?_; rintro _ w1 ⟨rfl, b1⟩)
          | (go_at_call 68; ((with_reducible refine (HB.out _).mono ?_); rintro _ w2 ⟨rfl, rfl⟩)))
        go_loopw [6, 8, 9, 10, 29, 33] (fun ov _ _ _ iv _ wr => ∃ (k : Nat) (os : List Nat), iv = .int .i64 k ∧ k ≤ le.length ∧ Hid (growsB [] (prodsB le b) = growsB os (prodsB (le.drop k) b)) ∧ Hid (∀ x ∈ os, Fl x) ∧ os.length ≤ 2 * k ∧
            wr.ownsRow w.heap.size 22 1 ov os.length (fvs os) ∧ Below w.heap.size w wr) (fun _ _ _ _ iv _ _ => le.length - (intOf iv).toNat)
        case atStart => exact ⟨0, [], rfl, Nat.zero_le _, by show _ = _; rfl, fun x hx => (by cases hx), Nat.le_refl _, ⟨rfl, Or.inl ⟨rfl, rfl⟩⟩, b1⟩
        case round =>
          obtain ⟨k, os, rfl, hk, HG, HF, hos, hown, hB⟩ := hrel
          obtain ⟨wz, rfl⟩ : ∃ z : World, z = wr := ⟨_, rfl⟩
          obtain ⟨pr, cr, rfl⟩ := own_form hown
          by_cases hlt : k < le.length
          · obtain ⟨bb, oo, rfl, hcell⟩ := sl_atf (HSE.out.keep hB) hlt
            have HPk := Lib.hid (HPr.out k hlt)
            have hst := prods_step (b := b) hlt
            obtain ⟨x, hx⟩ : ∃ x, x = le[k] := ⟨_, rfl⟩
            rw [← hx] at hcell HPk hst
            obtain ⟨hi, hhi⟩ : ∃ y, y = pHi x b := ⟨_, rfl⟩
            obtain ⟨lo, hlo⟩ : ∃ y, y = pLo x b := ⟨_, rfl⟩
            have hfp := p_fl x b
            rw [← hhi, ← hlo] at HPk hst hfp
            have hG2 : growsB [] (prodsB le b) = growsB (growB (growB os lo) hi) (prodsB (le.drop (k + 1)) b) := by rw [HG.out, hst]; rfl
            have HG2 := Lib.hid hG2
            have f1 := growB_fl os lo hfp.2
            have HF2 := Lib.hid (growB_fl (growB os lo) hi hfp.1)
            have l1 := growB_len os lo
            have l2 := growB_len (growB os lo) hi
            have HG1 := Lib.hid (fun (W : World) (u : Value) (h : Sl W u (fvs os)) => grow_calls h HF.out (by omega) lo hfp.2)
            have HG3 := Lib.hid (fun (W : World) (u : Value) (h : Sl W u (fvs (growB os lo))) => grow_calls h f1 (by omega) hi hfp.1)
            have HOw := Lib.hid hown
            have HBz := Lib.hid hB
            clear hx hhi hlo hst hG2 f1 hown hB hfp
            go_wp2_with fail
            refine (HPk.out _).mono ?_
            rintro _ w3 ⟨rfl, b3⟩
            have h4 := Lib.hid (HG1.out w3 _ (own_sl (own_keep HOw.out b3)))
            go_wp2_with fail
            refine h4.out.mono ?_
            rintro _ w5 ⟨v5, rfl, hown5, b5⟩
            have h6 := Lib.hid (HG3.out w5 _ (own_sl hown5))
            obtain ⟨p5, c5, rfl⟩ := own_form hown5
            clear hown5
            go_wp2_with fail
            refine h6.out.mono ?_
            rintro _ w7 ⟨v7, rfl, hown7, b7⟩
            obtain ⟨p7, c7, rfl⟩ := own_form hown7
            have hb1 := HBz.out.size
            have hb3 := b3.size
            have hb5 := b5.size
            have HO7 := Lib.hid (own_less hown7 (show w.heap.size ≤ w5.heap.size by omega))
            clear hown7
            go_wp2_with fail
            go_roundw
            case rel => exact ⟨k + 1, growB (growB os lo) hi, by go_num, by omega, HG2.out, HF2.out, by omega, HO7.out, bl_pack (bl_pack (bl_pack HBz.out hb1 b3) (by omega) b5) (by omega) b7⟩
            case measure => simp [intOf]; omega
          · obtain rfl : k = le.length := by omega
            have hG := HG.out
            rw [List.drop_length] at hG
            have hF := HF.out
            have HNe := Lib.hid (neat_calls (own_sl hown) hF (by omega))
            have hfl := neatB_fl os hF
            have hln := neatB_len os
            have hM := HTM.out
            rw [hG] at hM
            have hp : scaleB le b = apartB (neatB os) := by unfold scaleB apneB; rw [hG]; rfl
            have hM' : ((neatB os).map fv).sum.natAbs ≤ tameM := hM
            have HAp := Lib.hid (fun (W : World) (u : Value) (h : W.ownsRow wz.heap.size 22 1 u (neatB os).length (fvs (neatB os))) (hb : wz.heap.size ≤ W.heap.size) (hk : TabOk W) => apart_calls hk h hb hfl (by omega) hM')
            have HP := Lib.hid hp
            have HTz := Lib.hid (HT.out.keep hB)
            have HBz := Lib.hid hB
            clear hG hM hM' hp hF hfl hown hB
            go_wp2_with (first
              | (go_at_call 72; refine HNe.out.mono ?_; rintro _ w6 ⟨v6, rfl, hown6, b6⟩; have HA6 := Lib.hid (HAp.out w6 _ hown6 b6.size (HTz.out.keep b6)); obtain ⟨p6, c6, rfl⟩ := own_form hown6)
              | (go_at_call 71; refine HA6.out.mono ?_; rintro _ w7 ⟨v7, rfl, hown7, b7⟩; obtain ⟨p7, c7, rfl⟩ := own_form hown7))
            go_ret2
            refine ⟨_, rfl, ?_, bl_pack (bl_pack HBz.out HBz.out.size b6) (Nat.le_trans HBz.out.size b6.size) b7⟩
            rw [HP.out]
            exact own_less hown7 HBz.out.size
      · have c2' : inB 2580562586483294208 6633802251116740608 b = false := by simpa using c2
        rw [c2'] at HB
        have eo : scaleOk le b = false := by unfold scaleOk; rw [c2', decide_eq_false z]; simp
        have el : scaleL le b = [] := by unfold scaleL; rw [eo]; simp
        rw [eo, el]
        obtain ⟨p, ce, rfl⟩ := hse.form
        clear hse hle eo el c1 c2 c2' z ht
        go_enter Tryd.func53, Tryd.ntmps53
        go_wp2_with (first
          | (go_at_call 52; refine HA.out.mono ?_; rintro _ w1 ⟨rfl, b1⟩)
          | (go_at_call 68; ((with_reducible refine (HB.out _).mono ?_); rintro _ w2 ⟨rfl, rfl⟩)))
        go_ret2
        exact TwoP.nil b1
  · have c1' : allB 2580562586483294208 6633802251116740608 le = false := by simpa using c1
    rw [c1'] at HA
    have eo : scaleOk le b = false := by unfold scaleOk; rw [c1']; rfl
    have el : scaleL le b = [] := by unfold scaleL; rw [eo]; simp
    rw [eo, el]
    obtain ⟨p, ce, rfl⟩ := hse.form
    clear hse hle eo el c1 c1' ht
    go_enter Tryd.func53, Tryd.ntmps53
    go_wp2_with (go_at_call 52; refine HA.out.mono ?_; rintro _ w1 ⟨rfl, b1⟩)
    go_ret2
    exact TwoP.nil b1
end Go.Proofs.YtiihokgjplpceaaDoor
end

section
/- Package expand, walked: Mul, Sum, Cmp. -/
namespace Go.Proofs.YtiihokgjplpceaaDoor
open Go.RowKit TV
set_option linter.unusedVariables false

def xmOk (e f : List Nat) : Bool := allB 2580562586483294208 6633802251116740608 e && allB 2580562586483294208 6633802251116740608 f
def xmL (e f : List Nat) : List Nat := if xmOk e f = true then mulX e f else []
theorem scale_safe {e : List Nat} {b : Nat} (he : allB 2580562586483294208 6633802251116740608 e = true) (hb : safeB b = true) (hz : rung b ≠ 0) : scaleOk e b = true ∧ scaleL e b = scaleB e b := by
  have h1 : inB 2580562586483294208 6633802251116740608 b = true := by
    have := of_decide_eq_true hb
    exact decide_eq_true (by omega)
  have eo : scaleOk e b = true := by unfold scaleOk; rw [he, h1]; simp
  exact ⟨eo, by unfold scaleL; rw [if_pos ⟨eo, hz⟩]⟩
theorem mulFrom_step {e f : List Nat} {k : Nat} (h : k < f.length) (out : List Nat) : mulFrom e out (f.drop k) = mulFrom e (plusB out (scaleB e f[k])) (f.drop (k + 1)) := by
  rw [List.drop_eq_getElem_cons h]; rfl
/-- What holds of the sum on the way. -/
def MulAt (e f : List Nat) (k : Nat) (os : List Nat) : Prop := mulFrom e [] f = mulFrom e os (f.drop k) ∧ ∃ n, Ex (k * (164001 * T0)) n os
theorem MulAt.start (e f : List Nat) : MulAt e f 0 [] := ⟨rfl, 0, by simpa using Ex.nil 0⟩
theorem MulAt.step {e f : List Nat} {k : Nat} {os : List Nat} (h : MulAt e f k os) (he : ∀ x ∈ e, safeB x = true) (hle : e.length ≤ 64) (hk : k < f.length) (hlf : f.length ≤ 64) (hb : safeB f[k] = true) :
    MulAt e f (k + 1) (plusB os (scaleB e f[k])) ∧ ((neatB (growsB [] (mergeB os (scaleB e f[k])))).map fv).sum.natAbs ≤ tameM ∧ (∀ x ∈ os, Fl x) ∧ os.length ≤ 64 ∧ (∀ x ∈ scaleB e f[k], Fl x) ∧ (scaleB e f[k]).length ≤ 64 := by
  obtain ⟨h1, n, h2⟩ := h
  have h3 := (scaleB_ex he hb hle).1
  have hk2 : k * (164001 * T0) ≤ 64 * (164001 * T0) := Nat.mul_le_mul_right _ (by omega)
  have h4 := plusB_ex h2 h3 (by omega)
  refine ⟨⟨by rw [h1, mulFrom_step hk], _, h4.mono ?_⟩, plus_tame h2 h3 (by omega), h2.fl, h2.len, h3.fl, h3.len⟩
  rw [Nat.add_mul, Nat.one_mul]; omega
set_option maxRecDepth 100000 in
set_option maxHeartbeats 1000000 in
theorem mul_calls2 {w : World} (ht : TabOk w) {ve vf : Value} {le lf : List Nat} (hse : Sl w ve (fvs le)) (hsf : Sl w vf (fvs lf)) (hle : ∀ x ∈ le, x < 18446744073709551616) (hlf : ∀ x ∈ lf, x < 18446744073709551616) (hn1 : le.length ≤ 1000) (hn2 : lf.length ≤ 1000) :
    Calls Tryd.prog 39 #[ve, vf] w (TwoP (xmL le lf) (xmOk le lf) w) := by
  have HA := Lib.hid (safe_calls2 hse hle (by omega))
  have HB := Lib.hid (fun (W : World) (h : Sl W vf (fvs lf)) => safe_calls2 h hlf (by omega))
  have HSE := Lib.hid hse
  have HSF := Lib.hid hsf
  have HT := Lib.hid ht
  by_cases c1 : allB 2580562586483294208 6633802251116740608 le = true
  · rw [c1] at HA
    by_cases c2 : allB 2580562586483294208 6633802251116740608 lf = true
    · rw [c2] at HB
      have eo : xmOk le lf = true := by unfold xmOk; rw [c1, c2]; rfl
      have el : xmL le lf = mulX le lf := by unfold xmL; rw [if_pos eo]
      rw [eo, el]
      obtain ⟨hl64, hsafe, -⟩ := allB_safe c1
      obtain ⟨hl64f, hsafef, hokf⟩ := allB_safe c2
      have hnz : ∀ x ∈ lf, rung x ≠ 0 := fun x hx c => (okI_mem hokf (fv x) (List.mem_map_of_mem hx)).1 ((fv_zero_iff x).2 c)
      have HSc := Lib.hid (fun (k : Nat) (h : k < lf.length) (W : World) (hT : TabOk W) (hS : Sl W ve (fvs le)) => (by
        have h1 := scale_calls hT hS hle hn1 lf[k] (hlf _ (List.getElem_mem h))
        obtain ⟨h2, h3⟩ := scale_safe c1 (hsafef _ (List.getElem_mem h)) (hnz _ (List.getElem_mem h))
        rw [h2, h3] at h1
        exact h1 : Calls Tryd.prog 53 #[ve, .float .f64 lf[k]] W (TwoP (scaleB le lf[k]) true W)))
      have HSt := Lib.hid (fun (k : Nat) (os : List Nat) (h : MulAt le lf k os) (hk : k < lf.length) => h.step hsafe hl64 hk hl64f (hsafef _ (List.getElem_mem hk)))
      obtain ⟨p, ce, rfl⟩ := hse.form
      obtain ⟨q, cf, rfl⟩ := hsf.form
      have hll : (fvs lf).length = lf.length := by simp [fvs]
      rw [hll] at HB HSF ⊢
      clear hse hsf hle hlf eo el c1 c2 ht hsafe hsafef hokf hnz hll
      go_enter Tryd.func39, Tryd.ntmps39
      go_wp2_with fail
      refine HA.out.mono ?_
      rintro _ w1 ⟨rfl, b1⟩
      have h2 := Lib.hid (HB.out w1 (HSF.out.keep b1))
      go_wp2_with fail
      refine h2.out.mono ?_
      rintro _ w2 ⟨rfl, b2⟩
      have b12 := below2 b1 b2
      go_wp2_with fail
      go_loopw [6, 8, 9, 10, 21, 25] (fun ov _ _ _ iv _ wr => ∃ (k : Nat) (os : List Nat), iv = .int .i64 k ∧ k ≤ lf.length ∧ Hid (MulAt le lf k os) ∧
          wr.ownsRow w.heap.size 22 1 ov os.length (fvs os) ∧ Below w.heap.size w wr) (fun _ _ _ _ iv _ _ => lf.length - (intOf iv).toNat)
      case atStart => exact ⟨0, [], rfl, Nat.zero_le _, MulAt.start _ _, ⟨rfl, Or.inl ⟨rfl, rfl⟩⟩, b12⟩
      case round =>
        obtain ⟨k, os, rfl, hk, HM, hown, hB⟩ := hrel
        obtain ⟨wz, rfl⟩ : ∃ z : World, z = wr := ⟨_, rfl⟩
        obtain ⟨pr, cr, rfl⟩ := own_form hown
        by_cases hlt : k < lf.length
        · obtain ⟨bb, oo, rfl, hcell⟩ := sl_atf (HSF.out.keep hB) hlt
          obtain ⟨hstep, hM, hfo, hlo, hfs, hls⟩ := HSt.out k os HM.out hlt
          have HSk := Lib.hid (HSc.out k hlt wz (HT.out.keep hB) (HSE.out.keep hB))
          obtain ⟨x, hx⟩ : ∃ x, x = lf[k] := ⟨_, rfl⟩
          rw [← hx] at hcell HSk hstep hM hfs hls
          have HP := Lib.hid (fun (W : World) (u t : Value) (hT : TabOk W) (h1 : Sl W u (fvs os)) (h2 : Sl W t (fvs (scaleB le x))) => plus_calls hT h1 h2 hfo hfs (by omega) (by omega) hM)
          have HStp := Lib.hid hstep
          have HOw := Lib.hid hown
          have HBz := Lib.hid hB
          clear hx hstep hM hfo hfs hown hB
          go_wp2_with fail
          refine HSk.out.mono ?_
          rintro _ w3 ⟨v3, rfl, hown3, b3⟩
          have bz3 := bl_pack HBz.out HBz.out.size b3
          have h4 := Lib.hid (HP.out w3 _ _ (HT.out.keep bz3) (own_sl (own_keep HOw.out b3)) (own_sl hown3))
          obtain ⟨p3, c3, rfl⟩ := own_form hown3
          clear hown3
          go_wp2_with fail
          refine h4.out.mono ?_
          rintro _ w5 ⟨v5, rfl, hown5, b5⟩
          obtain ⟨p5, c5, rfl⟩ := own_form hown5
          have HO5 := Lib.hid (own_less hown5 bz3.size)
          clear hown5
          go_wp2_with fail
          go_roundw
          case rel => exact ⟨k + 1, plusB os (scaleB le x), by go_num, by omega, HStp.out, HO5.out, bl_pack bz3 bz3.size b5⟩
          case measure => simp [intOf]; omega
        · obtain rfl : k = lf.length := by omega
          have he : mulX le lf = os := by
            have := HM.out.1
            rw [List.drop_length] at this
            exact this
          have HE := Lib.hid he
          clear he
          go_wp2_with fail
          go_ret2
          refine ⟨_, rfl, ?_, hB⟩
          rw [HE.out]; exact hown
    · have c2' : allB 2580562586483294208 6633802251116740608 lf = false := by simpa using c2
      have eo : xmOk le lf = false := by unfold xmOk; rw [c2']; simp
      have el : xmL le lf = [] := by unfold xmL; rw [eo]; rfl
      rw [eo, el]
      rw [c2'] at HB
      obtain ⟨p, ce, rfl⟩ := hse.form
      obtain ⟨q, cf, rfl⟩ := hsf.form
      clear hse hsf hle hlf eo el c1 c2 c2' ht
      go_enter Tryd.func39, Tryd.ntmps39
      go_wp2_with fail
      refine HA.out.mono ?_
      rintro _ w1 ⟨rfl, b1⟩
      have h2 := Lib.hid (HB.out w1 (HSF.out.keep b1))
      go_wp2_with fail
      refine h2.out.mono ?_
      rintro _ w2 ⟨rfl, b2⟩
      go_wp2_with fail
      go_ret2
      exact TwoP.nil (below2 b1 b2)
  · have c1' : allB 2580562586483294208 6633802251116740608 le = false := by simpa using c1
    have eo : xmOk le lf = false := by unfold xmOk; rw [c1']; simp
    have el : xmL le lf = [] := by unfold xmL; rw [eo]; rfl
    rw [eo, el]
    rw [c1'] at HA
    obtain ⟨p, ce, rfl⟩ := hse.form
    obtain ⟨q, cf, rfl⟩ := hsf.form
    clear hse hsf hle hlf eo el c1 c1' ht HB
    go_enter Tryd.func39, Tryd.ntmps39
    go_wp2_with fail
    refine HA.out.mono ?_
    rintro _ w1 ⟨rfl, b1⟩
    go_wp2_with fail
    go_ret2
    exact TwoP.nil b1

/-! ### Sum -/
/-- Lists that lie in memory one behind the other. -/
def Lsl (w : World) (vs : List Value) (ls : List (List Nat)) : Prop := vs.length = ls.length ∧ ∀ (i : Nat) (v : Value) (l : List Nat), vs[i]? = some v → ls[i]? = some l → Sl w v (fvs l)
theorem Lsl.keep {w w1 : World} {vs : List Value} {ls : List (List Nat)} (h : Lsl w vs ls) (hb : Below w.heap.size w w1) : Lsl w1 vs ls := ⟨h.1, fun i v l h1 h2 => (h.2 i v l h1 h2).keep hb⟩
def sumOk (ls : List (List Nat)) : Bool := decide (ls.length ≤ 64) && ls.all (allB 1 8660422083433463808)
def sumL (ls : List (List Nat)) : List Nat := if sumOk ls = true then sumFrom [] ls else []
theorem sl_atl {w : World} {p : Option Addr} {n c : Nat} {vs : List Value} (h : Sl w (.slice p n c) vs) (hn : vs.length = n) {k : Nat} (hk : k < n) : ∃ b o, p = some ⟨b, o, none⟩ ∧ ∃ hk' : k < vs.length, w.cell? ⟨b, o + k, none⟩ = some vs[k] := by
  rcases h with ⟨h1, h2⟩ | ⟨b, o, cap, h1, h2, h3, h4⟩
  · subst h2; simp at hn; omega
  · simp only [Value.slice.injEq] at h1
    have hk' : k < vs.length := by omega
    exact ⟨b, o, h1.1, hk', (h4 k hk').trans (by simp)⟩
def SumAt (ls : List (List Nat)) (k : Nat) (os : List Nat) : Prop := sumFrom [] ls = sumFrom os (ls.drop k) ∧ ∃ n, Ex (k * (82001 * T0)) n os
theorem SumAt.start (ls : List (List Nat)) : SumAt ls 0 [] := ⟨rfl, 0, by simpa using Ex.nil 0⟩
theorem SumAt.step {ls : List (List Nat)} {k : Nat} {os : List Nat} (h : SumAt ls k os) (hk : k < ls.length) (hl : ls.length ≤ 64) (he : ∃ n, Ex T0 n ls[k]) :
    SumAt ls (k + 1) (plusB os ls[k]) ∧ ((neatB (growsB [] (mergeB os ls[k]))).map fv).sum.natAbs ≤ tameM ∧ (∀ x ∈ os, Fl x) ∧ os.length ≤ 64 ∧ (∀ x ∈ ls[k], Fl x) ∧ ls[k].length ≤ 64 := by
  obtain ⟨h1, n, h2⟩ := h
  obtain ⟨m, h3⟩ := he
  have hk2 : k * (82001 * T0) ≤ 64 * (82001 * T0) := Nat.mul_le_mul_right _ (by omega)
  have h4 := plusB_ex h2 h3 (by omega)
  refine ⟨⟨?_, _, h4.mono ?_⟩, plus_tame h2 h3 (by omega), h2.fl, h2.len, h3.fl, h3.len⟩
  · rw [h1, List.drop_eq_getElem_cons hk]; rfl
  · rw [Nat.add_mul, Nat.one_mul]; omega
theorem allAdd_ex {l : List Nat} (hl : ∀ x ∈ l, x < 18446744073709551616) (h : allB 1 8660422083433463808 l = true) : ∃ n, Ex T0 n l := ⟨_, (allB_ex (by decide) l hl h).mono add_T0⟩
end Go.Proofs.YtiihokgjplpceaaDoor
end
