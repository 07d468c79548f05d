/- Package expand, walked: plus. -/
import Derived.Test.YtjogclokjonkeaaDoorEwJ
import Derived.Test.YtjogclokjonkeaaDoorEwL
namespace Go.Proofs.YtjogclokjonkeaaDoor
open Go.RowKit TV
set_option linter.unusedVariables false

theorem box_four (w : World) (o0 o1 o2 o3 : Obj) : ∃ wn, wn = (((w.alloc o0).alloc o1).alloc o2).alloc o3 ∧ Below w.heap.size w wn ∧ wn.heap.size = w.heap.size + 4 ∧ wn.heap[w.heap.size]? = some o0 ∧ wn.heap[w.heap.size + 1]? = some o1 ∧ wn.heap[w.heap.size + 2]? = some o2 ∧ wn.heap[w.heap.size + 3]? = some o3 := by
  have k1 := heap_alloc_new (w.alloc o0) o1
  have k2 := heap_alloc_new ((w.alloc o0).alloc o1) o2
  have k3 := heap_alloc_new (((w.alloc o0).alloc o1).alloc o2) o3
  simp only [World.size_alloc] at k1 k2 k3
  refine ⟨_, rfl, ((((Below.refl _ _).alloc (Nat.le_refl _) _).alloc (by simp) _).alloc (by simp <;> omega) _).alloc (by simp <;> omega) _, by simp, ?_, ?_, ?_, k3⟩
  · exact (Below.heap_alloc _ _ _ (by simp <;> omega)).trans ((Below.heap_alloc _ _ _ (by simp <;> omega)).trans ((Below.heap_alloc _ _ _ (by simp)).trans (heap_alloc_new _ _)))
  · exact (Below.heap_alloc _ _ _ (by simp <;> omega)).trans ((Below.heap_alloc _ _ _ (by simp)).trans k1)
  · exact (Below.heap_alloc _ _ _ (by simp)).trans k2
theorem own_same {w w1 : World} {base : Nat} {e : TypeId} {size n : Nat} {v : Value} {xs : List Value} (h : w.ownsRow base e size v n xs) (hb : ∀ b, base ≤ b → w1.heap[b]? = w.heap[b]?) : w1.ownsRow base e size v n xs := by
  obtain ⟨h1, h2⟩ := h
  refine ⟨h1, ?_⟩
  rcases h2 with h2 | ⟨g, cap, cur, hv, hg, hh, r⟩
  · exact Or.inl h2
  · exact Or.inr ⟨g, cap, cur, hv, hg, (hb g hg).trans hh, r⟩
set_option maxRecDepth 100000 in
set_option maxHeartbeats 2000000 in
theorem plus_calls {w : World} (ht : TabOk w) {ve vf : Value} {le lf : List Nat} (hse : Sl w ve (fvs le)) (hsf : Sl w vf (fvs lf)) (hle : ∀ x ∈ le, Fl x) (hlf : ∀ x ∈ lf, Fl x) (hn1 : le.length ≤ 1000) (hn2 : lf.length ≤ 1000)
    (hM : ((neatB (growsB [] (mergeB le lf))).map fv).sum.natAbs ≤ tameM) :
    Calls Tryd.prog 43 #[ve, vf] w fun x w' => ∃ u, x = .returned u ∧ w'.ownsRow w.heap.size 34 1 u (plusB le lf).length (fvs (plusB le lf)) ∧ Below w.heap.size w w' := by
  have hIe := hse.lt
  have hIf := hsf.lt
  obtain ⟨p, ce, rfl⟩ := hse.form
  obtain ⟨q, cf, rfl⟩ := hsf.form
  have hll : (fvs le).length = le.length := by simp [fvs]
  have hll2 : (fvs lf).length = lf.length := by simp [fvs]
  rw [hll] at hse hIe ⊢
  rw [hll2] at hsf hIf ⊢
  have HLE := Lib.hid hle
  have HLF := Lib.hid hlf
  have HSE := Lib.hid hse
  have HSF := Lib.hid hsf
  have HTM := Lib.hid hM
  have HT := Lib.hid ht
  clear hse hsf hle hlf hll hll2 hM
  go_enter Tryd.func43, Tryd.ntmps43
  go_wp2_with fail
  obtain ⟨W4, h4, B4, S4, J0, J1, J2, J3⟩ := box_four w (.cells #[.slice p le.length ce] 22) (.cells #[.slice q lf.length cf] 22) (.cells #[.int .i64 0] 3) (.cells #[.int .i64 0] 3)
  rw [← h4]
  clear h4
  obtain ⟨b0, hb0⟩ : ∃ b, b = w.heap.size := ⟨_, rfl⟩
  have hbw := Lib.hid hb0
  rw [← hb0] at J0 J1 J2 J3 S4 hIe hIf B4
  rw [← hb0]
  clear hb0
  have HIE := Lib.hid hIe
  have HIF := Lib.hid hIf
  clear hIe hIf
  go_loopw [8, 15] (fun ov iv wr => ∃ (i k : Nat) (os : List Nat), iv = .int .i64 ((i + k : Nat) : Int) ∧ i ≤ le.length ∧ k ≤ lf.length ∧ Hid (growsB [] (mergeB le lf) = growsB os (mergeB (le.drop i) (lf.drop k))) ∧ Hid (∀ x ∈ os, Fl x) ∧ os.length ≤ i + k ∧
      wr.ownsRow (b0 + 4) 34 1 ov os.length (fvs os) ∧ wr.heap[b0]? = some (.cells #[.slice p le.length ce] 22 (0, 0)) ∧ wr.heap[b0 + 1]? = some (.cells #[.slice q lf.length cf] 22 (0, 0)) ∧
      wr.heap[b0 + 2]? = some (.cells #[.int .i64 i] 3 (0, 0)) ∧ wr.heap[b0 + 3]? = some (.cells #[.int .i64 k] 3 (0, 0)) ∧ Below b0 w wr)
    (fun _ iv _ => le.length + lf.length - (intOf iv).toNat)
  case atStart => exact ⟨0, 0, [], rfl, Nat.zero_le _, Nat.zero_le _, by show _ = _; rfl, fun x hx => (by cases hx), Nat.le_refl _, ⟨rfl, Or.inl ⟨rfl, rfl⟩⟩, J0, J1, J2, J3, B4⟩
  case round =>
    clear J0 J1 J2 J3 S4 B4
    obtain ⟨i, k, os, rfl, hi, hk, HG, HF, hos, hown, J0, J1, J2, J3, hB⟩ := hrel
    obtain ⟨wz, rfl⟩ : ∃ z : World, z = wr := ⟨_, rfl⟩
    obtain ⟨pr, cr, rfl⟩ := own_form hown
    by_cases hlt : i + k < le.length + lf.length
    · have hlt' : decide (((i + k : Nat) : Int) < (le.length : Int) + lf.length) = true := decide_eq_true (by omega)
      have hbz : Below w.heap.size w wz := by rw [hbw.out] at hB; exact hB
      have HN := Lib.hid (enext_calls (base := b0) J0 J1 J2 J3 (HSE.out.keep hbz) (HSF.out.keep hbz) HLE.out HLF.out HIE.out HIF.out (by omega) (by omega) (by omega) (by omega) (by omega) (by omega) (by omega) hi hk hlt (by omega) (by omega))
      have HOw := Lib.hid hown
      have hbs := block_lt J3
      clear hown hbz
      go_wp2_with fail
      refine HN.out.mono ?_
      rintro _ w5 ⟨y, i', k', rfl, hi2, hk2, hik, HM, K2, K3, hfar, hs5, b5⟩
      have hown5 := own_same HOw.out (fun b h => hfar b (by omega) (by omega))
      have J0' := (hfar b0 (by omega) (by omega)).trans J0
      have J1' := (hfar (b0 + 1) (by omega) (by omega)).trans J1
      have hB5 : Below b0 w w5 := hB.trans b5
      have hfy : Fl y := by
        have h1 := mergeB_mem (P := Fl) (le.drop i) (lf.drop k) (fun x hx => HLE.out x (List.mem_of_mem_drop hx)) (fun x hx => HLF.out x (List.mem_of_mem_drop hx))
        rw [HM.out] at h1
        exact h1 y (by simp)
      have HGr := Lib.hid (grow_calls (own_sl hown5) HF.out (by omega) y hfy)
      have hG2 : growsB [] (mergeB le lf) = growsB (growB os y) (mergeB (le.drop i') (lf.drop k')) := by rw [HG.out, HM.out]; rfl
      have HG2 := Lib.hid hG2
      have HF2 := Lib.hid (growB_fl os y hfy)
      have hgl := growB_len os y
      clear hfar hown5 hfy J0 J1 J2 J3 hG2 hB b5
      go_wp2_with (go_at_call 56; refine HGr.out.mono ?_; rintro _ w6 ⟨v6, rfl, hown6, b6⟩; obtain ⟨p6, c6, rfl⟩ := own_form hown6)
      go_roundw
      case rel => exact ⟨i', k', growB os y, by congr 1; omega, hi2, hk2, HG2.out, HF2.out, by omega, own_less hown6 (by omega), keep_block b6 J0', keep_block b6 J1', keep_block b6 K2, keep_block b6 K3, hB5.trans (b6.mono (by have := hB5.size; omega))⟩
      case measure => simp [intOf]; omega
    · have hlt' : decide (((i + k : Nat) : Int) < (le.length : Int) + lf.length) = false := decide_eq_false (by omega)
      obtain rfl : i = le.length := by omega
      obtain rfl : k = lf.length := by omega
      have hG := HG.out
      rw [List.drop_length, List.drop_length, mergeB_nil] at hG
      have hbz : Below w.heap.size w wz := by rw [hbw.out] at hB; exact hB
      have hF := HF.out
      have HNe := Lib.hid (neat_calls (own_sl hown) hF (by omega))
      have hfl := neatB_fl os hF
      have hln := neatB_len os
      have hM := HTM.out
      rw [hG] at hM
      have hp : plusB le lf = apartB (neatB os) := by unfold plusB apneB; rw [hG]; rfl
      have hM' : ((neatB os).map fv).sum.natAbs ≤ tameM := hM
      have HAp := Lib.hid (fun (W : World) (u : Value) (h : W.ownsRow wz.heap.size 34 1 u (neatB os).length (fvs (neatB os))) (hb : wz.heap.size ≤ W.heap.size) (hk : TabOk W) => apart_calls hk h hb hfl (by omega) hM')
      have HP := Lib.hid hp
      have HTz := Lib.hid (HT.out.keep hbz)
      have HBz := Lib.hid hbz
      rw [show le.length + lf.length = le.length + lf.length from rfl]
      clear hG hM hM' hp hF hfl hown hbz hB
      go_wp2_with (first
        | (go_at_call 58; refine HNe.out.mono ?_; rintro _ w6 ⟨v6, rfl, hown6, b6⟩; have HA6 := Lib.hid (HAp.out w6 _ hown6 b6.size (HTz.out.keep b6)); obtain ⟨p6, c6, rfl⟩ := own_form hown6)
        | (go_at_call 57; refine HA6.out.mono ?_; rintro _ w7 ⟨v7, rfl, hown7, b7⟩; obtain ⟨p7, c7, rfl⟩ := own_form hown7))
      go_ret
      refine ⟨_, rfl, ?_, bl_pack (bl_pack HBz.out HBz.out.size b6) (Nat.le_trans HBz.out.size b6.size) b7⟩
      rw [HP.out]
      exact own_less hown7 HBz.out.size
end Go.Proofs.YtjogclokjonkeaaDoor
