/- Package expand, walked: grow. -/
import Derived.Test.YtjogclokjonkeaaDoorEpA
import Derived.Test.YtjogclokjonkeaaDoorEfC
import Derived.Test.YtjogclokjonkeaaDoorMemA
import Derived.Deep.RegionHeld3
import Derived.Deep.DeepCutAuto
import Derived.BigRegion
import Derived.Deep.QuietTactic
import Derived.BigQuiet
import Derived.Deep.AppendLies
import Derived.Laws.MakeOwn
import Derived.IntWalk
import Derived.WalkMore
namespace Go.Proofs.YtjogclokjonkeaaDoor
open Go.RowKit TV
set_option linter.unusedVariables false

theorem info_f64 : (Tryd.prog.info? 34).map (fun i => (i.zero, i.size, i.bytes)) = some (some (.float .f64 0), 1, 8) := by kernel_rfl
theorem sumAny (a b : Nat) (ha : a < 18446744073709551616) (hb : b < 18446744073709551616) (w : World) :
    Calls Tryd.prog 77 #[.float .f64 a, .float .f64 b] w fun e w' => e = .returned (.tuple #[.float .f64 (sHi a b), .float .f64 (sLo a b)]) ∧ Below w.heap.size w w' := by
  by_cases h : (tameB a && tameB b) = true
  · have h' := h
    rw [Bool.and_eq_true] at h'
    refine (sum_below a b ha hb h'.1 h'.2 w).mono ?_
    rintro e w' ⟨rfl, hb⟩
    refine ⟨?_, hb⟩
    unfold sHi sLo; rw [if_pos h, if_pos h]
  · refine (sum_no a b ha hb (by simpa using h) w).mono ?_
    rintro e w' ⟨rfl, h2⟩
    refine ⟨?_, h2 ▸ (Below.refl _ _).alloc (Nat.le_refl _) _⟩
    unfold sHi sLo; rw [if_neg h, if_neg h]

/-- A slice of floats. -/
def fvs (l : List Nat) : List Value := l.map (Value.float .f64)
theorem sl_atf {w : World} {p : Option Addr} {c : Nat} {l : List Nat} (h : Sl w (.slice p l.length c) (fvs l)) {k : Nat} (hk : k < l.length) :
    ∃ b o, p = some ⟨b, o, none⟩ ∧ w.cell? ⟨b, o + k, none⟩ = some (.float .f64 l[k]) := by
  rcases h with ⟨h1, h2⟩ | ⟨b, o, cap, h1, h2, h3, h4⟩
  · simp only [fvs, List.map_eq_nil_iff] at h2
    rw [h2] at hk; simp at hk
  · simp only [Value.slice.injEq] at h1
    exact ⟨b, o, h1.1, (h4 k (by simpa [fvs] using hk)).trans (by simp [fvs])⟩
theorem bl_pk {B : Nat} {w w1 w2 : World} (h : Below B w w1) (hs : B ≤ w1.heap.size) (h2 : Below w1.heap.size w1 w2) : Below B w w2 := h.trans (h2.mono hs)
set_option maxRecDepth 100000 in
set_option maxHeartbeats 1000000 in
theorem grow_calls {w : World} {v : Value} {l : List Nat} (hs : Sl w v (fvs l)) (hl : ∀ x ∈ l, Fl x) (hn : l.length ≤ 1000000) (b : Nat) (hb : Fl b) :
    Calls Tryd.prog 56 #[v, .float .f64 b] w fun x w' => ∃ u, x = .returned u ∧ w'.ownsRow w.heap.size 34 1 u (growB l b).length (fvs (growB l b)) ∧ Below w.heap.size w w' := by
  obtain ⟨p, cap, rfl⟩ := hs.form
  have hll : (fvs l).length = l.length := by simp [fvs]
  rw [hll] at hs ⊢
  obtain ⟨i0, hi, hz0, hz1, hz2⟩ := info_parts info_f64
  have hmk : ∀ W, (Instr.makeSlice 22 (.int .i64 0) (.int .i64 (l.length + 1))).run Tryd.prog W = .ok (.slice (some ⟨W.heap.size, 0, none⟩) 0 (l.length + 1)) (W.alloc (.cells (madeCells #[.float .f64 0] (l.length + 1)) 34)) := fun W => by
    have := run_make (P := Tryd.prog) W 22 34 i0 (.float .f64 0) Tryd.underlying22 hi hz0 .i64 .i64 0 ((l.length : Int) + 1) (by omega) (by omega) (by rw [hz2]; omega) (by omega)
    rw [this, hz1, show ((l.length : Int) + 1).toNat = l.length + 1 by omega, Nat.mul_one]; rfl
  have hbl := hb.1
  have HL := Lib.hid hl
  clear hl hb
  go_enter Tryd.func56, Tryd.ntmps56
  go_wp2_with fail
  clear hmk
  go_loopw [5, 6, 8, 9, 17] (fun ov qv _ _ iv wr => ∃ (k : Nat) (os : List Nat) (q : Nat), k ≤ l.length ∧ iv = .int .i64 k ∧ qv = .float .f64 q ∧ q < 18446744073709551616 ∧ os.length ≤ k ∧ Hid (growB l b = os ++ growB (l.drop k) q) ∧
      wr.ownsRow w.heap.size 34 1 ov os.length (fvs os) ∧ Below w.heap.size w wr) (fun _ _ _ _ iv _ => l.length - (intOf iv).toNat)
  case atStart => exact ⟨0, [], b, Nat.zero_le _, rfl, rfl, hbl, Nat.zero_le _, by show _ = _; rfl, World.ownsRow_made _ _ _ (Nat.le_refl _) (by unfold maxLen; omega) (by simp [madeCells]), (Below.refl _ _).alloc (Nat.le_refl _) _⟩
  case round =>
    obtain ⟨k, os, q, hk, rfl, rfl, hq, hos, HG, hown, hB⟩ := hrel
    obtain ⟨wz, rfl⟩ : ∃ z : World, z = wr := ⟨_, rfl⟩
    by_cases hlt : k < l.length
    · obtain ⟨bb, oo, rfl, hcell⟩ := sl_atf (hs.keep hB) hlt
      have hx := (HL.out l[k] (List.getElem_mem hlt)).1
      obtain ⟨x, hxx⟩ : ∃ x, x = l[k] := ⟨_, rfl⟩
      rw [← hxx] at hcell hx
      have HX := Lib.hid hxx
      clear hxx
      go_wp2_with fail
      refine (sumAny q x hq hx _).mono ?_
      rintro _ w6 ⟨rfl, b6⟩
      have hown := own_keep hown b6
      have hB := bl_pk hB hB.size b6
      obtain ⟨qh, hhi⟩ : ∃ h, h = sHi q x := ⟨_, rfl⟩
      obtain ⟨lo, hlo⟩ : ∃ h, h = sLo q x := ⟨_, rfl⟩
      have hil : qh < 18446744073709551616 := by rw [hhi]; exact (s_any q x).1
      have hstep : growB (l.drop k) q = nzB lo ++ growB (l.drop (k + 1)) qh := by
        rw [List.drop_eq_getElem_cons hlt, ← HX.out, hlo, hhi]; rfl
      rw [← hhi, ← hlo]
      have HS := Lib.hid hstep
      have hbs := hB.size
      have hob := own_block hown
      clear hhi hlo hstep hcell b6
      by_cases z : rung lo = 0
      · have e1 : (FloatKind.f64.format.order lo 0 == some .eq) = true := (eq_zero lo).trans (decide_eq_true z)
        have e2 : (FloatKind.f64.format.order lo 0 != some .eq) = false := by simp [bne, e1]
        go_wp2_with fail
        go_roundw
        case rel => exact ⟨k + 1, os, qh, by omega, by go_num, rfl, hil, by omega, by show _ = _; rw [HG.out, HS.out]; simp [nzB, z], hown, hB⟩
        case measure => simp [intOf]; omega
      · have e1 : (FloatKind.f64.format.order lo 0 == some .eq) = false := (eq_zero lo).trans (decide_eq_false z)
        have e2 : (FloatKind.f64.format.order lo 0 != some .eq) = true := by simp [bne, e1]
        go_wp2_with (at_builtin; refine wpList_append_own _ rfl _ _ 22 rfl w.heap.size 34 i0 (.float .f64 0) 1 8 Tryd.underlying22 hi hz0 hz1 hz2 rfl (by decide) _ _ _ rfl (hown.alloc _) ⟨w6.heap.size, 0, none⟩ 1 1 [.float .f64 lo] rfl rfl (news_one _ _ _) (by simp [Value.oneCell']) (by unfold maxLen; omega) (by omega) (by simp; omega) ?_; intro ov' w7 hown7 hgrow hnil; clear hnil; obtain ⟨q7, cap7, rfl⟩ := own_form hown7)
        go_roundw
        case rel => exact ⟨k + 1, os ++ [lo], qh, by omega, by go_num, rfl, hil, by simp; omega, by show _ = _; rw [HG.out, HS.out]; simp [nzB, z], by simpa [fvs] using hown7, (hB.alloc hbs _).grown hgrow (by simp; omega) hob⟩
        case measure => simp [intOf]; omega
    · obtain rfl : k = l.length := by omega
      have hbs := hB.size
      have hob := own_block hown
      have hG := HG.out
      rw [List.drop_length] at hG
      by_cases z : rung q = 0
      · have e1 : (FloatKind.f64.format.order q 0 == some .eq) = true := (eq_zero q).trans (decide_eq_true z)
        have e2 : (FloatKind.f64.format.order q 0 != some .eq) = false := by simp [bne, e1]
        have HE := Lib.hid (show growB l b = os by rw [hG]; simp [growB, nzB, z])
        clear hG
        go_wp2_with fail
        go_ret
        refine ⟨_, rfl, ?_, hB⟩
        rw [HE.out]; exact hown
      · have e1 : (FloatKind.f64.format.order q 0 == some .eq) = false := (eq_zero q).trans (decide_eq_false z)
        have e2 : (FloatKind.f64.format.order q 0 != some .eq) = true := by simp [bne, e1]
        have HE := Lib.hid (show growB l b = os ++ [q] by rw [hG]; simp [growB, nzB, z])
        clear hG
        go_wp2_with (at_builtin; refine wpList_append_own _ rfl _ _ 22 rfl w.heap.size 34 i0 (.float .f64 0) 1 8 Tryd.underlying22 hi hz0 hz1 hz2 rfl (by decide) _ _ _ rfl (hown.alloc _) ⟨wz.heap.size, 0, none⟩ 1 1 [.float .f64 q] rfl rfl (news_one _ _ _) (by simp [Value.oneCell']) (by unfold maxLen; omega) (by omega) (by simp; omega) ?_; intro ov' w7 hown7 hgrow hnil; clear hnil; obtain ⟨q7, cap7, rfl⟩ := own_form hown7)
        go_ret
        refine ⟨_, rfl, ?_, (hB.alloc hbs _).grown hgrow (by simp; omega) hob⟩
        rw [HE.out]; simpa [fvs] using hown7
end Go.Proofs.YtjogclokjonkeaaDoor
