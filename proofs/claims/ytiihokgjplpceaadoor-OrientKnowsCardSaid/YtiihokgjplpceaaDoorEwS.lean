/- Texts of one kind, joined. -/
import Derived.Test.YtiihokgjplpceaaDoorEpX
import Derived.Test.YtiihokgjplpceaaDoorEfC
import Derived.Test.YtiihokgjplpceaaDoorMemA
import Derived.Deep.RegionHeld3
import Derived.Deep.DeepCutAuto
import Derived.BigRegion
import Derived.Deep.QuietTactic
import Derived.BigQuiet
import Derived.Deep.AppendLies
import Derived.Laws.MakeOwn
import Derived.IntWalk
import Derived.WalkMore

section
/- Package expand, walked: grow. -/
namespace Go.Proofs.YtiihokgjplpceaaDoor
open Go.RowKit TV
set_option linter.unusedVariables false

theorem info_f64 : (Tryd.prog.info? 22).map (fun i => (i.zero, i.size, i.bytes)) = some (some (.float .f64 0), 1, 8) := by kernel_rfl
theorem sumAny (a b : Nat) (ha : a < 18446744073709551616) (hb : b < 18446744073709551616) (w : World) :
    Calls Tryd.prog 51 #[.float .f64 a, .float .f64 b] w fun e w' => e = .returned (.tuple #[.float .f64 (sHi a b), .float .f64 (sLo a b)]) ∧ Below w.heap.size w w' := by
  by_cases h : (tameB a && tameB b) = true
  · have h' := h
    rw [Bool.and_eq_true] at h'
    refine (sum_below a b ha hb h'.1 h'.2 w).mono ?_
    rintro e w' ⟨rfl, hb⟩
    refine ⟨?_, hb⟩
    unfold sHi sLo; rw [if_pos h, if_pos h]
  · refine (sum_no a b ha hb (by simpa using h) w).mono ?_
    rintro e w' ⟨rfl, h2⟩
    refine ⟨?_, h2 ▸ (Below.refl _ _).alloc (Nat.le_refl _) _⟩
    unfold sHi sLo; rw [if_neg h, if_neg h]

/-- A slice of floats. -/
def fvs (l : List Nat) : List Value := l.map (Value.float .f64)
theorem sl_atf {w : World} {p : Option Addr} {c : Nat} {l : List Nat} (h : Sl w (.slice p l.length c) (fvs l)) {k : Nat} (hk : k < l.length) :
    ∃ b o, p = some ⟨b, o, none⟩ ∧ w.cell? ⟨b, o + k, none⟩ = some (.float .f64 l[k]) := by
  rcases h with ⟨h1, h2⟩ | ⟨b, o, cap, h1, h2, h3, h4⟩
  · simp only [fvs, List.map_eq_nil_iff] at h2
    rw [h2] at hk; simp at hk
  · simp only [Value.slice.injEq] at h1
    exact ⟨b, o, h1.1, (h4 k (by simpa [fvs] using hk)).trans (by simp [fvs])⟩
theorem bl_pk {B : Nat} {w w1 w2 : World} (h : Below B w w1) (hs : B ≤ w1.heap.size) (h2 : Below w1.heap.size w1 w2) : Below B w w2 := h.trans (h2.mono hs)
set_option maxRecDepth 100000 in
set_option maxHeartbeats 1000000 in
theorem grow_calls {w : World} {v : Value} {l : List Nat} (hs : Sl w v (fvs l)) (hl : ∀ x ∈ l, Fl x) (hn : l.length ≤ 1000000) (b : Nat) (hb : Fl b) :
    Calls Tryd.prog 70 #[v, .float .f64 b] w fun x w' => ∃ u, x = .returned u ∧ w'.ownsRow w.heap.size 22 1 u (growB l b).length (fvs (growB l b)) ∧ Below w.heap.size w w' := by
  obtain ⟨p, cap, rfl⟩ := hs.form
  have hll : (fvs l).length = l.length := by simp [fvs]
  rw [hll] at hs ⊢
  obtain ⟨i0, hi, hz0, hz1, hz2⟩ := info_parts info_f64
  have hmk : ∀ W, (Instr.makeSlice 55 (.int .i64 0) (.int .i64 (l.length + 1))).run Tryd.prog W = .ok (.slice (some ⟨W.heap.size, 0, none⟩) 0 (l.length + 1)) (W.alloc (.cells (madeCells #[.float .f64 0] (l.length + 1)) 22)) := fun W => by
    have := run_make (P := Tryd.prog) W 55 22 i0 (.float .f64 0) Tryd.underlying55 hi hz0 .i64 .i64 0 ((l.length : Int) + 1) (by omega) (by omega) (by rw [hz2]; omega) (by omega)
    rw [this, hz1, show ((l.length : Int) + 1).toNat = l.length + 1 by omega, Nat.mul_one]; rfl
  have hbl := hb.1
  have HL := Lib.hid hl
  clear hl hb
  go_enter Tryd.func70, Tryd.ntmps70
  go_wp2_with fail
  clear hmk
  go_loopw [5, 6, 8, 9, 17] (fun ov qv _ _ iv wr => ∃ (k : Nat) (os : List Nat) (q : Nat), k ≤ l.length ∧ iv = .int .i64 k ∧ qv = .float .f64 q ∧ q < 18446744073709551616 ∧ os.length ≤ k ∧ Hid (growB l b = os ++ growB (l.drop k) q) ∧
      wr.ownsRow w.heap.size 22 1 ov os.length (fvs os) ∧ Below w.heap.size w wr) (fun _ _ _ _ iv _ => l.length - (intOf iv).toNat)
  case atStart => exact ⟨0, [], b, Nat.zero_le _, rfl, rfl, hbl, Nat.zero_le _, by show _ = _; rfl, World.ownsRow_made _ _ _ (Nat.le_refl _) (by unfold maxLen; omega) (by simp [madeCells]), (Below.refl _ _).alloc (Nat.le_refl _) _⟩
  case round =>
    obtain ⟨k, os, q, hk, rfl, rfl, hq, hos, HG, hown, hB⟩ := hrel
    obtain ⟨wz, rfl⟩ : ∃ z : World, z = wr := ⟨_, rfl⟩
    by_cases hlt : k < l.length
    · obtain ⟨bb, oo, rfl, hcell⟩ := sl_atf (hs.keep hB) hlt
      have hx := (HL.out l[k] (List.getElem_mem hlt)).1
      obtain ⟨x, hxx⟩ : ∃ x, x = l[k] := ⟨_, rfl⟩
      rw [← hxx] at hcell hx
      have HX := Lib.hid hxx
      clear hxx
      go_wp2_with fail
      refine (sumAny q x hq hx _).mono ?_
      rintro _ w6 ⟨rfl, b6⟩
      have hown := own_keep hown b6
      have hB := bl_pk hB hB.size b6
      obtain ⟨qh, hhi⟩ : ∃ h, h = sHi q x := ⟨_, rfl⟩
      obtain ⟨lo, hlo⟩ : ∃ h, h = sLo q x := ⟨_, rfl⟩
      have hil : qh < 18446744073709551616 := by rw [hhi]; exact (s_any q x).1
      have hstep : growB (l.drop k) q = nzB lo ++ growB (l.drop (k + 1)) qh := by
        rw [List.drop_eq_getElem_cons hlt, ← HX.out, hlo, hhi]; rfl
      rw [← hhi, ← hlo]
      have HS := Lib.hid hstep
      have hbs := hB.size
      have hob := own_block hown
      clear hhi hlo hstep hcell b6
      by_cases z : rung lo = 0
      · have e1 : (FloatKind.f64.format.order lo 0 == some .eq) = true := (eq_zero lo).trans (decide_eq_true z)
        have e2 : (FloatKind.f64.format.order lo 0 != some .eq) = false := by simp [bne, e1]
        go_wp2_with fail
        go_roundw
        case rel => exact ⟨k + 1, os, qh, by omega, by go_num, rfl, hil, by omega, by show _ = _; rw [HG.out, HS.out]; simp [nzB, z], hown, hB⟩
        case measure => simp [intOf]; omega
      · have e1 : (FloatKind.f64.format.order lo 0 == some .eq) = false := (eq_zero lo).trans (decide_eq_false z)
        have e2 : (FloatKind.f64.format.order lo 0 != some .eq) = true := by simp [bne, e1]
        go_wp2_with (at_builtin; refine wpList_append_own _ rfl _ _ 55 rfl w.heap.size 22 i0 (.float .f64 0) 1 8 Tryd.underlying55 hi hz0 hz1 hz2 rfl (by decide) _ _ _ rfl (hown.alloc _) ⟨w6.heap.size, 0, none⟩ 1 1 [.float .f64 lo] rfl rfl (news_one _ _ _) (by simp [Value.oneCell']) (by unfold maxLen; omega) (by omega) (by simp; omega) ?_; intro ov' w7 hown7 hgrow hnil; clear hnil; obtain ⟨q7, cap7, rfl⟩ := own_form hown7)
        go_roundw
        case rel => exact ⟨k + 1, os ++ [lo], qh, by omega, by go_num, rfl, hil, by simp; omega, by show _ = _; rw [HG.out, HS.out]; simp [nzB, z], by simpa [fvs] using hown7, (hB.alloc hbs _).grown hgrow (by simp; omega) hob⟩
        case measure => simp [intOf]; omega
    · obtain rfl : k = l.length := by omega
      have hbs := hB.size
      have hob := own_block hown
      have hG := HG.out
      rw [List.drop_length] at hG
      by_cases z : rung q = 0
      · have e1 : (FloatKind.f64.format.order q 0 == some .eq) = true := (eq_zero q).trans (decide_eq_true z)
        have e2 : (FloatKind.f64.format.order q 0 != some .eq) = false := by simp [bne, e1]
        have HE := Lib.hid (show growB l b = os by rw [hG]; simp [growB, nzB, z])
        clear hG
        go_wp2_with fail
        go_ret
        refine ⟨_, rfl, ?_, hB⟩
        rw [HE.out]; exact hown
      · have e1 : (FloatKind.f64.format.order q 0 == some .eq) = false := (eq_zero q).trans (decide_eq_false z)
        have e2 : (FloatKind.f64.format.order q 0 != some .eq) = true := by simp [bne, e1]
        have HE := Lib.hid (show growB l b = os ++ [q] by rw [hG]; simp [growB, nzB, z])
        clear hG
        go_wp2_with (at_builtin; refine wpList_append_own _ rfl _ _ 55 rfl w.heap.size 22 i0 (.float .f64 0) 1 8 Tryd.underlying55 hi hz0 hz1 hz2 rfl (by decide) _ _ _ rfl (hown.alloc _) ⟨wz.heap.size, 0, none⟩ 1 1 [.float .f64 q] rfl rfl (news_one _ _ _) (by simp [Value.oneCell']) (by unfold maxLen; omega) (by omega) (by simp; omega) ?_; intro ov' w7 hown7 hgrow hnil; clear hnil; obtain ⟨q7, cap7, rfl⟩ := own_form hown7)
        go_ret
        refine ⟨_, rfl, ?_, (hB.alloc hbs _).grown hgrow (by simp; omega) hob⟩
        rw [HE.out]; simpa [fvs] using hown7
end Go.Proofs.YtiihokgjplpceaaDoor
end

section
/- Package expand, walked: neat. -/
namespace Go.Proofs.YtiihokgjplpceaaDoor
open Go.RowKit TV
set_option linter.unusedVariables false

theorem own_empty (w : World) : (w.alloc (.cells #[] 22)).ownsRow w.heap.size 22 1 (.slice (some ⟨w.heap.size, 0, none⟩) 0 0) 0 [] := 
  ⟨by simp, Or.inr ⟨w.heap.size, 0, #[], rfl, Nat.le_refl _, heap_alloc_new _ _, Nat.le_refl _, by unfold maxLen; omega, by simp, by simp⟩⟩
theorem own_less {w : World} {b c : Nat} {e : TypeId} {size : Nat} {v : Value} {n : Nat} {xs : List Value} (h : w.ownsRow b e size v n xs) (hc : c ≤ b) : w.ownsRow c e size v n xs := by
  obtain ⟨h1, h2⟩ := h
  refine ⟨h1, ?_⟩
  rcases h2 with h2 | ⟨g, cap, cur, hv, hg, hh, r⟩
  · exact Or.inl h2
  · exact Or.inr ⟨g, cap, cur, hv, Nat.le_trans hc hg, hh, r⟩
theorem rev_all {l : List Nat} {k j : Nat} (hk : j + 1 + k = l.length) (hj : j < l.length) : l.reverse.drop k = l[j] :: l.reverse.drop (k + 1) := by
  have h1 : k < l.reverse.length := by simp; omega
  rw [List.drop_eq_getElem_cons h1]
  congr 1
  rw [List.getElem_reverse]
  congr 1
  omega
theorem rev_take {l : List Nat} {n k j : Nat} (hn : l.length = n + 1) (hk : j + 1 + k = n) (hj : j < l.length) : ((l.take n).reverse).drop k = l[j] :: ((l.take n).reverse).drop (k + 1) := by
  have h1 : k < ((l.take n).reverse).length := by simp; omega
  rw [List.drop_eq_getElem_cons h1]
  congr 1
  rw [List.getElem_reverse, List.getElem_take]
  congr 1
  simp; omega
set_option maxRecDepth 100000 in
set_option maxHeartbeats 1000000 in
theorem neat_calls {w : World} {v : Value} {l : List Nat} (hs : Sl w v (fvs l)) (hl : ∀ x ∈ l, Fl x) (hn : l.length ≤ 1000000) :
    Calls Tryd.prog 72 #[v] w fun x w' => ∃ u, x = .returned u ∧ w'.ownsRow w.heap.size 22 1 u (neatB l).length (fvs (neatB l)) ∧ Below w.heap.size w w' := by
  obtain ⟨p, cap, rfl⟩ := hs.form
  have hll : (fvs l).length = l.length := by simp [fvs]
  rw [hll] at hs ⊢
  obtain ⟨i0, hi, hz0, hz1, hz2⟩ := info_parts info_f64
  have HL := Lib.hid hl
  clear hl
  by_cases h0 : l.length = 0
  · have h0' : ((l.length : Int) == 0) = true := by rw [h0]; rfl
    have e : l = [] := List.length_eq_zero_iff.1 h0
    go_enter Tryd.func72, Tryd.ntmps72
    go_wp2_with fail
    go_ret
    exact ⟨_, rfl, by rw [e]; exact ⟨rfl, Or.inl ⟨rfl, rfl⟩⟩, Below.refl _ _⟩
  · obtain ⟨n, hN⟩ : ∃ n, l.length = n + 1 := ⟨l.length - 1, by omega⟩
    have hmk : ∀ W, (Instr.makeSlice 55 (.int .i64 0) (.int .i64 (n + 1))).run Tryd.prog W = .ok (.slice (some ⟨W.heap.size, 0, none⟩) 0 (n + 1)) (W.alloc (.cells (madeCells #[.float .f64 0] (n + 1)) 22)) := fun W => by
      have := run_make (P := Tryd.prog) W 55 22 i0 (.float .f64 0) Tryd.underlying55 hi hz0 .i64 .i64 0 ((n : Int) + 1) (by omega) (by omega) (by rw [hz2]; omega) (by omega)
      rw [this, hz1, show ((n : Int) + 1).toNat = n + 1 by omega, Nat.mul_one]; rfl
    have h0' : ((n : Int) + 1 == 0) = false := by rw [beq_eq_false_iff_ne]; omega
    obtain ⟨bb, oo, rfl, hcell⟩ := sl_atf hs (k := n) (by omega)
    obtain ⟨q0, hq0⟩ : ∃ x, x = l[n] := ⟨_, rfl⟩
    rw [← hq0] at hcell
    have hq0l := (HL.out q0 (by rw [hq0]; exact List.getElem_mem _)).1
    have HQ0 := Lib.hid hq0
    clear hq0
    have e1 : (n : Int) + 1 - 1 = n := by omega
    have e2 : (n : Int) + 1 - 2 = n - 1 := by omega
    have hbb : bb < w.heap.size := World.block_lt_of_cell? w _ hcell
    go_enter Tryd.func72, Tryd.ntmps72
    go_wp2_with fail
    clear hmk hcell hbb e1 e2 h0'
    have HNN := Lib.hid hN
    obtain ⟨r, hr⟩ : ∃ r, r = (l.take n).reverse := ⟨_, rfl⟩
    have HRR := Lib.hid hr
    go_loopw [3, 4, 5, 6] (fun gv qv iv _ wr => ∃ (j k : Nat) (gs : List Nat) (q : Nat), j + k = n ∧ iv = .int .i64 ((j : Int) - 1) ∧ qv = .float .f64 q ∧ q < 18446744073709551616 ∧ gs.length ≤ k ∧ Hid (dnBg r q0 = gs ++ dnBg (r.drop k) q) ∧ Hid (dnBq r q0 = dnBq (r.drop k) q) ∧ Hid (∀ y ∈ gs, y < 18446744073709551616) ∧
        wr.ownsRow w.heap.size 22 1 gv gs.length (fvs gs) ∧ Below w.heap.size w wr) (fun _ _ iv _ _ => (intOf iv + 1).toNat)
    case atStart => exact ⟨n, 0, [], q0, rfl, rfl, rfl, hq0l, Nat.zero_le _, by show _ = _; rfl, by show _ = _; rfl, fun y hy => (by cases hy), World.ownsRow_made _ _ _ (Nat.le_refl _) (by unfold maxLen; omega) (by simp [madeCells]), (Below.refl _ _).alloc (Nat.le_refl _) _⟩
    case round =>
      obtain ⟨j, k, gs, q, hjk, rfl, rfl, hq, hgs, HG, HQ, HY, hown, hB⟩ := hrel
      obtain ⟨wz, rfl⟩ : ∃ z : World, z = wr := ⟨_, rfl⟩
      have hbs := hB.size
      have hob := own_block hown
      cases j with
      | succ j =>
        have ej : ((j + 1 : Nat) : Int) - 1 = (j : Int) := by omega
        rw [ej]
        have hjl : j < l.length := by omega
        obtain ⟨b2, o2, h2, hcell⟩ := sl_atf (hs.keep hB) hjl
        simp only [Option.some.injEq, Addr.mk.injEq, and_true] at h2
        obtain ⟨rfl, rfl⟩ := h2
        have hx := (HL.out l[j] (List.getElem_mem hjl)).1
        have hdrop : r.drop k = l[j] :: r.drop (k + 1) := by rw [hr]; exact rev_take hN (by omega) hjl
        obtain ⟨x, hxx⟩ : ∃ x, x = l[j] := ⟨_, rfl⟩
        rw [← hxx] at hcell hx hdrop
        have hj1 : (j : Int) < l.length := by omega
        have hj2 : (0 : Int) ≤ j := by omega
        have hgb : gs.length ≤ 1000000 := by omega
        have HJ := Lib.hid hjk
        have HGS := Lib.hid hgs
        clear hxx hjk hgs HQ0 hN hr
        go_wp2_with fail
        refine (sumAny q x hq hx _).mono ?_
        rintro _ w6 ⟨rfl, b6⟩
        have hown := own_keep hown b6
        have hB := bl_pk hB hB.size b6
        obtain ⟨qh, hhi⟩ : ∃ h, h = sHi q x := ⟨_, rfl⟩
        obtain ⟨lo, hlo⟩ : ∃ h, h = sLo q x := ⟨_, rfl⟩
        have hil : qh < 18446744073709551616 := by rw [hhi]; exact (s_any q x).1
        have hol : lo < 18446744073709551616 := by rw [hlo]; exact (s_any q x).2.1
        have hG := HG.out
        have hQ := HQ.out
        rw [hdrop] at hG hQ
        simp only [dnBg, dnBq] at hG hQ
        rw [← hhi, ← hlo]
        rw [← hhi, ← hlo] at hG hQ
        have HG2 := Lib.hid hG
        have HQ2 := Lib.hid hQ
        have hbs := hB.size
        have hob := own_block hown
        clear hhi hlo hcell b6 hG hQ hdrop
        by_cases z : rung lo = 0
        · have f1 : (FloatKind.f64.format.order lo 0 == some .eq) = true := (eq_zero lo).trans (decide_eq_true z)
          have f2 : (FloatKind.f64.format.order lo 0 != some .eq) = false := by simp [bne, f1]
          go_wp2_with fail
          go_roundw
          case rel => exact ⟨j, k + 1, gs, qh, by have := HJ.out; omega, rfl, rfl, hil, by have := HGS.out; omega, by show _ = _; rw [HG2.out, if_neg (by simpa using z)], by show _ = _; rw [HQ2.out, if_neg (by simpa using z)], HY, hown, hB⟩
          case measure => simp [intOf]
        · have f1 : (FloatKind.f64.format.order lo 0 == some .eq) = false := (eq_zero lo).trans (decide_eq_false z)
          have f2 : (FloatKind.f64.format.order lo 0 != some .eq) = true := by simp [bne, f1]
          go_wp2_with (at_builtin; refine wpList_append_own _ rfl _ _ 55 rfl w.heap.size 22 i0 (.float .f64 0) 1 8 Tryd.underlying55 hi hz0 hz1 hz2 rfl (by decide) _ _ _ rfl (hown.alloc _) ⟨w6.heap.size, 0, none⟩ 1 1 [.float .f64 qh] rfl rfl (news_one _ _ _) (by simp [Value.oneCell']) (by unfold maxLen; omega) (by omega) (by simp; omega) ?_; intro ov' w7 hown7 hgrow hnil; clear hnil; obtain ⟨q7, cap7, rfl⟩ := own_form hown7)
          go_roundw
          case rel => exact ⟨j, k + 1, gs ++ [qh], lo, by have := HJ.out; omega, rfl, rfl, hol, by have := HGS.out; simp; omega, by show _ = _; rw [HG2.out, if_pos z]; simp, by show _ = _; rw [HQ2.out, if_pos z], fun y hy => (by rcases List.mem_append.1 hy with hy | hy; exact HY.out y hy; rw [List.mem_singleton.1 hy]; exact hil), by simpa [fvs] using hown7, (hB.alloc hbs _).grown hgrow (by simp; omega) hob⟩
          case measure => simp [intOf]
      | zero =>
        obtain rfl : k = n := by omega
        have hG := HG.out
        have hQ := HQ.out
        have hrl : r.drop k = [] := by rw [hr]; exact List.drop_of_length_le (by simp; omega)
        rw [hrl] at hG hQ
        simp only [dnBg, dnBq, List.append_nil] at hG hQ
        rw [show ((0 : Nat) : Int) - 1 = -1 from rfl]
        obtain ⟨qg, cg, rfl⟩ := own_form hown
        have hsg : Sl wz (.slice qg gs.length cg) (fvs gs) := by have := own_sl hown; exact this
        have HNB : Hid (neatB l = upB gs.reverse q) := by
          show _ = _
          unfold neatB
          have h1 : l.reverse = q0 :: r := by
            rw [hr, HQ0.out]
            conv => lhs; rw [← List.take_append_drop k l]
            rw [List.reverse_append, List.drop_eq_getElem_cons (by omega), List.drop_of_length_le (by omega)]; rfl
          rw [h1]; simp only []; rw [hG, hQ]
        obtain ⟨m, hm⟩ : ∃ m, m = gs.length := ⟨_, rfl⟩
        have hm1 : m ≤ 1000000 := by omega
        have HM := Lib.hid hm
        rw [← hm] at hsg ⊢
        clear hG hQ HG HQ hrl hjk hgs HQ0 hN hr hown hm
        go_wp2_with fail
        go_loopw [4, 7, 8, 9] (fun qv ov iv _ wr => ∃ (j k : Nat) (os : List Nat) (q2 : Nat), j + k = m ∧ iv = .int .i64 ((j : Int) - 1) ∧ qv = .float .f64 q2 ∧ q2 < 18446744073709551616 ∧ os.length ≤ k ∧ Hid (upB gs.reverse q = os ++ upB (gs.reverse.drop k) q2) ∧
            wr.ownsRow wz.heap.size 22 1 ov os.length (fvs os) ∧ Below wz.heap.size wz wr) (fun _ _ iv _ _ => (intOf iv + 1).toNat)
        case atStart => exact ⟨m, 0, [], q, rfl, rfl, rfl, hq, Nat.zero_le _, by show _ = _; rfl, own_empty wz, (Below.refl _ _).alloc (Nat.le_refl _) _⟩
        case round =>
          obtain ⟨j, n2, os, q2, hjk, rfl, rfl, hq2, hos, HG, hown, hB2⟩ := hrel
          obtain ⟨wy, rfl⟩ : ∃ z : World, z = wr := ⟨_, rfl⟩
          have hbs := hB2.size
          have hbz := hB.size
          have hob := own_block hown
          cases j with
          | succ j =>
            have ej : ((j + 1 : Nat) : Int) - 1 = (j : Int) := by omega
            rw [ej]
            have hmm := HM.out
            have hjl : j < gs.length := by omega
            obtain ⟨b2, o2, rfl, hcell⟩ := sl_atf (l := gs) (by rw [← hmm]; exact hsg.keep hB2) hjl
            have hx := HY.out gs[j] (List.getElem_mem hjl)
            have hdrop : gs.reverse.drop n2 = gs[j] :: gs.reverse.drop (n2 + 1) := rev_all (by omega) hjl
            obtain ⟨x, hxx⟩ : ∃ x, x = gs[j] := ⟨_, rfl⟩
            rw [← hxx] at hcell hx hdrop
            have hj1 : (j : Int) < m := by omega
            have hj2 : (0 : Int) ≤ j := by omega
            have hob2 : os.length ≤ 1000000 := by omega
            have HJ := Lib.hid hjk
            have HOS := Lib.hid hos
            clear hxx hjk hos hmm
            go_wp2_with fail
            refine (sumAny x q2 hx hq2 _).mono ?_
            rintro _ w6 ⟨rfl, b6⟩
            have hown := own_keep hown b6
            have hB2 := bl_pk hB2 hB2.size b6
            obtain ⟨qh, hhi⟩ : ∃ h, h = sHi x q2 := ⟨_, rfl⟩
            obtain ⟨lo, hlo⟩ : ∃ h, h = sLo x q2 := ⟨_, rfl⟩
            have hil : qh < 18446744073709551616 := by rw [hhi]; exact (s_any x q2).1
            have hG := HG.out
            rw [hdrop] at hG
            simp only [upB] at hG
            rw [← hhi, ← hlo]
            rw [← hhi, ← hlo] at hG
            have HG2 := Lib.hid hG
            have hbs := hB2.size
            have hob := own_block hown
            clear hhi hlo hcell b6 hG hdrop
            by_cases z : rung lo = 0
            · have f1 : (FloatKind.f64.format.order lo 0 == some .eq) = true := (eq_zero lo).trans (decide_eq_true z)
              have f2 : (FloatKind.f64.format.order lo 0 != some .eq) = false := by simp [bne, f1]
              go_wp2_with fail
              go_roundw
              case rel => exact ⟨j, n2 + 1, os, qh, by have := HJ.out; omega, rfl, rfl, hil, by have := HOS.out; omega, by show _ = _; rw [HG2.out]; simp [nzB, z], hown, hB2⟩
              case measure => simp [intOf]
            · have f1 : (FloatKind.f64.format.order lo 0 == some .eq) = false := (eq_zero lo).trans (decide_eq_false z)
              have f2 : (FloatKind.f64.format.order lo 0 != some .eq) = true := by simp [bne, f1]
              go_wp2_with (at_builtin; refine wpList_append_own _ rfl _ _ 55 rfl wz.heap.size 22 i0 (.float .f64 0) 1 8 Tryd.underlying55 hi hz0 hz1 hz2 rfl (by decide) _ _ _ rfl (hown.alloc _) ⟨w6.heap.size, 0, none⟩ 1 1 [.float .f64 lo] rfl rfl (news_one _ _ _) (by simp [Value.oneCell']) (by unfold maxLen; omega) (by omega) (by simp; omega) ?_; intro ov' w7 hown7 hgrow hnil; clear hnil; obtain ⟨q7, cap7, rfl⟩ := own_form hown7)
              go_roundw
              case rel => exact ⟨j, n2 + 1, os ++ [lo], qh, by have := HJ.out; omega, rfl, rfl, hil, by have := HOS.out; simp; omega, by show _ = _; rw [HG2.out]; simp [nzB, z], by simpa [fvs] using hown7, (hB2.alloc hbs _).grown hgrow (by simp; omega) hob⟩
              case measure => simp [intOf]
          | zero =>
            have hG := HG.out
            have hmm := HM.out
            rw [show gs.reverse.drop n2 = [] from List.drop_of_length_le (by simp; omega)] at hG
            rw [show ((0 : Nat) : Int) - 1 = -1 from rfl]
            have hbw : Below w.heap.size w wy := bl_pk hB hbz (hB2.mono (Nat.le_refl _))
            have hob2 : os.length ≤ 1000000 := by omega
            have hbs2 : w.heap.size ≤ wy.heap.size := by omega
            clear hmm hjk hos
            by_cases z : rung q2 = 0
            · have f1 : (FloatKind.f64.format.order q2 0 == some .eq) = true := (eq_zero q2).trans (decide_eq_true z)
              have f2 : (FloatKind.f64.format.order q2 0 != some .eq) = false := by simp [bne, f1]
              have HE := Lib.hid (show neatB l = os by rw [HNB.out, hG]; simp [upB, nzB, z])
              clear hG
              go_wp2_with fail
              go_ret
              refine ⟨_, rfl, ?_, hbw⟩
              rw [HE.out]; exact own_less hown hbz
            · have f1 : (FloatKind.f64.format.order q2 0 == some .eq) = false := (eq_zero q2).trans (decide_eq_false z)
              have f2 : (FloatKind.f64.format.order q2 0 != some .eq) = true := by simp [bne, f1]
              have HE := Lib.hid (show neatB l = os ++ [q2] by rw [HNB.out, hG]; simp [upB, nzB, z])
              clear hG
              go_wp2_with (at_builtin; refine wpList_append_own _ rfl _ _ 55 rfl wz.heap.size 22 i0 (.float .f64 0) 1 8 Tryd.underlying55 hi hz0 hz1 hz2 rfl (by decide) _ _ _ rfl (hown.alloc _) ⟨wy.heap.size, 0, none⟩ 1 1 [.float .f64 q2] rfl rfl (news_one _ _ _) (by simp [Value.oneCell']) (by unfold maxLen; omega) (by omega) (by simp; omega) ?_; intro ov' w7 hown7 hgrow hnil; clear hnil; obtain ⟨q7, cap7, rfl⟩ := own_form hown7)
              go_ret
              refine ⟨_, rfl, ?_, (hbw.alloc hbs2 _).grown hgrow (by simp; omega) (fun k hk => Nat.le_trans hbz (hob k hk))⟩
              rw [HE.out]; simpa [fvs] using own_less hown7 hbz
end Go.Proofs.YtiihokgjplpceaaDoor
end

section
/- Package expand, walked: Neg. -/
namespace Go.Proofs.YtiihokgjplpceaaDoor
open Go.RowKit TV
set_option linter.unusedVariables false

theorem own_madef {w : World} {base : Nat} {e : TypeId} {n bs : Nat} (hb : base ≤ bs) (hn : n ≤ maxLen) (h : w.heap[bs]? = some (.cells (madeCells #[.float .f64 0] n) e (0, 0))) :
    w.ownsRow base e 1 (.slice (some ⟨bs, 0, none⟩) n n) n (List.replicate n (.float .f64 0)) := by
  refine ⟨by simp, Or.inr ⟨bs, n, _, rfl, hb, h, Nat.le_refl _, hn, by rw [size_madeCells, Nat.mul_one], ?_⟩⟩
  rw [Nat.mul_one]
  have : (madeCells #[.float .f64 0] n).toList = List.replicate n (Value.float .f64 0) := by
    apply List.ext_getElem
    · simp [size_madeCells]
    · intro i h1 h2
      simp [madeCells, Nat.mod_one]
  rw [this, List.take_of_length_le (by simp)]
set_option maxRecDepth 100000 in
set_option maxHeartbeats 1000000 in
theorem neg_calls2 {w : World} {v : Value} {l : List Nat} (hs : Sl w v (fvs l)) (hl : ∀ x ∈ l, x < 18446744073709551616) (hn : l.length ≤ 1000000) :
    Calls Tryd.prog 57 #[v] w fun x w' => ∃ u, x = .returned u ∧ w'.ownsRow w.heap.size 22 1 u l.length (fvs (l.map fneg)) ∧ Below w.heap.size w w' := by
  obtain ⟨p, cap, rfl⟩ := hs.form
  have hll : (fvs l).length = l.length := by simp [fvs]
  rw [hll] at hs ⊢
  obtain ⟨i0, hi, hz0, hz1, hz2⟩ := info_parts info_f64
  have hmk : ∀ W, (Instr.makeSlice 55 (.int .i64 l.length) (.int .i64 l.length)).run Tryd.prog W = .ok (.slice (some ⟨W.heap.size, 0, none⟩) l.length l.length) (W.alloc (.cells (madeCells #[.float .f64 0] l.length) 22)) := fun W => by
    have := run_make (P := Tryd.prog) W 55 22 i0 (.float .f64 0) Tryd.underlying55 hi hz0 .i64 .i64 (l.length : Int) (l.length : Int) (by omega) (by omega) (by rw [hz2]; omega) (by omega)
    rw [this, hz1, show (l.length : Int).toNat = l.length by omega, Nat.mul_one]; rfl
  go_enter Tryd.func57, Tryd.ntmps57
  go_wp2_with fail
  clear hmk
  go_loopw [4, 5, 11] (fun _ _ iv wr => ∃ (k : Nat), k ≤ l.length ∧ iv = .int .i64 k ∧
      wr.ownsRow w.heap.size 22 1 (.slice (some ⟨w.heap.size, 0, none⟩) l.length l.length) l.length (fvs ((l.take k).map fneg) ++ List.replicate (l.length - k) (.float .f64 0)) ∧ Below w.heap.size w wr) (fun _ _ iv _ => l.length - (intOf iv).toNat)
  case atStart => exact ⟨0, Nat.zero_le _, rfl, own_madef (Nat.le_refl _) (by unfold maxLen; omega) (heap_alloc_new _ _), (Below.refl _ _).alloc (Nat.le_refl _) _⟩
  case round =>
    obtain ⟨k, hk, rfl, hown, hB⟩ := hrel
    obtain ⟨wz, rfl⟩ : ∃ z : World, z = wr := ⟨_, rfl⟩
    by_cases hlt : k < l.length
    · obtain ⟨bb, oo, rfl, hcell⟩ := sl_atf (hs.keep hB) hlt
      have hxs : (fvs ((l.take k).map fneg) ++ List.replicate (l.length - k) (Value.float .f64 0)).length = l.length := by simp [fvs]; omega
      obtain ⟨xs, hx⟩ : ∃ xs, xs = fvs ((l.take k).map fneg) ++ List.replicate (l.length - k) (Value.float .f64 0) := ⟨_, rfl⟩
      rw [← hx] at hown hxs
      obtain ⟨hc1, hc2⟩ := own_cell hown (i := k) (by omega)
      have hset := own_set hown k (.float .f64 (fneg l[k]))
      have HX := Lib.hid hx
      obtain ⟨x, hxx⟩ : ∃ x, x = l[k] := ⟨_, rfl⟩
      rw [← hxx] at hcell hset
      have HXX := Lib.hid hxx
      obtain ⟨old, ho⟩ : ∃ u, u = xs[k] := ⟨_, rfl⟩
      rw [← ho] at hc1
      clear hx hxx ho
      have hbs := hB.size
      go_wp2_with fail
      go_roundw
      case rel =>
        have e : xs.set k (.float .f64 (fneg x)) = fvs ((l.take (k + 1)).map fneg) ++ List.replicate (l.length - (k + 1)) (Value.float .f64 0) := by
          rw [HX.out, show l.length - k = l.length - (k + 1) + 1 by omega, List.take_succ_eq_append_getElem hlt, ← HXX.out]
          have hA : (List.map (Value.float .f64) (List.map fneg (List.take k l))).length = k := by simp; omega
          simp only [fvs, List.map_append, List.map_cons, List.map_nil]
          generalize List.map (Value.float .f64) (List.map fneg (List.take k l)) = A at *
          rw [List.set_append_right _ _ (by omega), hA, Nat.sub_self, List.replicate_succ, List.set_cons_zero, List.append_assoc]; rfl
        exact ⟨k + 1, by omega, by go_num, by rw [← e]; exact hset, hB.setCell (Nat.le_refl _) _⟩
      case measure => simp [intOf]; omega
    · obtain rfl : k = l.length := by omega
      go_wp2_with fail
      go_ret
      refine ⟨_, rfl, ?_, hB⟩
      simpa [fvs] using hown
end Go.Proofs.YtiihokgjplpceaaDoor
end
