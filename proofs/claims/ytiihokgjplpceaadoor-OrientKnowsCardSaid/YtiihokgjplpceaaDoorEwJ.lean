/- Package expand, walked: Sign, the closure of plus. -/
import Derived.Test.YtiihokgjplpceaaDoorEwX
import Derived.Test.YtiihokgjplpceaaDoorBxB
namespace Go.Proofs.YtiihokgjplpceaaDoor
open Go.RowKit TV
set_option linter.unusedVariables false

/-- The sign of an expansion, by its last float. -/
def sgnL (l : List Nat) : Int := if allB 1 9065746049896808448 l = true ∧ l ≠ [] then (if fv (l.getD (l.length - 1) 0) < 0 then -1 else 1) else 0
theorem order_zero {x : Nat} (h : rung x < inf) : (FloatKind.f64.format.order x 0 == some .lt) = decide (fv x < 0) := by
  have h1 := order_le (x := x) (y := 0) (by omega) (by decide)
  have h2 : fv 0 = 0 := by decide
  rw [h2] at h1
  rw [show FloatKind.f64.format.order x 0 = some (compare (fv x) 0) from h1]
  rcases Int.lt_trichotomy (fv x) 0 with h | h | h
  · rw [Int.compare_eq_lt.2 h, decide_eq_true h]; rfl
  · rw [Int.compare_eq_eq.2 h, decide_eq_false (by omega)]; rfl
  · rw [Int.compare_eq_gt.2 h, decide_eq_false (by omega)]; rfl
theorem esign_calls {w : World} {v : Value} {l : List Nat} (hs : Sl w v (fvs l)) (hl : ∀ x ∈ l, x < 18446744073709551616) (hn : l.length ≤ 1000000000) :
    Calls Tryd.prog 56 #[v] w fun x w' => x = .returned (.int .i64 (sgnL l)) ∧ Below w.heap.size w w' := by
  have HC := Lib.hid (check_calls hs hl hn)
  obtain ⟨p, cap, rfl⟩ := hs.form
  have hll : (fvs l).length = l.length := by simp [fvs]
  rw [hll] at hs HC ⊢
  by_cases c : allB 1 9065746049896808448 l = true
  · rw [c] at HC
    by_cases h0 : l.length = 0
    · have e : sgnL l = 0 := by unfold sgnL; rw [if_neg (fun h => h.2 (List.length_eq_zero_iff.1 h0))]
      have h0' : ((l.length : Int) == 0) = true := by rw [h0]; rfl
      rw [e]
      clear e c h0 hl
      go_enter Tryd.func56, Tryd.ntmps56
      go_wp2_with (go_at_call 55; refine HC.out.mono ?_; rintro x w1 ⟨rfl, hb⟩)
      go_ret
      exact ⟨rfl, hb⟩
    · obtain ⟨n, hN⟩ : ∃ n, l.length = n + 1 := ⟨l.length - 1, by omega⟩
      have hlt : n < l.length := by omega
      have hg : l.getD (l.length - 1) 0 = l[n] := by rw [hN, Nat.add_sub_cancel, List.getD_eq_getElem?_getD, List.getElem?_eq_getElem hlt]; rfl
      have hx := hl l[n] (List.getElem_mem hlt)
      have hok := okI_mem ((allB_one l).1 c).2 (fv l[n]) (List.mem_map_of_mem (List.getElem_mem hlt))
      obtain ⟨bb, oo, rfl, hcell⟩ := sl_atf hs hlt
      have hbb : bb < w.heap.size := World.block_lt_of_cell? w _ hcell
      have e : sgnL l = if fv l[n] < 0 then -1 else 1 := by unfold sgnL; rw [if_pos ⟨c, fun h => h0 (by rw [h]; rfl)⟩, hg]
      rw [e]
      have hf : rung l[n] < inf := by
        have h2 := hok.2
        rw [fv_natAbs] at h2
        have := mag_le_iff.1 h2
        have := inf_eq
        omega
      have ho := order_zero hf
      obtain ⟨y, hy⟩ : ∃ y, y = l[n] := ⟨_, rfl⟩
      rw [← hy] at hcell hx ho ⊢
      have h0' : ((l.length : Int) == 0) = false := by rw [beq_eq_false_iff_ne]; omega
      have e1 : (l.length : Int) - 1 = n := by omega
      have HNN := Lib.hid hN
      have i1 : (0 : Int) ≤ n := by omega
      have i2 : (n : Int) < l.length := by omega
      clear hy hg e hok hl h0 c hN
      by_cases z : fv y < 0
      · rw [decide_eq_true z] at ho
        rw [if_pos z]
        clear z
        go_enter Tryd.func56, Tryd.ntmps56
        go_wp2_with (go_at_call 55; refine HC.out.mono ?_; rintro x w1 ⟨rfl, hb⟩; obtain ⟨k1, k2⟩ := bcell hb)
        go_ret
        exact ⟨rfl, hb⟩
      · rw [decide_eq_false z] at ho
        rw [if_neg z]
        clear z
        go_enter Tryd.func56, Tryd.ntmps56
        go_wp2_with (go_at_call 55; refine HC.out.mono ?_; rintro x w1 ⟨rfl, hb⟩; obtain ⟨k1, k2⟩ := bcell hb)
        go_ret
        exact ⟨rfl, hb⟩
  · have c' : allB 1 9065746049896808448 l = false := by simpa using c
    have e : sgnL l = 0 := by unfold sgnL; rw [if_neg (fun h => c h.1)]
    rw [c'] at HC
    rw [e]
    clear e c c' hl
    go_enter Tryd.func56, Tryd.ntmps56
    go_wp2_with (go_at_call 55; refine HC.out.mono ?_; rintro x w1 ⟨rfl, hb⟩)
    go_ret
    exact ⟨rfl, hb⟩

/-! ### The closure of plus -/
theorem merge_e {e f : List Nat} {i k : Nat} (hi : i < e.length) (h : k = f.length ∨ ∃ hk : k < f.length, rung e[i] < rung f[k]) (hk : k ≤ f.length) : mergeB (e.drop i) (f.drop k) = e[i] :: mergeB (e.drop (i + 1)) (f.drop k) := by
  rw [List.drop_eq_getElem_cons hi]
  rcases h with rfl | ⟨hk, h⟩
  · rw [List.drop_length, mergeB_right, mergeB_right]
  · rw [List.drop_eq_getElem_cons hk, mergeB_lt h]
theorem merge_f {e f : List Nat} {i k : Nat} (hk : k < f.length) (h : i = e.length ∨ ∃ hi : i < e.length, ¬ rung e[i] < rung f[k]) : mergeB (e.drop i) (f.drop k) = f[k] :: mergeB (e.drop i) (f.drop (k + 1)) := by
  rw [List.drop_eq_getElem_cons hk]
  rcases h with rfl | ⟨hi, h⟩
  · rw [List.drop_length, mergeB_nil, mergeB_nil]
  · rw [List.drop_eq_getElem_cons hi, mergeB_ge h]
/-- What the closure does: the next float, and where it stands then. -/
def NextP (le lf : List Nat) (bi bk base i k : Nat) (w : World) (x : Ending) (w' : World) : Prop :=
  ∃ (y i' k' : Nat), x = .returned (.float .f64 y) ∧ i' ≤ le.length ∧ k' ≤ lf.length ∧ i' + k' = i + k + 1 ∧ Hid (mergeB (le.drop i) (lf.drop k) = y :: mergeB (le.drop i') (lf.drop k')) ∧
    w'.heap[bi]? = some (.cells #[.int .i64 i'] 3 (0, 0)) ∧ w'.heap[bk]? = some (.cells #[.int .i64 k'] 3 (0, 0)) ∧ (∀ b, b ≠ bi → b ≠ bk → w'.heap[b]? = w.heap[b]?) ∧ w'.heap.size = w.heap.size ∧ Below base w w'
theorem one_facts {w : World} {b : Nat} {T : TypeId} {c : Value} (h : w.heap[b]? = some (.cells #[c] T (0, 0))) : w.cell? ⟨b, 0, none⟩ = some c ∧ w.frozen? ⟨b, 0, none⟩ = false ∧ b < w.heap.size :=
  ⟨cell_of_block h 0, frozen_of_block h 0, block_lt h⟩
theorem one_put {w : World} {b : Nat} {T : TypeId} {c : Value} (h : w.heap[b]? = some (.cells #[c] T (0, 0))) (u : Value) : (w.setCell ⟨b, 0, none⟩ u).heap[b]? = some (.cells #[u] T (0, 0)) := by
  simpa using setCell_block h 0 u
theorem one_off {w : World} {b c : Nat} (u : Value) (h : c ≠ b) : (w.setCell ⟨b, 0, none⟩ u).heap[c]? = w.heap[c]? := Below.heap_setCell w ⟨b, 0, none⟩ u c h
theorem abs_lt {x y : Nat} (hx : rung x < inf) (hy : rung y < inf) : (FloatKind.f64.format.order (rung x) (rung y) == some .lt) = decide (rung x < rung y) := by
  rw [ord_r (by omega) (by omega)]
  rcases Nat.lt_trichotomy (rung x) (rung y) with h | h | h
  · rw [Nat.compare_eq_lt.2 h, decide_eq_true h]; rfl
  · rw [Nat.compare_eq_eq.2 h, decide_eq_false (by omega)]; rfl
  · rw [Nat.compare_eq_gt.2 h, decide_eq_false (by omega)]; rfl
theorem next_endE {w : World} {le lf : List Nat} {bi bk base i k y : Nat} (nq : Nat) (hi : w.heap[bi]? = some (.cells #[.int .i64 i] 3 (0, 0))) (hk : w.heap[bk]? = some (.cells #[.int .i64 k] 3 (0, 0))) (hbi : base ≤ bi) (hne : bi ≠ bk)
    (hi1 : i < le.length) (hk1 : k ≤ lf.length) (hm : mergeB (le.drop i) (lf.drop k) = y :: mergeB (le.drop (i + 1)) (lf.drop k)) :
    NextP le lf bi bk base i k w (.returned (.float .f64 y)) ((w.drewN nq).setCell ⟨bi, 0, none⟩ (.int .i64 ((i : Int) + 1))) :=
  ⟨y, i + 1, k, rfl, hi1, hk1, by omega, hm, one_put (w := w.drewN nq) hi _, (one_off (w := w.drewN nq) _ (Ne.symm hne)).trans hk, fun b h1 h2 => one_off (w := w.drewN nq) _ h1, by simp, (below_drewN (Below.refl _ _) nq).setCell (p := ⟨bi, 0, none⟩) hbi _⟩
theorem next_endF {w : World} {le lf : List Nat} {bi bk base i k y : Nat} (nq : Nat) (hi : w.heap[bi]? = some (.cells #[.int .i64 i] 3 (0, 0))) (hk : w.heap[bk]? = some (.cells #[.int .i64 k] 3 (0, 0))) (hbk : base ≤ bk) (hne : bi ≠ bk)
    (hi1 : i ≤ le.length) (hk1 : k < lf.length) (hm : mergeB (le.drop i) (lf.drop k) = y :: mergeB (le.drop i) (lf.drop (k + 1))) :
    NextP le lf bi bk base i k w (.returned (.float .f64 y)) ((w.drewN nq).setCell ⟨bk, 0, none⟩ (.int .i64 ((k : Int) + 1))) :=
  ⟨y, i, k + 1, rfl, hi1, hk1, by omega, hm, (one_off (w := w.drewN nq) _ hne).trans hi, one_put (w := w.drewN nq) hk _, fun b h1 h2 => one_off (w := w.drewN nq) _ h2, by simp, (below_drewN (Below.refl _ _) nq).setCell (p := ⟨bk, 0, none⟩) hbk _⟩
set_option maxRecDepth 100000 in
set_option maxHeartbeats 1000000 in
theorem enext_calls {w : World} {le lf : List Nat} {p q : Option Addr} {ce cf be bf bi bk base i k : Nat}
    (he : w.heap[be]? = some (.cells #[.slice p le.length ce] 55 (0, 0))) (hf : w.heap[bf]? = some (.cells #[.slice q lf.length cf] 55 (0, 0)))
    (hi : w.heap[bi]? = some (.cells #[.int .i64 i] 3 (0, 0))) (hk : w.heap[bk]? = some (.cells #[.int .i64 k] 3 (0, 0)))
    (hse : Sl w (.slice p le.length ce) (fvs le)) (hsf : Sl w (.slice q lf.length cf) (fvs lf)) (hle : ∀ x ∈ le, Fl x) (hlf : ∀ x ∈ lf, Fl x)
    (hIe : In (fun b => b < base) (.slice p le.length ce)) (hIf : In (fun b => b < base) (.slice q lf.length cf)) (hbi : base ≤ bi) (hbk : base ≤ bk) (hne : bi ≠ bk) (hei : be ≠ bi) (hek : be ≠ bk) (hfi : bf ≠ bi) (hfk : bf ≠ bk)
    (hi1 : i ≤ le.length) (hk1 : k ≤ lf.length) (hik : i + k < le.length + lf.length) (hn1 : le.length ≤ 1000000) (hn2 : lf.length ≤ 1000000) :
    Calls Tryd.prog 73 #[.pointer (some ⟨bk, 0, none⟩), .pointer (some ⟨bf, 0, none⟩), .pointer (some ⟨bi, 0, none⟩), .pointer (some ⟨be, 0, none⟩)] w (NextP le lf bi bk base i k w) := by
  obtain ⟨e1, e2, e3⟩ := one_facts he
  obtain ⟨f1, f2, f3⟩ := one_facts hf
  obtain ⟨i1, i2, i3⟩ := one_facts hi
  obtain ⟨k1, k2, k3⟩ := one_facts hk
  have takeE : ∀ (hlt : i < le.length) (b o : Nat), p = some ⟨b, o, none⟩ → b ≠ bi ∧ b ≠ bk := by
    rintro - b o rfl
    have := hIe.of
    exact ⟨by simp at this; omega, by simp at this; omega⟩
  have takeF : ∀ (b o : Nat), q = some ⟨b, o, none⟩ → b ≠ bi ∧ b ≠ bk := by
    rintro b o rfl
    have := hIf.of
    exact ⟨by simp at this; omega, by simp at this; omega⟩
  rcases Nat.lt_or_ge k lf.length with hkl | hkl
  · rcases Nat.lt_or_ge i le.length with hil | hil
    · obtain ⟨bb, oo, rfl, hcell⟩ := sl_atf hse hil
      obtain ⟨ne1, ne2⟩ := takeE hil bb oo rfl
      obtain ⟨bc, oc, rfl, hcelf⟩ := sl_atf hsf hkl
      obtain ⟨ne3, ne4⟩ := takeF bc oc rfl
      have hxe := hle _ (List.getElem_mem hil)
      have hxf := hlf _ (List.getElem_mem hkl)
      have ho := abs_lt hxe.2 hxf.2
      have t1 : ((k : Int) == lf.length) = false := by rw [beq_eq_false_iff_ne]; omega
      have t2 : decide ((i : Int) < le.length) = true := decide_eq_true (by omega)
      have a1 : (i : Int) + 1 - 1 = i := by omega
      have a2 : (0 : Int) ≤ i := by omega
      have a3 : (i : Int) < le.length := by omega
      have b1 : (k : Int) + 1 - 1 = k := by omega
      have b2 : (0 : Int) ≤ k := by omega
      have b3 : (k : Int) < lf.length := by omega
      by_cases hlt : rung le[i] < rung lf[k]
      · have hm := Lib.hid (merge_e hil (Or.inr ⟨hkl, hlt⟩) hk1)
        rw [decide_eq_true hlt] at ho
        obtain ⟨y, hy⟩ : ∃ y, y = le[i] := ⟨_, rfl⟩
        obtain ⟨z, hz⟩ : ∃ z, z = lf[k] := ⟨_, rfl⟩
        rw [← hy] at hcell hm hxe ho
        rw [← hz] at hcelf hxf ho
        obtain ⟨ry, hry⟩ : ∃ r, r = rung y := ⟨_, rfl⟩
        obtain ⟨rz, hrz⟩ : ∃ r, r = rung z := ⟨_, rfl⟩
        have HAy := Lib.hid (fun w => (abs_at y ry hxe.1 hry w).mono fun _ _ h => (⟨h.1, h.2.symm⟩ : _ ∧ _))
        have HAz := Lib.hid (fun w => (abs_at z rz hxf.1 hrz w).mono fun _ _ h => (⟨h.1, h.2.symm⟩ : _ ∧ _))
        rw [← hry, ← hrz] at ho
        clear takeE takeF hy hz hle hlf hlt hxe hxf hry hrz
        go_enter Tryd.func73, Tryd.ntmps73
        go_wp2_with fail
        go_quiet ((go_at_call 25; (first | exact Calls.quiet_of_same (HAy.out _) | exact Calls.quiet_of_same (HAz.out _))))
        go_wp2_with fail
        go_ret
        exact next_endE nq hi hk hbi hne hil hk1 hm.out
      · have hm := Lib.hid (merge_f hkl (Or.inr ⟨hil, hlt⟩))
        rw [decide_eq_false hlt] at ho
        obtain ⟨y, hy⟩ : ∃ y, y = le[i] := ⟨_, rfl⟩
        obtain ⟨z, hz⟩ : ∃ z, z = lf[k] := ⟨_, rfl⟩
        rw [← hy] at hcell hxe ho
        rw [← hz] at hcelf hxf ho hm
        obtain ⟨ry, hry⟩ : ∃ r, r = rung y := ⟨_, rfl⟩
        obtain ⟨rz, hrz⟩ : ∃ r, r = rung z := ⟨_, rfl⟩
        have HAy := Lib.hid (fun w => (abs_at y ry hxe.1 hry w).mono fun _ _ h => (⟨h.1, h.2.symm⟩ : _ ∧ _))
        have HAz := Lib.hid (fun w => (abs_at z rz hxf.1 hrz w).mono fun _ _ h => (⟨h.1, h.2.symm⟩ : _ ∧ _))
        rw [← hry, ← hrz] at ho
        clear takeE takeF hy hz hle hlf hlt hxe hxf hry hrz
        go_enter Tryd.func73, Tryd.ntmps73
        go_wp2_with fail
        go_quiet ((go_at_call 25; (first | exact Calls.quiet_of_same (HAy.out _) | exact Calls.quiet_of_same (HAz.out _))))
        go_wp2_with fail
        go_ret
        exact next_endF nq hi hk hbk hne hi1 hkl hm.out
    · obtain rfl : i = le.length := by omega
      obtain ⟨bc, oc, rfl, hcelf⟩ := sl_atf hsf hkl
      obtain ⟨ne3, ne4⟩ := takeF bc oc rfl
      have hm := Lib.hid (merge_f hkl (Or.inl rfl : le.length = le.length ∨ _))
      obtain ⟨z, hz⟩ : ∃ z, z = lf[k] := ⟨_, rfl⟩
      rw [← hz] at hcelf hm
      have t1 : ((k : Int) == lf.length) = false := by rw [beq_eq_false_iff_ne]; omega
      have t2 : decide ((le.length : Int) < le.length) = false := decide_eq_false (by omega)
      have b1 : (k : Int) + 1 - 1 = k := by omega
      have b2 : (0 : Int) ≤ k := by omega
      have b3 : (k : Int) < lf.length := by omega
      clear takeE takeF hz hle hlf
      go_enter Tryd.func73, Tryd.ntmps73
      go_wp2_with fail
      go_quiet (fail)
      go_wp2_with fail
      go_ret
      exact next_endF nq hi hk hbk hne hi1 hkl hm.out
  · obtain rfl : k = lf.length := by omega
    have hil : i < le.length := by omega
    obtain ⟨bb, oo, rfl, hcell⟩ := sl_atf hse hil
    obtain ⟨ne1, ne2⟩ := takeE hil bb oo rfl
    have hm := Lib.hid (merge_e hil (Or.inl rfl : lf.length = lf.length ∨ _) hk1)
    obtain ⟨y, hy⟩ : ∃ y, y = le[i] := ⟨_, rfl⟩
    rw [← hy] at hcell hm
    have t1 : ((lf.length : Int) == lf.length) = true := by simp
    have a1 : (i : Int) + 1 - 1 = i := by omega
    have a2 : (0 : Int) ≤ i := by omega
    have a3 : (i : Int) < le.length := by omega
    clear takeE takeF hy hle hlf
    go_enter Tryd.func73, Tryd.ntmps73
    go_wp2_with fail
    go_quiet (fail)
    go_wp2_with fail
    go_ret
    exact next_endE nq hi hk hbi hne hil hk1 hm.out
end Go.Proofs.YtiihokgjplpceaaDoor
