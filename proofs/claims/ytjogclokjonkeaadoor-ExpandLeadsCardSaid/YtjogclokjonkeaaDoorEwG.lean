/- Package expand, walked: Neg. -/
import Derived.Test.YtjogclokjonkeaaDoorEwA
namespace Go.Proofs.YtjogclokjonkeaaDoor
open Go.RowKit TV
set_option linter.unusedVariables false

theorem own_madef {w : World} {base : Nat} {e : TypeId} {n bs : Nat} (hb : base ≤ bs) (hn : n ≤ maxLen) (h : w.heap[bs]? = some (.cells (madeCells #[.float .f64 0] n) e (0, 0))) :
    w.ownsRow base e 1 (.slice (some ⟨bs, 0, none⟩) n n) n (List.replicate n (.float .f64 0)) := by
  refine ⟨by simp, Or.inr ⟨bs, n, _, rfl, hb, h, Nat.le_refl _, hn, by rw [size_madeCells, Nat.mul_one], ?_⟩⟩
  rw [Nat.mul_one]
  have : (madeCells #[.float .f64 0] n).toList = List.replicate n (Value.float .f64 0) := by
    apply List.ext_getElem
    · simp [size_madeCells]
    · intro i h1 h2
      simp [madeCells, Nat.mod_one]
  rw [this, List.take_of_length_le (by simp)]
set_option maxRecDepth 100000 in
set_option maxHeartbeats 1000000 in
theorem neg_calls2 {w : World} {v : Value} {l : List Nat} (hs : Sl w v (fvs l)) (hl : ∀ x ∈ l, x < 18446744073709551616) (hn : l.length ≤ 1000000) :
    Calls Tryd.prog 25 #[v] w fun x w' => ∃ u, x = .returned u ∧ w'.ownsRow w.heap.size 34 1 u l.length (fvs (l.map fneg)) ∧ Below w.heap.size w w' := by
  obtain ⟨p, cap, rfl⟩ := hs.form
  have hll : (fvs l).length = l.length := by simp [fvs]
  rw [hll] at hs ⊢
  obtain ⟨i0, hi, hz0, hz1, hz2⟩ := info_parts info_f64
  have hmk : ∀ W, (Instr.makeSlice 22 (.int .i64 l.length) (.int .i64 l.length)).run Tryd.prog W = .ok (.slice (some ⟨W.heap.size, 0, none⟩) l.length l.length) (W.alloc (.cells (madeCells #[.float .f64 0] l.length) 34)) := fun W => by
    have := run_make (P := Tryd.prog) W 22 34 i0 (.float .f64 0) Tryd.underlying22 hi hz0 .i64 .i64 (l.length : Int) (l.length : Int) (by omega) (by omega) (by rw [hz2]; omega) (by omega)
    rw [this, hz1, show (l.length : Int).toNat = l.length by omega, Nat.mul_one]; rfl
  go_enter Tryd.func25, Tryd.ntmps25
  go_wp2_with fail
  clear hmk
  go_loopw [4, 5, 11] (fun _ _ iv wr => ∃ (k : Nat), k ≤ l.length ∧ iv = .int .i64 k ∧
      wr.ownsRow w.heap.size 34 1 (.slice (some ⟨w.heap.size, 0, none⟩) l.length l.length) l.length (fvs ((l.take k).map fneg) ++ List.replicate (l.length - k) (.float .f64 0)) ∧ Below w.heap.size w wr) (fun _ _ iv _ => l.length - (intOf iv).toNat)
  case atStart => exact ⟨0, Nat.zero_le _, rfl, own_madef (Nat.le_refl _) (by unfold maxLen; omega) (heap_alloc_new _ _), (Below.refl _ _).alloc (Nat.le_refl _) _⟩
  case round =>
    obtain ⟨k, hk, rfl, hown, hB⟩ := hrel
    obtain ⟨wz, rfl⟩ : ∃ z : World, z = wr := ⟨_, rfl⟩
    by_cases hlt : k < l.length
    · obtain ⟨bb, oo, rfl, hcell⟩ := sl_atf (hs.keep hB) hlt
      have hxs : (fvs ((l.take k).map fneg) ++ List.replicate (l.length - k) (Value.float .f64 0)).length = l.length := by simp [fvs]; omega
      obtain ⟨xs, hx⟩ : ∃ xs, xs = fvs ((l.take k).map fneg) ++ List.replicate (l.length - k) (Value.float .f64 0) := ⟨_, rfl⟩
      rw [← hx] at hown hxs
      obtain ⟨hc1, hc2⟩ := own_cell hown (i := k) (by omega)
      have hset := own_set hown k (.float .f64 (fneg l[k]))
      have HX := Lib.hid hx
      obtain ⟨x, hxx⟩ : ∃ x, x = l[k] := ⟨_, rfl⟩
      rw [← hxx] at hcell hset
      have HXX := Lib.hid hxx
      obtain ⟨old, ho⟩ : ∃ u, u = xs[k] := ⟨_, rfl⟩
      rw [← ho] at hc1
      clear hx hxx ho
      have hbs := hB.size
      go_wp2_with fail
      go_roundw
      case rel =>
        have e : xs.set k (.float .f64 (fneg x)) = fvs ((l.take (k + 1)).map fneg) ++ List.replicate (l.length - (k + 1)) (Value.float .f64 0) := by
          rw [HX.out, show l.length - k = l.length - (k + 1) + 1 by omega, List.take_succ_eq_append_getElem hlt, ← HXX.out]
          have hA : (List.map (Value.float .f64) (List.map fneg (List.take k l))).length = k := by simp; omega
          simp only [fvs, List.map_append, List.map_cons, List.map_nil]
          generalize List.map (Value.float .f64) (List.map fneg (List.take k l)) = A at *
          rw [List.set_append_right _ _ (by omega), hA, Nat.sub_self, List.replicate_succ, List.set_cons_zero, List.append_assoc]; rfl
        exact ⟨k + 1, by omega, by go_num, by rw [← e]; exact hset, hB.setCell (Nat.le_refl _) _⟩
      case measure => simp [intOf]; omega
    · obtain rfl : k = l.length := by omega
      go_wp2_with fail
      go_ret
      refine ⟨_, rfl, ?_, hB⟩
      simpa [fvs] using hown
end Go.Proofs.YtjogclokjonkeaaDoor
