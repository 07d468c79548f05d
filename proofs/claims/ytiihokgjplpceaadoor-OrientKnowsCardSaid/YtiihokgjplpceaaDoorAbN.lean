/- The magnitude of a reference number. -/
import Derived.Test.YtiihokgjplpceaaDoorRfG
namespace Go.Proofs.YtiihokgjplpceaaDoor
open Go.RowKit TV
set_option linter.unusedVariables false

/-- A number that is put into a cell of its own is still the number. -/
theorem NumT.into {w : World} {s e : Int} {sl : Value} {k : Nat} {q : Rat} (h : NumT w (.agg #[.int .i64 s, sl, .int .i64 e]) k q) {b : Nat} (hb : In (fun j => j < b) sl) (u0 u1 u2 : Value) :
    NumT (((w.setCell ⟨b, 0, none⟩ u0).setCell ⟨b, 1, none⟩ u1).setCell ⟨b, 2, none⟩ u2) (.agg #[.int .i64 s, sl, .int .i64 e]) k q := by
  obtain ⟨s', sl', ds, e', hv, hs, hn, hq, hP⟩ := h
  simp only [Value.agg.injEq, Array.mk.injEq, List.cons.injEq, Value.int.injEq, true_and, and_true] at hv
  obtain ⟨rfl, rfl, rfl⟩ := hv
  exact ⟨_, _, ds, _, rfl, ((hs.put hb (by simp) _).put hb (by simp) _).put hb (by simp) _, hn, hq, hP⟩

theorem absT {w : World} {y : Value} {k : Nat} {q : Rat} (hy : NumT w y k q) :
    Calls Tryd.prog 43 #[y] w (RetT k (if q < 0 then -q else q) w) := by
  have hy0 := hy
  obtain ⟨t, sm, b, g, rfl, ht, nb, hq, ib⟩ := hy
  have hsg := rs_nv nb
  rw [← hq] at hsg
  obtain ⟨p1, c1, rfl⟩ := ht.formMap
  have h0 : t = 0 ∨ t = 1 ∨ t = -1 := by have := nb.sgn; omega
  have hlt := ht.lt
  have hW : Below w.heap.size w ((w.alloc (.cells #[.int .i64 t, .slice p1 b.length c1, .int .i64 g] 42)).alloc (.cells #[.int .i64 0, .slice none 0 0, .int .i64 0] 42)) := ((Below.refl w.heap.size w).alloc (Nat.le_refl _) _).alloc (by simp) _
  have HR : ((w.alloc (.cells #[.int .i64 t, .slice p1 b.length c1, .int .i64 g] 42)).alloc (.cells #[.int .i64 0, .slice none 0 0, .int .i64 0] 42)).heap[w.heap.size + 1]? = some (.cells #[.int .i64 0, .slice none 0 0, .int .i64 0] 42 (0, 0)) := by
    have := heap_alloc_new (w.alloc (.cells #[.int .i64 t, .slice p1 b.length c1, .int .i64 g] 42)) (.cells #[.int .i64 0, .slice none 0 0, .int .i64 0] 42)
    simpa using this
  have HR := Lib.hid HR
  by_cases hn : q < 0
  · have h1 : t < 0 := by rw [← hsg]; unfold rs; rw [if_pos hn]; decide
    rw [if_pos hn]
    have hneg : NumT w (.agg #[.int .i64 (-t), .slice p1 b.length c1, .int .i64 g]) k (-q) := by
      refine ⟨-t, _, b, g, rfl, ht, ⟨nb.dok, by have := nb.sgn; omega, nb.lo, nb.hi⟩, ?_, ib⟩
      rw [hq]; unfold nv; rw [Int.neg_mul, Rat.intCast_neg, Rat.neg_mul]
    have HN := Lib.hid hneg
    have HW := Lib.hid hW
    have HT := Lib.hid h0
    clear hq hn hsg hneg hy0 ht nb ib h0
    go_enter Tryd.func43, Tryd.ntmps43
    go_wp2_with fail
    refine (neg_calls t g (.slice p1 b.length c1) HT.out _ ⟨_, _, _, rfl⟩).mono ?_
    rintro x w1 ⟨rfl, hb1⟩
    have hres2 := keep_block hb1 HR.out
    have hw1 : Below w.heap.size w w1 := HW.out.trans (hb1.mono HW.out.size)
    obtain ⟨y0, y1, y2, z0, z1, z2⟩ := res_facts hres2
    obtain ⟨r0, r1, r2⟩ := put_facts hres2 (.int .i64 (-t)) (.slice p1 b.length c1) (.int .i64 g)
    clear HW
    go_wp2
    refine bodyPost_ret (v := .agg #[.int .i64 (-t), .slice p1 b.length c1, .int .i64 g]) (by simp [results, Tryd.results43, go_sem, r0, r1, r2]) rfl ?_
    exact ⟨_, rfl, (HN.out.keep hw1).into (hlt.mono fun j hj => by omega) _ _ _, ((hw1.setCell (by simp) _).setCell (by simp) _).setCell (by simp) _⟩
  · have h1 : 0 ≤ t := by rw [← hsg]; unfold rs; rw [if_neg hn]; split <;> decide
    rw [if_neg hn]
    have HY := Lib.hid hy0
    clear hq hn hsg hy0 ht nb ib h0
    obtain ⟨y0, y1, y2, z0, z1, z2⟩ := res_facts HR.out
    obtain ⟨r0, r1, r2⟩ := put_facts HR.out (.int .i64 t) (.slice p1 b.length c1) (.int .i64 g)
    have HW := Lib.hid hW
    clear y0 y1 y2 z0 z1 z2 hW
    go_enter Tryd.func43, Tryd.ntmps43
    go_wp2_with fail
    refine bodyPost_ret (v := .agg #[.int .i64 t, .slice p1 b.length c1, .int .i64 g]) (by simp [results, Tryd.results43, go_sem]) rfl ?_
    refine ⟨_, rfl, HY.out.keep ?_, ?_⟩
    all_goals exact ((Below.refl w.heap.size w).alloc (Nat.le_refl _) _).alloc (by simp) _

end Go.Proofs.YtiihokgjplpceaaDoor
