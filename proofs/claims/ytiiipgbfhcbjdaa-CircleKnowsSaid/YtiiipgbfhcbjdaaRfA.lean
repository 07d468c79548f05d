/- The document's answer of layer 5, walked: differences, products across. -/
import Derived.Test.YtiiipgbfhcbjdaaAbN
import Derived.Test.YtiiipgbfhcbjdaaLoN
namespace Go.Proofs.Ytiiipgbfhcbjdaa
open Go.RowKit TV
set_option linter.unusedVariables false

theorem NumV.form {P : Nat → Prop} {w : World} {v : Value} {k : Nat} {q : Rat} (h : NumV P w v k q) : ∃ s p n c e, v = .agg #[.int .i64 s, .slice p n c, .int .i64 e] ∧ s = rs q := by
  obtain ⟨s, sl, ds, e, rfl, hs, hn, hq, -⟩ := h
  obtain ⟨p, c, rfl⟩ := hs.formMap
  exact ⟨s, p, _, c, e, rfl, by rw [hq, rs_nv hn]⟩
theorem NumV.into {P : Nat → Prop} {w : World} {s e : Int} {sl : Value} {k : Nat} {q : Rat} (h : NumV P w (.agg #[.int .i64 s, sl, .int .i64 e]) k q) {b : Nat} (hb : ∀ j, P j → j ≠ b) (u0 u1 u2 : Value) :
    NumV P (((w.setCell ⟨b, 0, none⟩ u0).setCell ⟨b, 1, none⟩ u1).setCell ⟨b, 2, none⟩ u2) (.agg #[.int .i64 s, sl, .int .i64 e]) k q := by
  obtain ⟨s', sl', ds, e', hv, hs, hn, hq, hP⟩ := h
  simp only [Value.agg.injEq, Array.mk.injEq, List.cons.injEq, Value.int.injEq, true_and, and_true] at hv
  obtain ⟨rfl, rfl, rfl⟩ := hv
  have hb' : In (fun j => j ≠ b) sl := hP.mono hb
  exact ⟨_, _, ds, _, rfl, ((hs.put hb' (by simp) _).put hb' (by simp) _).put hb' (by simp) _, hn, hq, hP⟩
theorem NumV.t {P : Nat → Prop} {w : World} {v : Value} {k : Nat} {q : Rat} (h : NumV P w v k q) : NumT w v k q := h.mono fun _ _ => trivial

theorem lessN (x y : Nat) (hx : x < 18446744073709551616) (hy : y < 18446744073709551616) (w : World) :
    Calls Try.prog 12 #[.float .f64 x, .float .f64 y] w (RetN (fun _ => False) 2001 (ov x - ov y) w) := by
  have HR : Hid ((w.alloc (.cells #[.int .i64 0, .slice none 0 0, .int .i64 0] 34)).heap[w.heap.size]? = some (.cells #[.int .i64 0, .slice none 0 0, .int .i64 0] 34 (0, 0))) := heap_alloc_new _ _
  have HW : Hid (Below w.heap.size w (w.alloc (.cells #[.int .i64 0, .slice none 0 0, .int .i64 0] 34))) := (Below.refl w.heap.size w).alloc (Nat.le_refl _) _
  go_enter Try.func12, Try.ntmps12
  go_wp2_with fail
  refine (ofN x hx _).mono ?_
  rintro e w1 ⟨v1, rfl, n1, hb1⟩
  have hw1 := HW.out.trans (hb1.mono HW.out.size)
  have hr1 := Lib.hid (keep_block hb1 HR.out)
  have m1 : NumV (fun j => w.heap.size < j) w1 v1 2000 (ov x) := n1.mono fun j hj => by
    rcases hj with h | h
    · exact h.elim
    · simp at h; omega
  obtain ⟨s1, p1, l1, c1, e1, rfl, -⟩ := n1.form
  have M1 := Lib.hid m1
  clear n1 m1
  go_wp2_with fail
  refine (ofN y hy _).mono ?_
  rintro e w2 ⟨v2, rfl, n2, hb2⟩
  have hw2 := hw1.trans (hb2.mono hw1.size)
  have hr2 := Lib.hid (keep_block hb2 hr1.out)
  have hlt1 := block_lt hr1.out
  have m2 : NumV (fun j => w.heap.size < j) w2 v2 2000 (ov y) := n2.mono fun j hj => by
    rcases hj with h | h
    · exact h.elim
    · omega
  obtain ⟨s2, p2, l2, c2, e2, rfl, -⟩ := n2.form
  have M2 := Lib.hid m2
  have HS := Lib.hid (subN (M1.out.keep hb2) m2 (by omega))
  clear n2 m2
  go_wp2_with fail
  refine HS.out.mono ?_
  rintro e w3 ⟨v3, rfl, n3, hb3⟩
  have hw3 := hw2.trans (hb3.mono hw2.size)
  have hr3 := keep_block hb3 hr2.out
  have hlt2 := block_lt hr2.out
  obtain ⟨s3, p3, l3, c3, e3, rfl, -⟩ := n3.form
  have N3 := Lib.hid n3
  obtain ⟨y0, y1, y2, z0, z1, z2⟩ := res_facts hr3
  obtain ⟨r0, r1, r2⟩ := put_facts hr3 (.int .i64 s3) (.slice p3 l3 c3) (.int .i64 e3)
  clear n3 HS
  go_wp2
  refine bodyPost_ret (v := .agg #[.int .i64 s3, .slice p3 l3 c3, .int .i64 e3]) (by simp [results, Try.results12, go_sem, r0, r1, r2]) rfl ?_
  refine ⟨_, rfl, (N3.out.into (fun j hj => by omega) _ _ _).mono fun j hj => Or.inr (by omega), ((hw3.setCell (by simp) _).setCell (by simp) _).setCell (by simp) _⟩

end Go.Proofs.Ytiiipgbfhcbjdaa
