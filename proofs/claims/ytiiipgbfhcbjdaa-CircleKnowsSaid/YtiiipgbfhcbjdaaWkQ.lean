/- The reference's numbers by what they tell: differences, which is greater, magnitudes. -/
import Derived.Test.YtiiipgbfhcbjdaaWkP
import Derived.RegionTactic
import Derived.RegionCalls
import Derived.ChangeAlike
namespace Go.Proofs.Ytiiipgbfhcbjdaa
open Go.RowKit TV
set_option linter.unusedVariables false

theorem NumV.lt {P : Nat → Prop} {w : World} {v : Value} {k : Nat} {q : Rat} (h : NumV P w v k q) : NumV (fun b => P b ∧ b < w.heap.size) w v k q := by
  obtain ⟨s, sl, ds, e, h1, h2, h3, h4, h5⟩ := h; exact ⟨s, sl, ds, e, h1, h2, h3, h4, fun a n c he => ⟨h5 a n c he, h2.lt a n c he⟩⟩

theorem negN {P : Nat → Prop} {w : World} {y : Value} {k : Nat} {q : Rat} (hy : NumV P w y k q) :
    Calls Try.prog 28 #[y] w (RetN P k (-q) w) := by
  obtain ⟨t, sm, b, g, rfl, ht, nb, rfl, ib⟩ := hy
  have h0 : t = 0 ∨ t = 1 ∨ t = -1 := by have := nb.sgn; omega
  refine (neg_calls t g sm h0 w (by obtain ⟨p, c, h⟩ := ht.formMap; exact ⟨p, _, c, h⟩)).mono fun x w' ⟨hx, hb⟩ => ?_
  refine ⟨_, hx, ⟨-t, sm, b, g, rfl, ht.keep hb, ⟨nb.dok, by have := nb.sgn; omega, nb.lo, nb.hi⟩, ?_, ib.mono fun _ h => Or.inl h⟩, hb⟩
  unfold nv; rw [Int.neg_mul, Rat.intCast_neg, Rat.neg_mul]

set_option maxRecDepth 100000 in
theorem subN {P : Nat → Prop} {w : World} {x y : Value} {k : Nat} {p q : Rat} (hx : NumV P w x k p) (hy : NumV P w y k q) (hk : k ≤ 900000000) :
    Calls Try.prog 16 #[x, y] w (RetN P (k + 1) (p - q) w) := by
  have hx0 := hx
  have hy0 := hy
  obtain ⟨s, sl, a, e, rfl, hs, na, hp, ia⟩ := hx
  obtain ⟨t, sm, b, g, rfl, ht, nb, hq, ib⟩ := hy
  obtain ⟨p1, c1, rfl⟩ := hs.formMap
  obtain ⟨p2, c2, rfl⟩ := ht.formMap
  have hW : Below w.heap.size w (((w.alloc (.cells #[.int .i64 s, .slice p1 a.length c1, .int .i64 e] 34)).alloc (.cells #[.int .i64 t, .slice p2 b.length c2, .int .i64 g] 34)).alloc (.cells #[.int .i64 0, .slice none 0 0, .int .i64 0] 34)) := (((Below.refl w.heap.size w).alloc (Nat.le_refl _) _).alloc (by simp) _).alloc (by simp; omega) _
  have h0 : t = 0 ∨ t = 1 ∨ t = -1 := by have := nb.sgn; omega
  have HX := Lib.hid hx0
  have HY := Lib.hid hy0
  have HT := Lib.hid h0
  clear hx0 hy0 h0
  have hneg : NumV P w (.agg #[.int .i64 (-t), .slice p2 b.length c2, .int .i64 g]) k (-q) := by
    refine ⟨-t, _, b, g, rfl, ht, ⟨nb.dok, by have := nb.sgn; omega, nb.lo, nb.hi⟩, ?_, ib⟩
    rw [hq]; unfold nv; rw [Int.neg_mul, Rat.intCast_neg, Rat.neg_mul]
  have HA := Lib.hid (fun (W : World) (hw : Below w.heap.size w W) => addN (HX.out.lt.keep hw) (hneg.lt.keep hw) hk)
  clear hneg hp hq
  have HR : Hid ((((w.alloc (.cells #[.int .i64 s, .slice p1 a.length c1, .int .i64 e] 34)).alloc (.cells #[.int .i64 t, .slice p2 b.length c2, .int .i64 g] 34)).alloc (.cells #[.int .i64 0, .slice none 0 0, .int .i64 0] 34)).heap[w.heap.size + 1 + 1]? = some (.cells #[.int .i64 0, .slice none 0 0, .int .i64 0] 34 (0, 0))) := by
    have := heap_alloc_new ((w.alloc (.cells #[.int .i64 s, .slice p1 a.length c1, .int .i64 e] 34)).alloc (.cells #[.int .i64 t, .slice p2 b.length c2, .int .i64 g] 34)) (.cells #[.int .i64 0, .slice none 0 0, .int .i64 0] 34)
    show _ = _
    simpa using this
  go_enter Try.func16, Try.ntmps16
  go_wp2_with fail
  go_region_with (first
    | (go_at_call 28; refine (neg_calls t g (.slice p2 b.length c2) HT.out _ ⟨_, _, _, rfl⟩).mono ?_; rintro x w1 ⟨rfl, hb1⟩; obtain ⟨hcl, hfl⟩ := bcell hb1)
    | (go_at_call 13; have hw1 : Below w.heap.size w w1 := (hW.drew).trans (hb1.mono (by simp; omega)); refine (HA.out w1 hw1).mono ?_; rintro x w2 ⟨v, rfl, ⟨s', sl', ds', e', rfl, hsl', hn', hq', hin'⟩, hb2⟩
       have HQ := Lib.hid hq'; have HN := Lib.hid hn'; clear hq' hn'; obtain ⟨p', cap', rfl⟩ := hsl'.formMap; have hres2 := keep_block hb2 (keep_block hb1 HR.out); obtain ⟨y0, y1, y2, z0, z1, z2⟩ := res_facts hres2))
  all_goals (
    obtain ⟨r0, r1, r2⟩ := put_facts hres2 (.int .i64 s') (.slice p' ds'.length cap') (.int .i64 e')
    go_wp2
    refine bodyPost_ret (v := .agg #[.int .i64 s', .slice p' ds'.length cap', .int .i64 e']) (by simp [results, Try.results16, go_sem, r0, r1, r2]) rfl ?_
    have hlt : w.heap.size + 2 < w1.heap.size := by have := block_lt (keep_block hb1 HR.out); omega
    refine ⟨_, rfl, ⟨s', _, ds', e', rfl, ?_, HN.out, by rw [← HQ.out, Rat.sub_eq_add_neg], hin'.mono ?_⟩, ?_⟩
    · exact ((hsl'.put hin' (by simp; omega) _).put hin' (by simp; omega) _).put hin' (by simp; omega) _
    · intro j hj; rcases hj with hj | hj
      · exact Or.inl hj.1
      · right; have := hw1.size; omega
    · exact (((hw1.trans (hb2.mono hw1.size)).setCell (by simp; omega) _).setCell (by simp; omega) _).setCell (by simp; omega) _)

theorem rs_nv {s : Int} {ds : List Int} {e : Int} {k : Nat} (h : Nm s ds e k) : rs (nv s ds e) = s := by
  have hp := two_zpow_pos (24 * e)
  unfold rs nv
  rcases h.sgn with ⟨rfl, h0⟩ | ⟨h1 | h1, h0⟩
  · simp
  · subst h1
    have : (0 : Rat) < ((1 * dval ds : Int) : Rat) := by exact_mod_cast (by omega)
    have := Rat.mul_pos this hp
    rw [if_neg (by grind), if_neg (by grind)]
  · subst h1
    have : (0 : Rat) < ((dval ds : Int) : Rat) := by exact_mod_cast h0
    have := Rat.mul_pos this hp
    rw [if_pos (by rw [show (-1 * dval ds : Int) = -(dval ds) by omega, Rat.intCast_neg]; grind)]

theorem cmpN {P : Nat → Prop} {w : World} {x y : Value} {k : Nat} {p q : Rat} (hx : NumV P w x k p) (hy : NumV P w y k q) (hk : k ≤ 900000000) :
    Calls Try.prog 21 #[x, y] w fun r w' => r = .returned (.int .i64 (rs (p - q))) ∧ Below w.heap.size w w' := by
  have HX := Lib.hid hx
  have HY := Lib.hid hy
  obtain ⟨s, sl, a, e, rfl, hs, -⟩ := hx
  obtain ⟨t, sm, b, g, rfl, ht, -⟩ := hy
  obtain ⟨p1, c1, rfl⟩ := hs.formMap
  obtain ⟨p2, c2, rfl⟩ := ht.formMap
  have hW : Below w.heap.size w ((w.alloc (.cells #[.int .i64 s, .slice p1 a.length c1, .int .i64 e] 34)).alloc (.cells #[.int .i64 t, .slice p2 b.length c2, .int .i64 g] 34)) := (((Below.refl w.heap.size w).alloc (Nat.le_refl _) _).alloc (by simp) _)
  have HA := Lib.hid (fun (W : World) (hw : Below w.heap.size w W) => subN (HX.out.keep hw) (HY.out.keep hw) hk)
  go_enter Try.func21, Try.ntmps21
  go_wp2_with fail
  refine (HA.out _ hW).mono ?_
  rintro x w2 ⟨v, rfl, ⟨s', sl', ds', e', rfl, hsl', hn', hq', hin'⟩, hb2⟩
  obtain ⟨p', cap', rfl⟩ := hsl'.formMap
  have HQ := Lib.hid hq'
  have HN := Lib.hid hn'
  clear hq' hn'
  have hfld : ∀ W, (Instr.field 34 (.agg #[.int .i64 s', .slice p' ds'.length cap', .int .i64 e']) 0).run Try.prog W = .ok (.int .i64 s') W := fun _ => by kernel_rfl
  go_wp2
  go_ret
  exact ⟨ret_i64 (by rw [HQ.out, rs_nv HN.out]), hW.trans (hb2.mono (by simp; omega))⟩
end Go.Proofs.Ytiiipgbfhcbjdaa
