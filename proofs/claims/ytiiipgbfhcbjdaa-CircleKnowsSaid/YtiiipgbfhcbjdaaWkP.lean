/- The reference's numbers by what they tell: sums, differences, which is greater. -/
import Derived.Test.YtiiipgbfhcbjdaaWkO
namespace Go.Proofs.Ytiiipgbfhcbjdaa
open Go.RowKit TV
set_option linter.unusedVariables false

/-- A value of the reference's numbers, all its digits among the places -k to k, that tells q. -/
def NumV (P : Nat → Prop) (w : World) (v : Value) (k : Nat) (q : Rat) : Prop :=
  ∃ s sl ds e, v = .agg #[.int .i64 s, sl, .int .i64 e] ∧ Sl w sl (ds.map (Value.int .i64)) ∧ Nm s ds e k ∧ q = nv s ds e ∧ In P sl

def RetN (P : Nat → Prop) (k : Nat) (q : Rat) (w : World) (x : Ending) (w' : World) : Prop := ∃ v, x = .returned v ∧ NumV (fun b => P b ∨ w.heap.size ≤ b) w' v k q ∧ Below w.heap.size w w'

theorem NumV.keep {P : Nat → Prop} {w w1 : World} {v : Value} {k : Nat} {q : Rat} (h : NumV P w v k q) (hb : Below w.heap.size w w1) : NumV P w1 v k q := by
  obtain ⟨s, sl, ds, e, h1, h2, h3, h4⟩ := h; exact ⟨s, sl, ds, e, h1, h2.keep hb, h3, h4⟩
theorem NumV.more {P : Nat → Prop} {w : World} {v : Value} {k k' : Nat} {q : Rat} (h : NumV P w v k q) (hk : k ≤ k') : NumV P w v k' q := by
  obtain ⟨s, sl, ds, e, h1, h2, ⟨a1, a2, a3, a4⟩, h4⟩ := h; exact ⟨s, sl, ds, e, h1, h2, ⟨a1, a2, by omega, by omega⟩, h4⟩
theorem NumV.mono {P Q : Nat → Prop} {w : World} {v : Value} {k : Nat} {q : Rat} (h : NumV P w v k q) (hPQ : ∀ b, P b → Q b) : NumV Q w v k q := by
  obtain ⟨s, sl, ds, e, h1, h2, h3, h4, h5⟩ := h; exact ⟨s, sl, ds, e, h1, h2, h3, h4, h5.mono hPQ⟩

theorem zero_nv {ds : List Int} {e : Int} : nv 0 ds e = 0 := by unfold nv; simp

theorem add_zero_left (e : Int) (p : Option Addr) (n cap : Nat) (t g : Int) (p2 : Option Addr) (n2 cap2 : Nat) (w : World) :
    Calls Try.prog 13 #[.agg #[.int .i64 0, .slice p n cap, .int .i64 e], .agg #[.int .i64 t, .slice p2 n2 cap2, .int .i64 g]] w fun x w' => x = .returned (.agg #[.int .i64 t, .slice p2 n2 cap2, .int .i64 g]) ∧ Below w.heap.size w w' := by
  go_enter Try.func13, Try.ntmps13
  go_wp2
  refine bodyPost_ret (v := .agg #[.int .i64 t, .slice p2 n2 cap2, .int .i64 g]) (by simp [results, Try.results13, go_sem]) rfl ?_
  exact ⟨rfl, (((Below.refl _ _).alloc (Nat.le_refl _) _).alloc (by simp) _).alloc (by simp; omega) _⟩

theorem add_zero_right (s e : Int) (hs : ¬ s = 0) (p : Option Addr) (n cap : Nat) (g : Int) (p2 : Option Addr) (n2 cap2 : Nat) (w : World) :
    Calls Try.prog 13 #[.agg #[.int .i64 s, .slice p n cap, .int .i64 e], .agg #[.int .i64 0, .slice p2 n2 cap2, .int .i64 g]] w fun x w' => x = .returned (.agg #[.int .i64 s, .slice p n cap, .int .i64 e]) ∧ Below w.heap.size w w' := by
  have h1 : (s == 0) = false := by simpa using hs
  go_enter Try.func13, Try.ntmps13
  go_wp2
  refine bodyPost_ret (v := .agg #[.int .i64 s, .slice p n cap, .int .i64 e]) (by simp [results, Try.results13, go_sem]) rfl ?_
  exact ⟨rfl, (((Below.refl _ _).alloc (Nat.le_refl _) _).alloc (by simp) _).alloc (by simp; omega) _⟩

theorem sg_neg {n : Int} : sg (-n) = - sg n := by unfold sg; split <;> split <;> (try split) <;> (try split) <;> omega

set_option maxRecDepth 100000 in
theorem add_swap (s t e g : Int) (sl sm : Value) (a b : List Int) (w : World) (hs : Sl w sl (a.map (Value.int .i64))) (ht : Sl w sm (b.map (Value.int .i64)))
    (ha : Dok a) (hb : Dok b) (he : -1000000000 ≤ e) (he2 : e + a.length ≤ 1000000000) (hg : -1000000000 ≤ g) (hg2 : g + b.length ≤ 1000000000) (hs1 : s = 1 ∨ s = -1) (ht1 : t = 1 ∨ t = -1)
    (hst : s ≠ t) (hsg : sg (V a e (min e g) (max (e + a.length) (g + b.length) - min e g).toNat - V b g (min e g) (max (e + a.length) (g + b.length) - min e g).toNat) < 0) :
    Calls Try.prog 13 #[.agg #[.int .i64 s, sl, .int .i64 e], .agg #[.int .i64 t, sm, .int .i64 g]] w (AddPost t b a g e (-1) w) := by
  have hz := fun w0 (k1 : Sl w0 sl (a.map (Value.int .i64))) (k2 : Sl w0 sm (b.map (Value.int .i64))) => size_calls s t e g sl sm a b w0 k1 k2 ha hb he he2 hg hg2
  unfold SizePost at hz
  have hadd := fun w0 (k1 : Sl w0 sm (b.map (Value.int .i64))) (k2 : Sl w0 sl (a.map (Value.int .i64))) => add_unlike t s g e (-1) sm sl b a w0 k1 k2 hb ha hg hg2 he he2 ht1 hs1
    ⟨Ne.symm hst, rfl, by
      rw [Int.min_comm, Int.max_comm]
      have := sg_neg (n := V a e (min e g) (max (e + a.length) (g + b.length) - min e g).toNat - V b g (min e g) (max (e + a.length) (g + b.length) - min e g).toNat)
      rw [Int.neg_sub] at this
      omega⟩
  generalize sg _ = r at hz hsg
  obtain ⟨p1, c1, rfl⟩ := hs.formMap
  obtain ⟨p2, c2, rfl⟩ := ht.formMap
  have hW : Below w.heap.size w (((w.alloc (.cells #[.int .i64 s, .slice p1 a.length c1, .int .i64 e] 34)).alloc (.cells #[.int .i64 t, .slice p2 b.length c2, .int .i64 g] 34)).alloc (.cells #[.int .i64 0, .slice none 0 0, .int .i64 0] 34)) := (((Below.refl w.heap.size w).alloc (Nat.le_refl _) _).alloc (by simp) _).alloc (by simp; omega) _
  have q1 : (s == 0) = false := by simp; omega
  have q2 : ¬ s = 0 := by omega
  have q3 : (t == 0) = false := by simp; omega
  have q4 : ¬ t = 0 := by omega
  have q5 : (s == t) = false := by simpa using hst
  have q7 : (s != t) = true := by simpa using hst
  clear hs1 ht1
  have HZ := Lib.hid hz
  have HA := Lib.hid hadd
  have HT := Lib.hid hst
  clear hz hadd hst
  go_enter Try.func13, Try.ntmps13
  go_wp2_with fail
  refine (HZ.out _ (hs.keep hW) (ht.keep hW)).mono ?_
  rintro x w1 ⟨rfl, hb1⟩
  have g0 := keep_cell hb1 (show _ = some (Value.int .i64 s) by simp [go_sem] : (((w.alloc (.cells #[.int .i64 s, .slice p1 a.length c1, .int .i64 e] 34)).alloc (.cells #[.int .i64 t, .slice p2 b.length c2, .int .i64 g] 34)).alloc (.cells #[.int .i64 0, .slice none 0 0, .int .i64 0] 34)).cell? ⟨w.heap.size, 0, none⟩ = some (Value.int .i64 s))
  have g1 := keep_cell hb1 (show _ = some (Value.slice p1 a.length c1) by simp [go_sem] : (((w.alloc (.cells #[.int .i64 s, .slice p1 a.length c1, .int .i64 e] 34)).alloc (.cells #[.int .i64 t, .slice p2 b.length c2, .int .i64 g] 34)).alloc (.cells #[.int .i64 0, .slice none 0 0, .int .i64 0] 34)).cell? ⟨w.heap.size, 1, none⟩ = some (Value.slice p1 a.length c1))
  have g2 := keep_cell hb1 (show _ = some (Value.int .i64 e) by simp [go_sem] : (((w.alloc (.cells #[.int .i64 s, .slice p1 a.length c1, .int .i64 e] 34)).alloc (.cells #[.int .i64 t, .slice p2 b.length c2, .int .i64 g] 34)).alloc (.cells #[.int .i64 0, .slice none 0 0, .int .i64 0] 34)).cell? ⟨w.heap.size, 2, none⟩ = some (Value.int .i64 e))
  have g3 := keep_cell hb1 (show _ = some (Value.int .i64 t) by simp [go_sem] : (((w.alloc (.cells #[.int .i64 s, .slice p1 a.length c1, .int .i64 e] 34)).alloc (.cells #[.int .i64 t, .slice p2 b.length c2, .int .i64 g] 34)).alloc (.cells #[.int .i64 0, .slice none 0 0, .int .i64 0] 34)).cell? ⟨w.heap.size + 1, 0, none⟩ = some (Value.int .i64 t))
  have g4 := keep_cell hb1 (show _ = some (Value.slice p2 b.length c2) by simp [go_sem] : (((w.alloc (.cells #[.int .i64 s, .slice p1 a.length c1, .int .i64 e] 34)).alloc (.cells #[.int .i64 t, .slice p2 b.length c2, .int .i64 g] 34)).alloc (.cells #[.int .i64 0, .slice none 0 0, .int .i64 0] 34)).cell? ⟨w.heap.size + 1, 1, none⟩ = some (Value.slice p2 b.length c2))
  have g5 := keep_cell hb1 (show _ = some (Value.int .i64 g) by simp [go_sem] : (((w.alloc (.cells #[.int .i64 s, .slice p1 a.length c1, .int .i64 e] 34)).alloc (.cells #[.int .i64 t, .slice p2 b.length c2, .int .i64 g] 34)).alloc (.cells #[.int .i64 0, .slice none 0 0, .int .i64 0] 34)).cell? ⟨w.heap.size + 1, 2, none⟩ = some (Value.int .i64 g))
  have hres : w1.heap[w.heap.size + 2]? = some (.cells #[.int .i64 0, .slice none 0 0, .int .i64 0] 34 (0, 0)) := by
    rw [hb1.block _ (by simp)]
    have := heap_alloc_new ((w.alloc (.cells #[.int .i64 s, .slice p1 a.length c1, .int .i64 e] 34)).alloc (.cells #[.int .i64 t, .slice p2 b.length c2, .int .i64 g] 34)) (.cells #[.int .i64 0, .slice none 0 0, .int .i64 0] 34)
    simpa using this
  have hw1 : Below w.heap.size w w1 := hW.trans (hb1.mono (by simp; omega))
  have hsz : w.heap.size + 2 < w1.heap.size := block_lt hres
  go_wp2_with fail
  refine (HA.out _ (ht.keep hw1) (hs.keep hw1)).mono ?_
  rintro x w2 ⟨s', sl', ds', e', os, rfl, hsl', hb2, h1, h2, h3, h4, hin⟩
  obtain ⟨p', cap', rfl⟩ := hsl'.formMap
  have H1 := Lib.hid h1
  have H2 := Lib.hid h2
  have H3 := Lib.hid h3
  have H4 := Lib.hid h4
  clear h1 h2 h3 h4
  have hres2 : w2.heap[w.heap.size + 2]? = some (.cells #[.int .i64 0, .slice none 0 0, .int .i64 0] 34 (0, 0)) := (hb2.block _ hsz).trans hres
  have y0 : w2.cell? ⟨w.heap.size + 1 + 1, 0, none⟩ = some (.int .i64 0) := cell_of_block hres2 0
  have y1 : w2.cell? ⟨w.heap.size + 1 + 1, 1, none⟩ = some (.slice none 0 0) := cell_of_block hres2 1
  have y2 : w2.cell? ⟨w.heap.size + 1 + 1, 2, none⟩ = some (.int .i64 0) := cell_of_block hres2 2
  have z0 : w2.frozen? ⟨w.heap.size + 1 + 1, 0, none⟩ = false := frozen_of_block hres2 0
  have z1 : w2.frozen? ⟨w.heap.size + 1 + 1, 1, none⟩ = false := frozen_of_block hres2 1
  have z2 : w2.frozen? ⟨w.heap.size + 1 + 1, 2, none⟩ = false := frozen_of_block hres2 2
  go_wp2_with fail
  have hF := setCell_block (setCell_block (setCell_block hres2 0 (.int .i64 s')) 1 (.slice p' ds'.length cap')) 2 (.int .i64 e')
  have r0 := (cell_of_block hF 0).trans (by simp : _ = some (Value.int .i64 s'))
  have r1 := (cell_of_block hF 1).trans (by simp : _ = some (Value.slice p' ds'.length cap'))
  have r2 := (cell_of_block hF 2).trans (by simp : _ = some (Value.int .i64 e'))
  refine bodyPost_ret (v := .agg #[.int .i64 s', .slice p' ds'.length cap', .int .i64 e']) (by simp [results, Try.results13, go_sem, r0, r1, r2]) rfl ?_
  refine ⟨s', _, ds', e', os, rfl, ?_, ?_, H1.out, H2.out, H3.out, H4.out, hin.mono (fun _ h => Nat.le_trans hw1.size h)⟩
  · exact ((hsl'.put hin (by simp; omega) _).put hin (by simp; omega) _).put hin (by simp; omega) _
  · exact (((hw1.trans (hb2.mono hw1.size)).setCell (by simp; omega) _).setCell (by simp; omega) _).setCell (by simp; omega) _

theorem addN {P : Nat → Prop} {w : World} {x y : Value} {k : Nat} {p q : Rat} (hx : NumV P w x k p) (hy : NumV P w y k q) (hk : k ≤ 900000000) :
    Calls Try.prog 13 #[x, y] w (RetN P (k + 1) (p + q) w) := by
  obtain ⟨s, sl, a, e, rfl, hs, na, rfl, ia⟩ := hx
  obtain ⟨t, sm, b, g, rfl, ht, nb, rfl, ib⟩ := hy
  obtain ⟨a1, a2, a3, a4⟩ := id na
  obtain ⟨b1, b2, b3, b4⟩ := id nb
  rcases a2 with ⟨rfl, a2⟩ | ⟨a2, a5⟩
  · obtain ⟨p1, c1, rfl⟩ := hs.formMap
    obtain ⟨p2, c2, rfl⟩ := ht.formMap
    refine (add_zero_left _ _ _ _ _ _ _ _ _ w).mono fun x w' ⟨hx, hb⟩ => ?_
    exact ⟨_, hx, ⟨t, _, b, g, rfl, ht.keep hb, ⟨b1, b2, by omega, by omega⟩, by rw [zero_nv, Rat.zero_add], ib.mono fun _ h => Or.inl h⟩, hb⟩
  · rcases b2 with ⟨rfl, b2⟩ | ⟨b2, b5⟩
    · obtain ⟨p1, c1, rfl⟩ := hs.formMap
      obtain ⟨p2, c2, rfl⟩ := ht.formMap
      refine (add_zero_right _ _ (by omega) _ _ _ _ _ _ _ w).mono fun x w' ⟨hx, hb⟩ => ?_
      exact ⟨_, hx, ⟨s, _, a, e, rfl, hs.keep hb, ⟨a1, Or.inr ⟨a2, a5⟩, by omega, by omega⟩, by rw [zero_nv, Rat.add_zero], ia.mono fun _ h => Or.inl h⟩, hb⟩
    · by_cases hst : s = t
      · refine (add_like s t e g 1 sl sm a b w hs ht a1 b1 (by omega) (by omega) (by omega) (by omega) a2 b2 ⟨hst, rfl⟩).mono fun x w' ⟨s', sl', ds', e', os, hx, hsl, hb, htr, hd, hl, hv, hin⟩ => ?_
        obtain ⟨n1, n2⟩ := add_nv na nb a2 (σ := 1) (by omega) rfl hl hd hv htr
        exact ⟨_, hx, ⟨s', sl', ds', e', rfl, hsl, n1, n2.symm, hin.mono fun _ h => Or.inr h⟩, hb⟩
      · by_cases hsg : 0 ≤ sg (V a e (min e g) (max (e + a.length) (g + b.length) - min e g).toNat - V b g (min e g) (max (e + a.length) (g + b.length) - min e g).toNat)
        · refine (add_unlike s t e g (-1) sl sm a b w hs ht a1 b1 (by omega) (by omega) (by omega) (by omega) a2 b2 ⟨hst, rfl, hsg⟩).mono fun x w' ⟨s', sl', ds', e', os, hx, hsl, hb, htr, hd, hl, hv, hin⟩ => ?_
          obtain ⟨n1, n2⟩ := add_nv na nb a2 (σ := -1) (by omega) rfl hl hd hv htr
          exact ⟨_, hx, ⟨s', sl', ds', e', rfl, hsl, n1, n2.symm, hin.mono fun _ h => Or.inr h⟩, hb⟩
        · refine (add_swap s t e g sl sm a b w hs ht a1 b1 (by omega) (by omega) (by omega) (by omega) a2 b2 hst (by omega)).mono fun x w' ⟨s', sl', ds', e', os, hx, hsl, hb, htr, hd, hl, hv, hin⟩ => ?_
          obtain ⟨n1, n2⟩ := add_nv nb na b2 (σ := -1) (by omega) rfl hl hd hv htr
          exact ⟨_, hx, ⟨s', sl', ds', e', rfl, hsl, n1, by rw [n2, Rat.add_comm], hin.mono fun _ h => Or.inr h⟩, hb⟩
end Go.Proofs.Ytiiipgbfhcbjdaa
