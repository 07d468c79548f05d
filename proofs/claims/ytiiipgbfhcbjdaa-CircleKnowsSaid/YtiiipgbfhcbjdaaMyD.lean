/- The document's answer: the sum of four points, walked. (Printed by gen_MyD.py.) -/
import Derived.Test.YtiiipgbfhcbjdaaMyB
import Derived.Deep.AppendLies
namespace Go.Proofs.Ytiiipgbfhcbjdaa
open Go.RowKit TV
set_option linter.unusedVariables false

theorem kp_alloc (w : World) (o : Obj) : Below w.heap.size w (w.alloc o) := (Below.refl _ _).alloc (Nat.le_refl _) _

theorem Kp.grown {w w1 w2 : World} {row : Option Nat} (h : Kp w w1) (hg : w1.grownBy w2 row) (hr : ∀ k, row = some k → w.heap.size ≤ k) : Kp w w2 := Below.grown h hg (Below.size h) hr
theorem Sl.grown {P : Nat → Prop} {w w1 : World} {v : Value} {xs : List Value} {row : Option Nat} (h : Sl w v xs) (hP : In P v) (hg : w.grownBy w1 row) (hr : ∀ b, P b → some b ≠ row) : Sl w1 v xs := by
  rcases h with h | ⟨b, o, cap, rfl, h2, h3, h4⟩
  · exact Or.inl h
  · exact Or.inr ⟨b, o, cap, rfl, h2, Nat.lt_of_lt_of_le h3 hg.size, fun i hi => by rw [hg.cell_far ⟨b, o + i, none⟩ h3 (hr b (In.of (a := ⟨b, o, none⟩) hP))]; exact h4 i hi⟩
theorem NumV.grown {P : Nat → Prop} {w w1 : World} {v : Value} {k : Nat} {q : Rat} {row : Option Nat} (h : NumV P w v k q) (hg : w.grownBy w1 row) (hr : ∀ b, P b → some b ≠ row) : NumV P w1 v k q := by
  obtain ⟨s, sl, ds, e, h1, h2, h3, h4, h5⟩ := h
  exact ⟨s, sl, ds, e, h1, h2.grown h5 hg hr, h3, h4, h5⟩
theorem add_prep {Q : Nat → Prop} {s t k : Nat} {w2 w3 : World} {x y : Value} {p q : Rat} (n2 : NumV (fun j => Q j ∨ s ≤ j) w2 x k p) (n3 : NumV (fun j => Q j ∨ t ≤ j) w3 y k q) (hb : Below w2.heap.size w2 w3) (h1 : s ≤ t) (hk : k ≤ 900000000) :
    Calls Try.prog 13 #[x, y] w3 (RetN (fun j => Q j ∨ s ≤ j) (k + 1) (p + q) w3) :=
  addN (n2.keep hb) (n3.mono (Q := fun j => Q j ∨ s ≤ j) (fun i hi => hi.imp id (Nat.le_trans h1))) hk
theorem news_at (w : World) (vs : Array Value) (T : TypeId) : ∀ (j : Nat) (u : Value), vs.toList[j]? = some u → (w.alloc (.cells vs T)).cell? ((⟨w.heap.size, 0, none⟩ : Addr).add j) = some u := World.news_of_block (heap_alloc_new w _)
theorem info_num : (Try.prog.info? 34).map (fun i => (i.zero, i.size, i.bytes)) = some (some (.agg #[.int .i64 0, .slice none 0 0, .int .i64 0]), 3, 40) := by kernel_rfl

abbrev Tup := Int × Option Addr × Nat × Nat × Int
def numV (t : Tup) : Value := .agg #[.int .i64 t.1, .slice t.2.1 t.2.2.1 t.2.2.2.1, .int .i64 t.2.2.2.2]
def numCells : List Tup → List Value
  | [] => []
  | t :: l => .int .i64 t.1 :: .slice t.2.1 t.2.2.1 t.2.2.2.1 :: .int .i64 t.2.2.2.2 :: numCells l

theorem s_of {wb w : World} {b c i0 i1 i2 j0 j1 j2 : Nat} {u0 u1 u2 v0 v1 v2 : Value} (h : Kp wb w) (x0 : wb.cell? ⟨b, i0, none⟩ = some u0) (x1 : wb.cell? ⟨b, i1, none⟩ = some u1) (x2 : wb.cell? ⟨b, i2, none⟩ = some u2)
    (y0 : wb.cell? ⟨c, j0, none⟩ = some v0) (y1 : wb.cell? ⟨c, j1, none⟩ = some v1) (y2 : wb.cell? ⟨c, j2, none⟩ = some v2) :
    w.cell? ⟨b, i0, none⟩ = some u0 ∧ w.cell? ⟨b, i1, none⟩ = some u1 ∧ w.cell? ⟨b, i2, none⟩ = some u2 ∧ w.cell? ⟨c, j0, none⟩ = some v0 ∧ w.cell? ⟨c, j1, none⟩ = some v1 ∧ w.cell? ⟨c, j2, none⟩ = some v2 ∧ Kp wb w :=
  ⟨keep_cell h.out x0, keep_cell h.out x1, keep_cell h.out x2, keep_cell h.out y0, keep_cell h.out y1, keep_cell h.out y2, h⟩

theorem numCells_snoc (l : List Tup) (t : Tup) : numCells (l ++ [t]) = numCells l ++ [.int .i64 t.1, .slice t.2.1 t.2.2.1 t.2.2.2.1, .int .i64 t.2.2.2.2] := by
  induction l with
  | nil => rfl
  | cons a l ih => simp only [List.cons_append, numCells, ih]

theorem round_nums {wb wr w4 w6 : World} {T : TypeId} {z : Value} {k g t F : Nat} {l : List Tup} {tn : Tup} {q : Rat} {sq : Nat → Rat} {o : Obj} {xs : List Value}
    (hk : k = l.length) (hown : wr.ownsRow wb.heap.size T 3 z k xs) (hF : F ≤ wr.heap.size)
    (hn : ∀ j (h : j < l.length), NumV (fun b => some b ≠ z.ownBlock ∧ F ≤ b) wr (numV l[j]) 4003 (sq j))
    (hb : Below wr.heap.size wr w4) (n4 : NumV (fun b => ((F ≤ b ∧ b < wb.heap.size) ∨ wr.heap.size ≤ b) ∨ t ≤ b) w4 (numV tn) 4003 q) (ht : wr.heap.size ≤ t) (hq : sq k = q)
    (hgrow : (w4.alloc o).grownBy w6 z.ownBlock) (hat : z.ownBlock = some g ∨ g = (w4.alloc o).heap.size) :
    ∀ j (h : j < (l ++ [tn]).length), NumV (fun b => some b ≠ (some g : Option Nat) ∧ F ≤ b) w6 (numV (l ++ [tn])[j]) 4003 (sq j) := by
  have hsz := hb.size
  have hza := hown.lt
  intro j hj
  by_cases c : j < l.length
  · rw [List.getElem_append_left c]
    refine (((hn j c).lt.keep (hb.trans ((kp_alloc w4 o).mono hsz))).grown hgrow (fun b h => h.1.1)).mono fun b h => ⟨?_, h.1.2⟩
    rcases hat with h2 | h2
    · rw [← h2]; exact h.1.1
    · intro h3
      have h4 : b = g := Option.some.inj h3
      rw [World.size_alloc] at h2
      have := h.2
      omega
  · have hj2 : j = l.length := by rw [List.length_append, List.length_singleton] at hj; omega
    subst hj2
    rw [List.getElem_append_right (Nat.le_refl _)]
    simp only [Nat.sub_self, List.getElem_singleton]
    rw [← hk, hq]
    refine ((n4.lt.keep (kp_alloc w4 o)).grown hgrow (fun b h => ?_)).mono fun b h => ⟨?_, by omega⟩
    · intro h3
      have := hza b h3.symm
      omega
    · rcases hat with h2 | h2
      · intro h3
        have := hza b (h2.trans h3.symm)
        omega
      · intro h3
        have h4 : b = g := Option.some.inj h3
        rw [World.size_alloc] at h2
        have := h.2
        omega

/-- A number that lies in a cell of its own. -/
def NumAt (wc : World) (F k : Nat) (q : Rat) (x : Value) (wx : World) : Prop := ∃ f s p l c e, x = .pointer (some ⟨f, 0, none⟩) ∧ F ≤ f ∧ wx.heap[f]? = some (.cells #[.int .i64 s, .slice p l c, .int .i64 e] 34 (0, 0)) ∧
  NumV (fun b => F ≤ b) wx (.agg #[.int .i64 s, .slice p l c, .int .i64 e]) k q ∧ Kp wc wx
theorem put3_block {w : World} {b : Nat} {T : TypeId} {c0 c1 c2 : Value} (h : w.heap[b]? = some (.cells #[c0, c1, c2] T (0, 0))) (u0 u1 u2 : Value) :
    (((w.setCell ⟨b, 0, none⟩ u0).setCell ⟨b, 1, none⟩ u1).setCell ⟨b, 2, none⟩ u2).heap[b]? = some (.cells #[u0, u1, u2] T (0, 0)) := by
  have hF := setCell_block (setCell_block (setCell_block h 0 u0) 1 u1) 2 u2
  simpa using hF
theorem numAt_end {wc W : World} {F k f : Nat} {q : Rat} {s e : Int} {p : Option Addr} {l c : Nat} {c0 c1 c2 : Value} {P : Nat → Prop} (hf : W.heap[f]? = some (.cells #[c0, c1, c2] 34 (0, 0)))
    (n : NumV P W (.agg #[.int .i64 s, .slice p l c, .int .i64 e]) k q) (hP : ∀ j, P j → j ≠ f ∧ F ≤ j) (hK : Kp wc W) (hcf : wc.heap.size ≤ f) (hF : F ≤ wc.heap.size) :
    NumAt wc F k q (.pointer (some ⟨f, 0, none⟩)) (((W.setCell ⟨f, 0, none⟩ (.int .i64 s)).setCell ⟨f, 1, none⟩ (.slice p l c)).setCell ⟨f, 2, none⟩ (.int .i64 e)) :=
  ⟨f, s, p, l, c, e, rfl, Nat.le_trans hF hcf, put3_block hf _ _ _, (n.into (fun j hj => (hP j hj).1) _ _ _).mono fun j hj => (hP j hj).2, hK.put3 hcf _ _ _⟩

theorem numAt_new {wc W : World} {F k : Nat} {q : Rat} {s e : Int} {p : Option Addr} {l c : Nat} {P : Nat → Prop}
    (n : NumV P W (.agg #[.int .i64 s, .slice p l c, .int .i64 e]) k q) (hP : ∀ j, P j → F ≤ j) (hK : Kp wc W) (hF : F ≤ wc.heap.size) :
    NumAt wc F k q (.pointer (some ⟨W.heap.size, 0, none⟩)) (W.alloc (.cells #[.int .i64 s, .slice p l c, .int .i64 e] 34)) :=
  ⟨W.heap.size, s, p, l, c, e, rfl, Nat.le_trans hF hK.out.size, heap_alloc_new _ _, (n.keep (kp_alloc _ _)).mono hP, hK.step (kp_alloc _ _)⟩

/-- The sum of four points. -/
def sumQ (ax ay bx by' cx cy dx dy : Rat) : Rat :=
  (ax - dx) * ((by' - dy) * ((cx - dx) * (cx - dx) + (cy - dy) * (cy - dy)) - (cy - dy) * ((bx - dx) * (bx - dx) + (by' - dy) * (by' - dy))) -
  (ay - dy) * ((bx - dx) * ((cx - dx) * (cx - dx) + (cy - dy) * (cy - dy)) - (cx - dx) * ((bx - dx) * (bx - dx) + (by' - dy) * (by' - dy))) +
  ((ax - dx) * (ax - dx) + (ay - dy) * (ay - dy)) * ((bx - dx) * (cy - dy) - (cx - dx) * (by' - dy))

set_option maxRecDepth 100000 in
set_option maxHeartbeats 8000000 in
theorem sum_calls (ax ay bx bY cx cy dx dy : Nat) (hax : ax < 18446744073709551616) (hay : ay < 18446744073709551616) (hbx : bx < 18446744073709551616) (hby : bY < 18446744073709551616)
    (hcx : cx < 18446744073709551616) (hcy : cy < 18446744073709551616) (hdx : dx < 18446744073709551616) (hdy : dy < 18446744073709551616) (w : World) :
    Calls Try.prog 8 #[.agg #[.float .f64 ax, .float .f64 ay], .agg #[.float .f64 bx, .float .f64 bY], .agg #[.float .f64 cx, .float .f64 cy], .agg #[.float .f64 dx, .float .f64 dy]] w (RetT 8008 (sumQ (ov ax) (ov ay) (ov bx) (ov bY) (ov cx) (ov cy) (ov dx) (ov dy)) w) := by
  obtain ⟨sq, hsq⟩ : ∃ sq : Nat → Rat, sq = fun j => if j = 0 then (ov ax - ov dx) * (ov ax - ov dx) + (ov ay - ov dy) * (ov ay - ov dy) else if j = 1 then (ov bx - ov dx) * (ov bx - ov dx) + (ov bY - ov dy) * (ov bY - ov dy) else (ov cx - ov dx) * (ov cx - ov dx) + (ov cy - ov dy) * (ov cy - ov dy) := ⟨_, rfl⟩
  have HSQ := Lib.hid hsq
  clear hsq
  obtain ⟨wn, hwn, HW0, hsz, k0, k1, k2, k3, k4⟩ := five_cells w (.cells #[.float .f64 ax, .float .f64 ay] 25) (.cells #[.float .f64 bx, .float .f64 bY] 25) (.cells #[.float .f64 cx, .float .f64 cy] 25) (.cells #[.float .f64 dx, .float .f64 dy] 25) (.cells #[.int .i64 0, .slice none 0 0, .int .i64 0] 34)
  go_enter Try.func8, Try.ntmps8
  go_wp2_with fail
  rw [← hwn]
  clear hwn
  have a0 : wn.cell? ⟨w.heap.size, 0, none⟩ = some (.float .f64 ax) := cell_of_block k0 0
  have a1 : wn.cell? ⟨w.heap.size, 1, none⟩ = some (.float .f64 ay) := cell_of_block k0 1
  have b0 : wn.cell? ⟨w.heap.size + 1, 0, none⟩ = some (.float .f64 bx) := cell_of_block k1 0
  have b1 : wn.cell? ⟨w.heap.size + 1, 1, none⟩ = some (.float .f64 bY) := cell_of_block k1 1
  have c0 : wn.cell? ⟨w.heap.size + 1 + 1, 0, none⟩ = some (.float .f64 cx) := cell_of_block k2 0
  have c1 : wn.cell? ⟨w.heap.size + 1 + 1, 1, none⟩ = some (.float .f64 cy) := cell_of_block k2 1
  have d0 : wn.cell? ⟨w.heap.size + 1 + 1 + 1, 0, none⟩ = some (.float .f64 dx) := cell_of_block k3 0
  have d1 : wn.cell? ⟨w.heap.size + 1 + 1 + 1, 1, none⟩ = some (.float .f64 dy) := cell_of_block k3 1
  have HR := Lib.hid k4
  have HW := Lib.hid HW0
  have HSZ := Lib.hid hsz
  have K0 := Kp.refl wn
  clear k0 k1 k2 k3 k4 HW0 hsz
  go_region_held3 (fun w' => w'.cell? ⟨w.heap.size, 0, none⟩ = some (.float .f64 ax) ∧ w'.cell? ⟨w.heap.size + 1, 0, none⟩ = some (.float .f64 bx) ∧ w'.cell? ⟨w.heap.size + 1 + 1, 0, none⟩ = some (.float .f64 cx) ∧ w'.cell? ⟨w.heap.size + 1 + 1 + 1, 0, none⟩ = some (.float .f64 dx) ∧ Kp wn w')
    (first | exact ⟨(keep_cell (kp_alloc _ _) (keep_cell hbx2 (keep_cell hbx1 (keep_cell hbx0 a0)))), (keep_cell (kp_alloc _ _) (keep_cell hbx2 (keep_cell hbx1 (keep_cell hbx0 b0)))), (keep_cell (kp_alloc _ _) (keep_cell hbx2 (keep_cell hbx1 (keep_cell hbx0 c0)))), (keep_cell (kp_alloc _ _) (keep_cell hbx2 (keep_cell hbx1 (keep_cell hbx0 d0)))), (((((K0.drew).step hbx0).step hbx1).step hbx2).step (kp_alloc _ _))⟩ | exact ⟨(keep_cell hbx2 (keep_cell hbx1 (keep_cell hbx0 a0))), (keep_cell hbx2 (keep_cell hbx1 (keep_cell hbx0 b0))), (keep_cell hbx2 (keep_cell hbx1 (keep_cell hbx0 c0))), (keep_cell hbx2 (keep_cell hbx1 (keep_cell hbx0 d0))), ((((K0.drew).step hbx0).step hbx1).step hbx2)⟩ | exact ⟨(keep_cell hbx1 (keep_cell hbx0 a0)), (keep_cell hbx1 (keep_cell hbx0 b0)), (keep_cell hbx1 (keep_cell hbx0 c0)), (keep_cell hbx1 (keep_cell hbx0 d0)), (((K0.drew).step hbx0).step hbx1)⟩ | exact ⟨(keep_cell hbx0 a0), (keep_cell hbx0 b0), (keep_cell hbx0 c0), (keep_cell hbx0 d0), ((K0.drew).step hbx0)⟩ | exact ⟨a0, b0, c0, d0, (K0.drew)⟩)
    (first
      | (go_at_call 12; ((with_reducible refine (lessN cx dx hcx hdx _).mono ?_); rintro e wx2 ⟨vx2, rfl, nx2, hbx2⟩; obtain ⟨sx2, px2, lx2, gx2, ex2, rfl, -⟩ := NumV.form nx2))
      | (go_at_call 12; ((with_reducible refine (lessN bx dx hbx hdx _).mono ?_); rintro e wx1 ⟨vx1, rfl, nx1, hbx1⟩; obtain ⟨sx1, px1, lx1, gx1, ex1, rfl, -⟩ := NumV.form nx1))
      | (go_at_call 12; ((with_reducible refine (lessN ax dx hax hdx _).mono ?_); rintro e wx0 ⟨vx0, rfl, nx0, hbx0⟩; obtain ⟨sx0, px0, lx0, gx0, ex0, rfl, -⟩ := NumV.form nx0)))
  obtain ⟨wa, hwx⟩ : ∃ z, z = wx2.alloc (.cells #[.int .i64 sx0, .slice px0 lx0 gx0, .int .i64 ex0, .int .i64 sx1, .slice px1 lx1 gx1, .int .i64 ex1, .int .i64 sx2, .slice px2 lx2 gx2, .int .i64 ex2] 34) := ⟨_, rfl⟩
  have Kx : Kp wn wa := by rw [hwx]; exact ((((Kp.refl _).drew.step hbx0).step hbx1).step hbx2).step (kp_alloc _ _)
  have Bx : wa.heap[wx2.heap.size]? = some (.cells #[.int .i64 sx0, .slice px0 lx0 gx0, .int .i64 ex0, .int .i64 sx1, .slice px1 lx1 gx1, .int .i64 ex1, .int .i64 sx2, .slice px2 lx2 gx2, .int .i64 ex2] 34 (0, 0)) := by rw [hwx]; exact heap_alloc_new _ _
  have Mx0 : NumV (fun b => wn.heap.size ≤ b) wa (.agg #[.int .i64 sx0, .slice px0 lx0 gx0, .int .i64 ex0]) 2001 (ov ax - ov dx) := by rw [hwx]; exact (((nx0.keep hbx1).keep hbx2).keep (kp_alloc _ _)).mono (fun b h => Nat.le_trans ((Kp.refl wn).drew.out.size) (h.resolve_left id))
  have Mx1 : NumV (fun b => wn.heap.size ≤ b) wa (.agg #[.int .i64 sx1, .slice px1 lx1 gx1, .int .i64 ex1]) 2001 (ov bx - ov dx) := by rw [hwx]; exact ((nx1.keep hbx2).keep (kp_alloc _ _)).mono (fun b h => Nat.le_trans (((Kp.refl wn).drew.step hbx0).out.size) (h.resolve_left id))
  have Mx2 : NumV (fun b => wn.heap.size ≤ b) wa (.agg #[.int .i64 sx2, .slice px2 lx2 gx2, .int .i64 ex2]) 2001 (ov cx - ov dx) := by rw [hwx]; exact (nx2.keep (kp_alloc _ _)).mono (fun b h => Nat.le_trans ((((Kp.refl wn).drew.step hbx0).step hbx1).out.size) (h.resolve_left id))
  obtain ⟨xb, hzx⟩ : ∃ z, z = wx2.heap.size := ⟨_, rfl⟩
  rw [← hzx] at Bx
  rw [← hwx, ← hzx]
  have a1 := keep_cell Kx.out a1
  have b1 := keep_cell Kx.out b1
  have c1 := keep_cell Kx.out c1
  have d1 := keep_cell Kx.out d1
  have K1 := Kp.refl wa
  have LA := Kx.out.size
  clear hwx hzx nx0 nx1 nx2 hbx0 hbx1 hbx2 a0 b0 c0 d0 K0
  have BX := Lib.hid Bx
  have MX0 := Lib.hid Mx0
  have MX1 := Lib.hid Mx1
  have MX2 := Lib.hid Mx2
  have KX := Lib.hid Kx
  clear Bx Mx0 Mx1 Mx2 Kx
  go_wp2_with fail
  go_region_held3 (fun w' => w'.cell? ⟨w.heap.size, 1, none⟩ = some (.float .f64 ay) ∧ w'.cell? ⟨w.heap.size + 1, 1, none⟩ = some (.float .f64 bY) ∧ w'.cell? ⟨w.heap.size + 1 + 1, 1, none⟩ = some (.float .f64 cy) ∧ w'.cell? ⟨w.heap.size + 1 + 1 + 1, 1, none⟩ = some (.float .f64 dy) ∧ Kp wa w')
    (first | exact ⟨(keep_cell (kp_alloc _ _) (keep_cell hby2 (keep_cell hby1 (keep_cell hby0 a1)))), (keep_cell (kp_alloc _ _) (keep_cell hby2 (keep_cell hby1 (keep_cell hby0 b1)))), (keep_cell (kp_alloc _ _) (keep_cell hby2 (keep_cell hby1 (keep_cell hby0 c1)))), (keep_cell (kp_alloc _ _) (keep_cell hby2 (keep_cell hby1 (keep_cell hby0 d1)))), (((((K1.drew).step hby0).step hby1).step hby2).step (kp_alloc _ _))⟩ | exact ⟨(keep_cell hby2 (keep_cell hby1 (keep_cell hby0 a1))), (keep_cell hby2 (keep_cell hby1 (keep_cell hby0 b1))), (keep_cell hby2 (keep_cell hby1 (keep_cell hby0 c1))), (keep_cell hby2 (keep_cell hby1 (keep_cell hby0 d1))), ((((K1.drew).step hby0).step hby1).step hby2)⟩ | exact ⟨(keep_cell hby1 (keep_cell hby0 a1)), (keep_cell hby1 (keep_cell hby0 b1)), (keep_cell hby1 (keep_cell hby0 c1)), (keep_cell hby1 (keep_cell hby0 d1)), (((K1.drew).step hby0).step hby1)⟩ | exact ⟨(keep_cell hby0 a1), (keep_cell hby0 b1), (keep_cell hby0 c1), (keep_cell hby0 d1), ((K1.drew).step hby0)⟩ | exact ⟨a1, b1, c1, d1, (K1.drew)⟩)
    (first
      | (go_at_call 12; ((with_reducible refine (lessN cy dy hcy hdy _).mono ?_); rintro e wy2 ⟨vy2, rfl, ny2, hby2⟩; obtain ⟨sy2, py2, ly2, gy2, ey2, rfl, -⟩ := NumV.form ny2))
      | (go_at_call 12; ((with_reducible refine (lessN bY dy hby hdy _).mono ?_); rintro e wy1 ⟨vy1, rfl, ny1, hby1⟩; obtain ⟨sy1, py1, ly1, gy1, ey1, rfl, -⟩ := NumV.form ny1))
      | (go_at_call 12; ((with_reducible refine (lessN ay dy hay hdy _).mono ?_); rintro e wy0 ⟨vy0, rfl, ny0, hby0⟩; obtain ⟨sy0, py0, ly0, gy0, ey0, rfl, -⟩ := NumV.form ny0)))
  obtain ⟨wb, hwy⟩ : ∃ z, z = wy2.alloc (.cells #[.int .i64 sy0, .slice py0 ly0 gy0, .int .i64 ey0, .int .i64 sy1, .slice py1 ly1 gy1, .int .i64 ey1, .int .i64 sy2, .slice py2 ly2 gy2, .int .i64 ey2] 34) := ⟨_, rfl⟩
  have Ky : Kp wa wb := by rw [hwy]; exact ((((Kp.refl _).drew.step hby0).step hby1).step hby2).step (kp_alloc _ _)
  have By : wb.heap[wy2.heap.size]? = some (.cells #[.int .i64 sy0, .slice py0 ly0 gy0, .int .i64 ey0, .int .i64 sy1, .slice py1 ly1 gy1, .int .i64 ey1, .int .i64 sy2, .slice py2 ly2 gy2, .int .i64 ey2] 34 (0, 0)) := by rw [hwy]; exact heap_alloc_new _ _
  have My0 : NumV (fun b => wn.heap.size ≤ b) wb (.agg #[.int .i64 sy0, .slice py0 ly0 gy0, .int .i64 ey0]) 2001 (ov ay - ov dy) := by rw [hwy]; exact (((ny0.keep hby1).keep hby2).keep (kp_alloc _ _)).mono (fun b h => Nat.le_trans (Nat.le_trans LA (Kp.refl wa).drew.out.size) (h.resolve_left id))
  have My1 : NumV (fun b => wn.heap.size ≤ b) wb (.agg #[.int .i64 sy1, .slice py1 ly1 gy1, .int .i64 ey1]) 2001 (ov bY - ov dy) := by rw [hwy]; exact ((ny1.keep hby2).keep (kp_alloc _ _)).mono (fun b h => Nat.le_trans (Nat.le_trans LA ((Kp.refl wa).drew.step hby0).out.size) (h.resolve_left id))
  have My2 : NumV (fun b => wn.heap.size ≤ b) wb (.agg #[.int .i64 sy2, .slice py2 ly2 gy2, .int .i64 ey2]) 2001 (ov cy - ov dy) := by rw [hwy]; exact (ny2.keep (kp_alloc _ _)).mono (fun b h => Nat.le_trans (Nat.le_trans LA (((Kp.refl wa).drew.step hby0).step hby1).out.size) (h.resolve_left id))
  obtain ⟨yb, hzy⟩ : ∃ z, z = wy2.heap.size := ⟨_, rfl⟩
  rw [← hzy] at By
  rw [← hwy, ← hzy]
  have BX := Lib.hid (keep_block Ky.out BX.out)
  have MX0 := Lib.hid (MX0.out.keep Ky.out)
  have MX1 := Lib.hid (MX1.out.keep Ky.out)
  have MX2 := Lib.hid (MX2.out.keep Ky.out)
  have BY := Lib.hid By
  have MY0 := Lib.hid My0
  have MY1 := Lib.hid My1
  have MY2 := Lib.hid My2
  have KX := Lib.hid (KX.out.step Ky.out)
  clear hwy hzy ny0 ny1 ny2 hby0 hby1 hby2 a1 b1 c1 d1 K1 By My0 My1 My2 Ky LA
  go_wp2_with fail
  go_loopw [11, 12] (fun z i wr => ∃ (l : List Tup), l.length ≤ 3 ∧ i = .int .i64 l.length ∧ wr.ownsRow wb.heap.size 34 3 z l.length (numCells l) ∧ Kp wb wr ∧
      (∀ j (h : j < l.length), NumV (fun b => some b ≠ z.ownBlock ∧ wn.heap.size ≤ b) wr (numV l[j]) 4003 (sq j)))
    (fun _ i _ => 3 - (intOf i).toNat)
  case atStart => exact ⟨[], by decide, rfl, ⟨rfl, Or.inl ⟨rfl, rfl⟩⟩, Kp.refl _, fun j h => absurd h (Nat.not_lt_zero _)⟩
  case round =>
    obtain ⟨i0, hi, hz0, hz1, hz2⟩ := info_parts info_num
    obtain ⟨l, hl, rfl, hown, hkr, hn⟩ := hrel
    have KR := Lib.hid hkr
    have HNs := Lib.hid hn
    clear hn
    have hk : l.length = 0 ∨ l.length = 1 ∨ l.length = 2 ∨ l.length = 3 := by omega
    obtain ⟨k, hk2⟩ : ∃ k, k = l.length := ⟨_, rfl⟩
    rw [← hk2] at hk hown
    rw [← hk2]
    have HK2 := Lib.hid hk2
    clear hk2
    rcases hk with rfl | rfl | rfl | rfl
    case inl =>
      have x0 : wb.cell? ⟨xb, 0, none⟩ = some (.int .i64 sx0) := cell_of_block BX.out 0
      have x1 : wb.cell? ⟨xb, 1, none⟩ = some (.slice px0 lx0 gx0) := cell_of_block BX.out 1
      have x2 : wb.cell? ⟨xb, 2, none⟩ = some (.int .i64 ex0) := cell_of_block BX.out 2
      have y0 : wb.cell? ⟨yb, 0, none⟩ = some (.int .i64 sy0) := cell_of_block BY.out 0
      have y1 : wb.cell? ⟨yb, 1, none⟩ = some (.slice py0 ly0 gy0) := cell_of_block BY.out 1
      have y2 : wb.cell? ⟨yb, 2, none⟩ = some (.int .i64 ey0) := cell_of_block BY.out 2
      have HA := Lib.hid (fun (W : World) (h : Kp wb W) => mulN ((NumV.lt MX0.out).keep h.out) ((NumV.lt MX0.out).keep h.out) (by decide) (by decide))
      have HB := Lib.hid (fun (W : World) (h : Kp wb W) => mulN ((NumV.lt MY0.out).keep h.out) ((NumV.lt MY0.out).keep h.out) (by decide) (by decide))
      have hob := own_block hown
      go_wp2_with fail
      go_region_held3 (fun w' => w'.cell? ⟨xb, 0, none⟩ = some (.int .i64 sx0) ∧ w'.cell? ⟨xb, 1, none⟩ = some (.slice px0 lx0 gx0) ∧ w'.cell? ⟨xb, 2, none⟩ = some (.int .i64 ex0) ∧ w'.cell? ⟨yb, 0, none⟩ = some (.int .i64 sy0) ∧ w'.cell? ⟨yb, 1, none⟩ = some (.slice py0 ly0 gy0) ∧ w'.cell? ⟨yb, 2, none⟩ = some (.int .i64 ey0) ∧ Kp wb w')
        (first | exact s_of (((((KR.out.drew.step hbA).step hbB).step hbC).step (kp_alloc _ _)).grown hgrow hob) x0 x1 x2 y0 y1 y2 | exact s_of ((((KR.out.drew.step hbA).step hbB).step hbC).step (kp_alloc _ _)) x0 x1 x2 y0 y1 y2 | exact s_of (((KR.out.drew.step hbA).step hbB).step hbC) x0 x1 x2 y0 y1 y2 | exact s_of ((KR.out.drew.step hbA).step hbB) x0 x1 x2 y0 y1 y2 | exact s_of (KR.out.drew.step hbA) x0 x1 x2 y0 y1 y2 | exact s_of KR.out.drew x0 x1 x2 y0 y1 y2)
        (first
          | (go_at_call 13; ((with_reducible refine (add_prep n2 n3 hbB ?ht ?hq3).mono ?_); (case ht => exact hbA.size); (case hq3 => decide); rintro e w4 ⟨v4, rfl, n4, hbC⟩; obtain ⟨s4, p4, l4, c4, e4, rfl, -⟩ := NumV.form n4))
          | (go_at_call 14; ((with_reducible refine (HB.out _ ?hq2).mono ?_); (case hq2 => exact (KR.out.drew.step hbA)); rintro e w3 ⟨v3, rfl, n3, hbB⟩; obtain ⟨s3, p3, l3, c3, e3, rfl, -⟩ := NumV.form n3))
          | (go_at_call 14; ((with_reducible refine (HA.out _ ?hq1).mono ?_); (case hq1 => exact KR.out.drew); rintro e w2 ⟨v2, rfl, n2, hbA⟩; obtain ⟨s2, p2, l2, c2, e2, rfl, -⟩ := NumV.form n2))
          | ((refine step_append_lies _ rfl (.tmp 52) (.tmp 72) 40 rfl wb.heap.size 34 i0 (.agg #[.int .i64 0, .slice none 0 0, .int .i64 0]) 3 40 Try.underlying40 hi hz0 hz1 hz2 rfl ?k0 _ _ _ rfl (own_keep hown ?k1) ⟨_, 0, none⟩ 1 1 [.int .i64 s4, .slice p4 l4 c4, .int .i64 e4] rfl rfl ?k2 ?k3 ?k4 ?k5 ?k6 ?k7 _ rfl ?_); (case k0 => decide); (case k1 => exact (((((Kp.refl wr).drew.step hbA).step hbB).step hbC).step (kp_alloc _ _)).out); (case k2 => exact news_at _ #[.int .i64 s4, .slice p4 l4 c4, .int .i64 e4] _); (case k3 => simp [Value.oneCell']); (case k4 => decide); (case k5 => decide); (case k6 => decide); (case k7 => exact ((((KR.out.drew.step hbA).step hbB).step hbC).step (kp_alloc _ _)).out.size); intro g cap6 w6 hown6 hgrow hat hlt6))
      go_wp2_with fail
      go_roundw
      case rel =>
        refine ⟨l ++ [(s4, p4, l4, c4, e4)], by rw [List.length_append, ← HK2.out, List.length_singleton]; decide, by rw [List.length_append, ← HK2.out]; rfl, by rw [List.length_append, ← HK2.out, numCells_snoc]; exact hown6, ((((KR.out.drew.step hbA).step hbB).step hbC).step (kp_alloc _ _)).grown hgrow hob, ?_⟩
        exact round_nums HK2.out hown (Nat.le_trans KX.out.out.size KR.out.out.size) HNs.out ((((Kp.refl wr).drew.step hbA).step hbB).step hbC).out n4 (((Kp.refl wr).drew.step hbA).step hbB).out.size (by rw [HSQ.out]; simp) hgrow hat
      case measure => simp [intOf]
    case inr.inl =>
      have x0 : wb.cell? ⟨xb, 3, none⟩ = some (.int .i64 sx1) := cell_of_block BX.out 3
      have x1 : wb.cell? ⟨xb, 4, none⟩ = some (.slice px1 lx1 gx1) := cell_of_block BX.out 4
      have x2 : wb.cell? ⟨xb, 5, none⟩ = some (.int .i64 ex1) := cell_of_block BX.out 5
      have y0 : wb.cell? ⟨yb, 3, none⟩ = some (.int .i64 sy1) := cell_of_block BY.out 3
      have y1 : wb.cell? ⟨yb, 4, none⟩ = some (.slice py1 ly1 gy1) := cell_of_block BY.out 4
      have y2 : wb.cell? ⟨yb, 5, none⟩ = some (.int .i64 ey1) := cell_of_block BY.out 5
      have HA := Lib.hid (fun (W : World) (h : Kp wb W) => mulN ((NumV.lt MX1.out).keep h.out) ((NumV.lt MX1.out).keep h.out) (by decide) (by decide))
      have HB := Lib.hid (fun (W : World) (h : Kp wb W) => mulN ((NumV.lt MY1.out).keep h.out) ((NumV.lt MY1.out).keep h.out) (by decide) (by decide))
      have hob := own_block hown
      go_wp2_with fail
      go_region_held3 (fun w' => w'.cell? ⟨xb, 3, none⟩ = some (.int .i64 sx1) ∧ w'.cell? ⟨xb, 4, none⟩ = some (.slice px1 lx1 gx1) ∧ w'.cell? ⟨xb, 5, none⟩ = some (.int .i64 ex1) ∧ w'.cell? ⟨yb, 3, none⟩ = some (.int .i64 sy1) ∧ w'.cell? ⟨yb, 4, none⟩ = some (.slice py1 ly1 gy1) ∧ w'.cell? ⟨yb, 5, none⟩ = some (.int .i64 ey1) ∧ Kp wb w')
        (first | exact s_of (((((KR.out.drew.step hbA).step hbB).step hbC).step (kp_alloc _ _)).grown hgrow hob) x0 x1 x2 y0 y1 y2 | exact s_of ((((KR.out.drew.step hbA).step hbB).step hbC).step (kp_alloc _ _)) x0 x1 x2 y0 y1 y2 | exact s_of (((KR.out.drew.step hbA).step hbB).step hbC) x0 x1 x2 y0 y1 y2 | exact s_of ((KR.out.drew.step hbA).step hbB) x0 x1 x2 y0 y1 y2 | exact s_of (KR.out.drew.step hbA) x0 x1 x2 y0 y1 y2 | exact s_of KR.out.drew x0 x1 x2 y0 y1 y2)
        (first
          | (go_at_call 13; ((with_reducible refine (add_prep n2 n3 hbB ?ht ?hq3).mono ?_); (case ht => exact hbA.size); (case hq3 => decide); rintro e w4 ⟨v4, rfl, n4, hbC⟩; obtain ⟨s4, p4, l4, c4, e4, rfl, -⟩ := NumV.form n4))
          | (go_at_call 14; ((with_reducible refine (HB.out _ ?hq2).mono ?_); (case hq2 => exact (KR.out.drew.step hbA)); rintro e w3 ⟨v3, rfl, n3, hbB⟩; obtain ⟨s3, p3, l3, c3, e3, rfl, -⟩ := NumV.form n3))
          | (go_at_call 14; ((with_reducible refine (HA.out _ ?hq1).mono ?_); (case hq1 => exact KR.out.drew); rintro e w2 ⟨v2, rfl, n2, hbA⟩; obtain ⟨s2, p2, l2, c2, e2, rfl, -⟩ := NumV.form n2))
          | ((refine step_append_lies _ rfl (.tmp 52) (.tmp 72) 40 rfl wb.heap.size 34 i0 (.agg #[.int .i64 0, .slice none 0 0, .int .i64 0]) 3 40 Try.underlying40 hi hz0 hz1 hz2 rfl ?k0 _ _ _ rfl (own_keep hown ?k1) ⟨_, 0, none⟩ 1 1 [.int .i64 s4, .slice p4 l4 c4, .int .i64 e4] rfl rfl ?k2 ?k3 ?k4 ?k5 ?k6 ?k7 _ rfl ?_); (case k0 => decide); (case k1 => exact (((((Kp.refl wr).drew.step hbA).step hbB).step hbC).step (kp_alloc _ _)).out); (case k2 => exact news_at _ #[.int .i64 s4, .slice p4 l4 c4, .int .i64 e4] _); (case k3 => simp [Value.oneCell']); (case k4 => decide); (case k5 => decide); (case k6 => decide); (case k7 => exact ((((KR.out.drew.step hbA).step hbB).step hbC).step (kp_alloc _ _)).out.size); intro g cap6 w6 hown6 hgrow hat hlt6))
      go_wp2_with fail
      go_roundw
      case rel =>
        refine ⟨l ++ [(s4, p4, l4, c4, e4)], by rw [List.length_append, ← HK2.out, List.length_singleton]; decide, by rw [List.length_append, ← HK2.out]; rfl, by rw [List.length_append, ← HK2.out, numCells_snoc]; exact hown6, ((((KR.out.drew.step hbA).step hbB).step hbC).step (kp_alloc _ _)).grown hgrow hob, ?_⟩
        exact round_nums HK2.out hown (Nat.le_trans KX.out.out.size KR.out.out.size) HNs.out ((((Kp.refl wr).drew.step hbA).step hbB).step hbC).out n4 (((Kp.refl wr).drew.step hbA).step hbB).out.size (by rw [HSQ.out]; simp) hgrow hat
      case measure => simp [intOf]
    case inr.inr.inl =>
      have x0 : wb.cell? ⟨xb, 6, none⟩ = some (.int .i64 sx2) := cell_of_block BX.out 6
      have x1 : wb.cell? ⟨xb, 7, none⟩ = some (.slice px2 lx2 gx2) := cell_of_block BX.out 7
      have x2 : wb.cell? ⟨xb, 8, none⟩ = some (.int .i64 ex2) := cell_of_block BX.out 8
      have y0 : wb.cell? ⟨yb, 6, none⟩ = some (.int .i64 sy2) := cell_of_block BY.out 6
      have y1 : wb.cell? ⟨yb, 7, none⟩ = some (.slice py2 ly2 gy2) := cell_of_block BY.out 7
      have y2 : wb.cell? ⟨yb, 8, none⟩ = some (.int .i64 ey2) := cell_of_block BY.out 8
      have HA := Lib.hid (fun (W : World) (h : Kp wb W) => mulN ((NumV.lt MX2.out).keep h.out) ((NumV.lt MX2.out).keep h.out) (by decide) (by decide))
      have HB := Lib.hid (fun (W : World) (h : Kp wb W) => mulN ((NumV.lt MY2.out).keep h.out) ((NumV.lt MY2.out).keep h.out) (by decide) (by decide))
      have hob := own_block hown
      go_wp2_with fail
      go_region_held3 (fun w' => w'.cell? ⟨xb, 6, none⟩ = some (.int .i64 sx2) ∧ w'.cell? ⟨xb, 7, none⟩ = some (.slice px2 lx2 gx2) ∧ w'.cell? ⟨xb, 8, none⟩ = some (.int .i64 ex2) ∧ w'.cell? ⟨yb, 6, none⟩ = some (.int .i64 sy2) ∧ w'.cell? ⟨yb, 7, none⟩ = some (.slice py2 ly2 gy2) ∧ w'.cell? ⟨yb, 8, none⟩ = some (.int .i64 ey2) ∧ Kp wb w')
        (first | exact s_of (((((KR.out.drew.step hbA).step hbB).step hbC).step (kp_alloc _ _)).grown hgrow hob) x0 x1 x2 y0 y1 y2 | exact s_of ((((KR.out.drew.step hbA).step hbB).step hbC).step (kp_alloc _ _)) x0 x1 x2 y0 y1 y2 | exact s_of (((KR.out.drew.step hbA).step hbB).step hbC) x0 x1 x2 y0 y1 y2 | exact s_of ((KR.out.drew.step hbA).step hbB) x0 x1 x2 y0 y1 y2 | exact s_of (KR.out.drew.step hbA) x0 x1 x2 y0 y1 y2 | exact s_of KR.out.drew x0 x1 x2 y0 y1 y2)
        (first
          | (go_at_call 13; ((with_reducible refine (add_prep n2 n3 hbB ?ht ?hq3).mono ?_); (case ht => exact hbA.size); (case hq3 => decide); rintro e w4 ⟨v4, rfl, n4, hbC⟩; obtain ⟨s4, p4, l4, c4, e4, rfl, -⟩ := NumV.form n4))
          | (go_at_call 14; ((with_reducible refine (HB.out _ ?hq2).mono ?_); (case hq2 => exact (KR.out.drew.step hbA)); rintro e w3 ⟨v3, rfl, n3, hbB⟩; obtain ⟨s3, p3, l3, c3, e3, rfl, -⟩ := NumV.form n3))
          | (go_at_call 14; ((with_reducible refine (HA.out _ ?hq1).mono ?_); (case hq1 => exact KR.out.drew); rintro e w2 ⟨v2, rfl, n2, hbA⟩; obtain ⟨s2, p2, l2, c2, e2, rfl, -⟩ := NumV.form n2))
          | ((refine step_append_lies _ rfl (.tmp 52) (.tmp 72) 40 rfl wb.heap.size 34 i0 (.agg #[.int .i64 0, .slice none 0 0, .int .i64 0]) 3 40 Try.underlying40 hi hz0 hz1 hz2 rfl ?k0 _ _ _ rfl (own_keep hown ?k1) ⟨_, 0, none⟩ 1 1 [.int .i64 s4, .slice p4 l4 c4, .int .i64 e4] rfl rfl ?k2 ?k3 ?k4 ?k5 ?k6 ?k7 _ rfl ?_); (case k0 => decide); (case k1 => exact (((((Kp.refl wr).drew.step hbA).step hbB).step hbC).step (kp_alloc _ _)).out); (case k2 => exact news_at _ #[.int .i64 s4, .slice p4 l4 c4, .int .i64 e4] _); (case k3 => simp [Value.oneCell']); (case k4 => decide); (case k5 => decide); (case k6 => decide); (case k7 => exact ((((KR.out.drew.step hbA).step hbB).step hbC).step (kp_alloc _ _)).out.size); intro g cap6 w6 hown6 hgrow hat hlt6))
      go_wp2_with fail
      go_roundw
      case rel =>
        refine ⟨l ++ [(s4, p4, l4, c4, e4)], by rw [List.length_append, ← HK2.out, List.length_singleton]; decide, by rw [List.length_append, ← HK2.out]; rfl, by rw [List.length_append, ← HK2.out, numCells_snoc]; exact hown6, ((((KR.out.drew.step hbA).step hbB).step hbC).step (kp_alloc _ _)).grown hgrow hob, ?_⟩
        exact round_nums HK2.out hown (Nat.le_trans KX.out.out.size KR.out.out.size) HNs.out ((((Kp.refl wr).drew.step hbA).step hbB).step hbC).out n4 (((Kp.refl wr).drew.step hbA).step hbB).out.size (by rw [HSQ.out]; simp) hgrow hat
      case measure => simp [intOf]
    case inr.inr.inr =>
      obtain ⟨t0, t1, t2, rfl⟩ : ∃ t0 t1 t2, l = [t0, t1, t2] := by
        match l, HK2.out with
        | [t0, t1, t2], _ => exact ⟨t0, t1, t2, rfl⟩
      obtain ⟨sz0, pz0, lz0, gz0, ez0⟩ := t0
      obtain ⟨sz1, pz1, lz1, gz1, ez1⟩ := t1
      obtain ⟨sz2, pz2, lz2, gz2, ez2⟩ := t2
      obtain ⟨zb, zcap, rfl, hz3, hz4⟩ := hown.form (by decide)
      have BZ := Lib.hid (fun (j : Nat) (u : Value) (h : (numCells [(sz0, pz0, lz0, gz0, ez0), (sz1, pz1, lz1, gz1, ez1), (sz2, pz2, lz2, gz2, ez2)])[j]? = some u) => (show wr.cell? ⟨zb, j, none⟩ = some u from by have := hown.cells (g := zb) rfl j u h; simp only [Addr.add] at this; split at this <;> simp_all))
      have BX := Lib.hid (keep_block hkr.out BX.out)
      have BY := Lib.hid (keep_block hkr.out BY.out)
      have MX0 := Lib.hid ((MX0.out.keep hkr.out).lt)
      have MX1 := Lib.hid ((MX1.out.keep hkr.out).lt)
      have MX2 := Lib.hid ((MX2.out.keep hkr.out).lt)
      have MY0 := Lib.hid ((MY0.out.keep hkr.out).lt)
      have MY1 := Lib.hid ((MY1.out.keep hkr.out).lt)
      have MY2 := Lib.hid ((MY2.out.keep hkr.out).lt)
      have MZ0 : NumV (fun b => wn.heap.size ≤ b) wr (.agg #[.int .i64 sz0, .slice pz0 lz0 gz0, .int .i64 ez0]) 4003 (sq 0) := (HNs.out 0 (by simp)).mono (fun b h => h.2)
      have MZ1 : NumV (fun b => wn.heap.size ≤ b) wr (.agg #[.int .i64 sz1, .slice pz1 lz1 gz1, .int .i64 ez1]) 4003 (sq 1) := (HNs.out 1 (by simp)).mono (fun b h => h.2)
      have MZ2 : NumV (fun b => wn.heap.size ≤ b) wr (.agg #[.int .i64 sz2, .slice pz2 lz2 gz2, .int .i64 ez2]) 4003 (sq 2) := (HNs.out 2 (by simp)).mono (fun b h => h.2)
      have KX := Lib.hid (KX.out.step hkr.out)
      have HS0 : sq 0 = (ov ax - ov dx) * (ov ax - ov dx) + (ov ay - ov dy) * (ov ay - ov dy) := by rw [HSQ.out]; simp
      have HS1 : sq 1 = (ov bx - ov dx) * (ov bx - ov dx) + (ov bY - ov dy) * (ov bY - ov dy) := by rw [HSQ.out]; simp
      have HS2 : sq 2 = (ov cx - ov dx) * (ov cx - ov dx) + (ov cy - ov dy) * (ov cy - ov dy) := by rw [HSQ.out]; simp
      rw [HS0] at MZ0
      rw [HS1] at MZ1
      rw [HS2] at MZ2
      have MZ0 := Lib.hid MZ0.lt
      have MZ1 := Lib.hid MZ1.lt
      have MZ2 := Lib.hid MZ2.lt
      clear HS0 HS1 HS2 HSQ HNs KR hkr hown hz3 hz4 HK2 hl hi hz0 hz1 hz2
      obtain ⟨wc, rfl⟩ : ∃ z : World, z = wr := ⟨_, rfl⟩
      have qx00 : wc.cell? ⟨xb, 0, none⟩ = some (.int .i64 sx0) := cell_of_block BX.out 0
      have qx01 : wc.cell? ⟨xb, 1, none⟩ = some (.slice px0 lx0 gx0) := cell_of_block BX.out 1
      have qx02 : wc.cell? ⟨xb, 2, none⟩ = some (.int .i64 ex0) := cell_of_block BX.out 2
      have qy10 : wc.cell? ⟨yb, 3, none⟩ = some (.int .i64 sy1) := cell_of_block BY.out 3
      have qy11 : wc.cell? ⟨yb, 4, none⟩ = some (.slice py1 ly1 gy1) := cell_of_block BY.out 4
      have qy12 : wc.cell? ⟨yb, 5, none⟩ = some (.int .i64 ey1) := cell_of_block BY.out 5
      have qz10 : wc.cell? ⟨zb, 3, none⟩ = some (.int .i64 sz1) := BZ.out 3 _ rfl
      have qz11 : wc.cell? ⟨zb, 4, none⟩ = some (.slice pz1 lz1 gz1) := BZ.out 4 _ rfl
      have qz12 : wc.cell? ⟨zb, 5, none⟩ = some (.int .i64 ez1) := BZ.out 5 _ rfl
      have qy20 : wc.cell? ⟨yb, 6, none⟩ = some (.int .i64 sy2) := cell_of_block BY.out 6
      have qy21 : wc.cell? ⟨yb, 7, none⟩ = some (.slice py2 ly2 gy2) := cell_of_block BY.out 7
      have qy22 : wc.cell? ⟨yb, 8, none⟩ = some (.int .i64 ey2) := cell_of_block BY.out 8
      have qz20 : wc.cell? ⟨zb, 6, none⟩ = some (.int .i64 sz2) := BZ.out 6 _ rfl
      have qz21 : wc.cell? ⟨zb, 7, none⟩ = some (.slice pz2 lz2 gz2) := BZ.out 7 _ rfl
      have qz22 : wc.cell? ⟨zb, 8, none⟩ = some (.int .i64 ez2) := BZ.out 8 _ rfl
      have KC := Kp.refl wc
      have hdr : wc.drew.heap.size = wc.heap.size := rfl
      have hdr2 : (wc.alloc (.cells #[.int .i64 0, .slice none 0 0, .int .i64 0] 34)).drew.heap.size = wc.heap.size + 1 := World.size_alloc _ _
      have HC := Lib.hid (fun (Y : World) (h : Kp wc Y) => crossN (MY1.out.keep h.out) (MZ1.out.keep h.out) (MY2.out.keep h.out) (MZ2.out.keep h.out) (by decide) (by decide))
      have HM := Lib.hid (fun (Y : World) (h : Kp wc Y) (Q : Nat → Prop) (v : Value) (q : Rat) (n : NumV Q Y v 6005 q) (hQ : ∀ b, (wn.heap.size ≤ b ∧ b < wc.heap.size) → Q b) => mulN ((MX0.out.keep h.out).mono hQ) n (by decide) (by decide))
      go_upto_region 8 with (fail)
      go_cut [13] (NumAt wc wn.heap.size 8006 ((ov ax - ov dx) * ((ov bY - ov dy) * ((ov cx - ov dx) * (ov cx - ov dx) + (ov cy - ov dy) * (ov cy - ov dy)) - (ov cy - ov dy) * ((ov bx - ov dx) * (ov bx - ov dx) + (ov bY - ov dy) * (ov bY - ov dy)))))
      case first =>
        go_region_held3 (fun w' => w'.cell? ⟨xb, 0, none⟩ = some (.int .i64 sx0) ∧ w'.cell? ⟨xb, 1, none⟩ = some (.slice px0 lx0 gx0) ∧ w'.cell? ⟨xb, 2, none⟩ = some (.int .i64 ex0) ∧ w'.cell? ⟨yb, 3, none⟩ = some (.int .i64 sy1) ∧ w'.cell? ⟨yb, 4, none⟩ = some (.slice py1 ly1 gy1) ∧ w'.cell? ⟨yb, 5, none⟩ = some (.int .i64 ey1) ∧ w'.cell? ⟨zb, 3, none⟩ = some (.int .i64 sz1) ∧ w'.cell? ⟨zb, 4, none⟩ = some (.slice pz1 lz1 gz1) ∧ w'.cell? ⟨zb, 5, none⟩ = some (.int .i64 ez1) ∧ w'.cell? ⟨yb, 6, none⟩ = some (.int .i64 sy2) ∧ w'.cell? ⟨yb, 7, none⟩ = some (.slice py2 ly2 gy2) ∧ w'.cell? ⟨yb, 8, none⟩ = some (.int .i64 ey2) ∧ w'.cell? ⟨zb, 6, none⟩ = some (.int .i64 sz2) ∧ w'.cell? ⟨zb, 7, none⟩ = some (.slice pz2 lz2 gz2) ∧ w'.cell? ⟨zb, 8, none⟩ = some (.int .i64 ez2) ∧ Kp wc w')
          (first | exact ⟨keep_cell ((((KC.drew.step hbC).step hbM).step (kp_alloc _ _)).put3 ((KC.drew.step hbC).step hbM).out.size _ _ _).out qx00, keep_cell ((((KC.drew.step hbC).step hbM).step (kp_alloc _ _)).put3 ((KC.drew.step hbC).step hbM).out.size _ _ _).out qx01, keep_cell ((((KC.drew.step hbC).step hbM).step (kp_alloc _ _)).put3 ((KC.drew.step hbC).step hbM).out.size _ _ _).out qx02, keep_cell ((((KC.drew.step hbC).step hbM).step (kp_alloc _ _)).put3 ((KC.drew.step hbC).step hbM).out.size _ _ _).out qy10, keep_cell ((((KC.drew.step hbC).step hbM).step (kp_alloc _ _)).put3 ((KC.drew.step hbC).step hbM).out.size _ _ _).out qy11, keep_cell ((((KC.drew.step hbC).step hbM).step (kp_alloc _ _)).put3 ((KC.drew.step hbC).step hbM).out.size _ _ _).out qy12, keep_cell ((((KC.drew.step hbC).step hbM).step (kp_alloc _ _)).put3 ((KC.drew.step hbC).step hbM).out.size _ _ _).out qz10, keep_cell ((((KC.drew.step hbC).step hbM).step (kp_alloc _ _)).put3 ((KC.drew.step hbC).step hbM).out.size _ _ _).out qz11, keep_cell ((((KC.drew.step hbC).step hbM).step (kp_alloc _ _)).put3 ((KC.drew.step hbC).step hbM).out.size _ _ _).out qz12, keep_cell ((((KC.drew.step hbC).step hbM).step (kp_alloc _ _)).put3 ((KC.drew.step hbC).step hbM).out.size _ _ _).out qy20, keep_cell ((((KC.drew.step hbC).step hbM).step (kp_alloc _ _)).put3 ((KC.drew.step hbC).step hbM).out.size _ _ _).out qy21, keep_cell ((((KC.drew.step hbC).step hbM).step (kp_alloc _ _)).put3 ((KC.drew.step hbC).step hbM).out.size _ _ _).out qy22, keep_cell ((((KC.drew.step hbC).step hbM).step (kp_alloc _ _)).put3 ((KC.drew.step hbC).step hbM).out.size _ _ _).out qz20, keep_cell ((((KC.drew.step hbC).step hbM).step (kp_alloc _ _)).put3 ((KC.drew.step hbC).step hbM).out.size _ _ _).out qz21, keep_cell ((((KC.drew.step hbC).step hbM).step (kp_alloc _ _)).put3 ((KC.drew.step hbC).step hbM).out.size _ _ _).out qz22, ((((KC.drew.step hbC).step hbM).step (kp_alloc _ _)).put3 ((KC.drew.step hbC).step hbM).out.size _ _ _)⟩ | exact ⟨keep_cell ((((KC.drew.step hbC).step (kp_alloc _ _)).step hbM).put3 (KC.drew.step hbC).out.size _ _ _).out qx00, keep_cell ((((KC.drew.step hbC).step (kp_alloc _ _)).step hbM).put3 (KC.drew.step hbC).out.size _ _ _).out qx01, keep_cell ((((KC.drew.step hbC).step (kp_alloc _ _)).step hbM).put3 (KC.drew.step hbC).out.size _ _ _).out qx02, keep_cell ((((KC.drew.step hbC).step (kp_alloc _ _)).step hbM).put3 (KC.drew.step hbC).out.size _ _ _).out qy10, keep_cell ((((KC.drew.step hbC).step (kp_alloc _ _)).step hbM).put3 (KC.drew.step hbC).out.size _ _ _).out qy11, keep_cell ((((KC.drew.step hbC).step (kp_alloc _ _)).step hbM).put3 (KC.drew.step hbC).out.size _ _ _).out qy12, keep_cell ((((KC.drew.step hbC).step (kp_alloc _ _)).step hbM).put3 (KC.drew.step hbC).out.size _ _ _).out qz10, keep_cell ((((KC.drew.step hbC).step (kp_alloc _ _)).step hbM).put3 (KC.drew.step hbC).out.size _ _ _).out qz11, keep_cell ((((KC.drew.step hbC).step (kp_alloc _ _)).step hbM).put3 (KC.drew.step hbC).out.size _ _ _).out qz12, keep_cell ((((KC.drew.step hbC).step (kp_alloc _ _)).step hbM).put3 (KC.drew.step hbC).out.size _ _ _).out qy20, keep_cell ((((KC.drew.step hbC).step (kp_alloc _ _)).step hbM).put3 (KC.drew.step hbC).out.size _ _ _).out qy21, keep_cell ((((KC.drew.step hbC).step (kp_alloc _ _)).step hbM).put3 (KC.drew.step hbC).out.size _ _ _).out qy22, keep_cell ((((KC.drew.step hbC).step (kp_alloc _ _)).step hbM).put3 (KC.drew.step hbC).out.size _ _ _).out qz20, keep_cell ((((KC.drew.step hbC).step (kp_alloc _ _)).step hbM).put3 (KC.drew.step hbC).out.size _ _ _).out qz21, keep_cell ((((KC.drew.step hbC).step (kp_alloc _ _)).step hbM).put3 (KC.drew.step hbC).out.size _ _ _).out qz22, ((((KC.drew.step hbC).step (kp_alloc _ _)).step hbM).put3 (KC.drew.step hbC).out.size _ _ _)⟩ | exact ⟨keep_cell ((((KC.drew.step (kp_alloc _ _)).step hbC).step hbM).put3 KC.drew.out.size _ _ _).out qx00, keep_cell ((((KC.drew.step (kp_alloc _ _)).step hbC).step hbM).put3 KC.drew.out.size _ _ _).out qx01, keep_cell ((((KC.drew.step (kp_alloc _ _)).step hbC).step hbM).put3 KC.drew.out.size _ _ _).out qx02, keep_cell ((((KC.drew.step (kp_alloc _ _)).step hbC).step hbM).put3 KC.drew.out.size _ _ _).out qy10, keep_cell ((((KC.drew.step (kp_alloc _ _)).step hbC).step hbM).put3 KC.drew.out.size _ _ _).out qy11, keep_cell ((((KC.drew.step (kp_alloc _ _)).step hbC).step hbM).put3 KC.drew.out.size _ _ _).out qy12, keep_cell ((((KC.drew.step (kp_alloc _ _)).step hbC).step hbM).put3 KC.drew.out.size _ _ _).out qz10, keep_cell ((((KC.drew.step (kp_alloc _ _)).step hbC).step hbM).put3 KC.drew.out.size _ _ _).out qz11, keep_cell ((((KC.drew.step (kp_alloc _ _)).step hbC).step hbM).put3 KC.drew.out.size _ _ _).out qz12, keep_cell ((((KC.drew.step (kp_alloc _ _)).step hbC).step hbM).put3 KC.drew.out.size _ _ _).out qy20, keep_cell ((((KC.drew.step (kp_alloc _ _)).step hbC).step hbM).put3 KC.drew.out.size _ _ _).out qy21, keep_cell ((((KC.drew.step (kp_alloc _ _)).step hbC).step hbM).put3 KC.drew.out.size _ _ _).out qy22, keep_cell ((((KC.drew.step (kp_alloc _ _)).step hbC).step hbM).put3 KC.drew.out.size _ _ _).out qz20, keep_cell ((((KC.drew.step (kp_alloc _ _)).step hbC).step hbM).put3 KC.drew.out.size _ _ _).out qz21, keep_cell ((((KC.drew.step (kp_alloc _ _)).step hbC).step hbM).put3 KC.drew.out.size _ _ _).out qz22, ((((KC.drew.step (kp_alloc _ _)).step hbC).step hbM).put3 KC.drew.out.size _ _ _)⟩ | exact ⟨keep_cell (((KC.drew.step hbC).step hbM).step (kp_alloc _ _)).out qx00, keep_cell (((KC.drew.step hbC).step hbM).step (kp_alloc _ _)).out qx01, keep_cell (((KC.drew.step hbC).step hbM).step (kp_alloc _ _)).out qx02, keep_cell (((KC.drew.step hbC).step hbM).step (kp_alloc _ _)).out qy10, keep_cell (((KC.drew.step hbC).step hbM).step (kp_alloc _ _)).out qy11, keep_cell (((KC.drew.step hbC).step hbM).step (kp_alloc _ _)).out qy12, keep_cell (((KC.drew.step hbC).step hbM).step (kp_alloc _ _)).out qz10, keep_cell (((KC.drew.step hbC).step hbM).step (kp_alloc _ _)).out qz11, keep_cell (((KC.drew.step hbC).step hbM).step (kp_alloc _ _)).out qz12, keep_cell (((KC.drew.step hbC).step hbM).step (kp_alloc _ _)).out qy20, keep_cell (((KC.drew.step hbC).step hbM).step (kp_alloc _ _)).out qy21, keep_cell (((KC.drew.step hbC).step hbM).step (kp_alloc _ _)).out qy22, keep_cell (((KC.drew.step hbC).step hbM).step (kp_alloc _ _)).out qz20, keep_cell (((KC.drew.step hbC).step hbM).step (kp_alloc _ _)).out qz21, keep_cell (((KC.drew.step hbC).step hbM).step (kp_alloc _ _)).out qz22, (((KC.drew.step hbC).step hbM).step (kp_alloc _ _))⟩ | exact ⟨keep_cell (((KC.drew.step hbC).step (kp_alloc _ _)).step hbM).out qx00, keep_cell (((KC.drew.step hbC).step (kp_alloc _ _)).step hbM).out qx01, keep_cell (((KC.drew.step hbC).step (kp_alloc _ _)).step hbM).out qx02, keep_cell (((KC.drew.step hbC).step (kp_alloc _ _)).step hbM).out qy10, keep_cell (((KC.drew.step hbC).step (kp_alloc _ _)).step hbM).out qy11, keep_cell (((KC.drew.step hbC).step (kp_alloc _ _)).step hbM).out qy12, keep_cell (((KC.drew.step hbC).step (kp_alloc _ _)).step hbM).out qz10, keep_cell (((KC.drew.step hbC).step (kp_alloc _ _)).step hbM).out qz11, keep_cell (((KC.drew.step hbC).step (kp_alloc _ _)).step hbM).out qz12, keep_cell (((KC.drew.step hbC).step (kp_alloc _ _)).step hbM).out qy20, keep_cell (((KC.drew.step hbC).step (kp_alloc _ _)).step hbM).out qy21, keep_cell (((KC.drew.step hbC).step (kp_alloc _ _)).step hbM).out qy22, keep_cell (((KC.drew.step hbC).step (kp_alloc _ _)).step hbM).out qz20, keep_cell (((KC.drew.step hbC).step (kp_alloc _ _)).step hbM).out qz21, keep_cell (((KC.drew.step hbC).step (kp_alloc _ _)).step hbM).out qz22, (((KC.drew.step hbC).step (kp_alloc _ _)).step hbM)⟩ | exact ⟨keep_cell (((KC.drew.step (kp_alloc _ _)).step hbC).step hbM).out qx00, keep_cell (((KC.drew.step (kp_alloc _ _)).step hbC).step hbM).out qx01, keep_cell (((KC.drew.step (kp_alloc _ _)).step hbC).step hbM).out qx02, keep_cell (((KC.drew.step (kp_alloc _ _)).step hbC).step hbM).out qy10, keep_cell (((KC.drew.step (kp_alloc _ _)).step hbC).step hbM).out qy11, keep_cell (((KC.drew.step (kp_alloc _ _)).step hbC).step hbM).out qy12, keep_cell (((KC.drew.step (kp_alloc _ _)).step hbC).step hbM).out qz10, keep_cell (((KC.drew.step (kp_alloc _ _)).step hbC).step hbM).out qz11, keep_cell (((KC.drew.step (kp_alloc _ _)).step hbC).step hbM).out qz12, keep_cell (((KC.drew.step (kp_alloc _ _)).step hbC).step hbM).out qy20, keep_cell (((KC.drew.step (kp_alloc _ _)).step hbC).step hbM).out qy21, keep_cell (((KC.drew.step (kp_alloc _ _)).step hbC).step hbM).out qy22, keep_cell (((KC.drew.step (kp_alloc _ _)).step hbC).step hbM).out qz20, keep_cell (((KC.drew.step (kp_alloc _ _)).step hbC).step hbM).out qz21, keep_cell (((KC.drew.step (kp_alloc _ _)).step hbC).step hbM).out qz22, (((KC.drew.step (kp_alloc _ _)).step hbC).step hbM)⟩ | exact ⟨keep_cell ((KC.drew.step hbC).step hbM).out qx00, keep_cell ((KC.drew.step hbC).step hbM).out qx01, keep_cell ((KC.drew.step hbC).step hbM).out qx02, keep_cell ((KC.drew.step hbC).step hbM).out qy10, keep_cell ((KC.drew.step hbC).step hbM).out qy11, keep_cell ((KC.drew.step hbC).step hbM).out qy12, keep_cell ((KC.drew.step hbC).step hbM).out qz10, keep_cell ((KC.drew.step hbC).step hbM).out qz11, keep_cell ((KC.drew.step hbC).step hbM).out qz12, keep_cell ((KC.drew.step hbC).step hbM).out qy20, keep_cell ((KC.drew.step hbC).step hbM).out qy21, keep_cell ((KC.drew.step hbC).step hbM).out qy22, keep_cell ((KC.drew.step hbC).step hbM).out qz20, keep_cell ((KC.drew.step hbC).step hbM).out qz21, keep_cell ((KC.drew.step hbC).step hbM).out qz22, ((KC.drew.step hbC).step hbM)⟩ | exact ⟨keep_cell ((KC.drew.step hbC).step (kp_alloc _ _)).out qx00, keep_cell ((KC.drew.step hbC).step (kp_alloc _ _)).out qx01, keep_cell ((KC.drew.step hbC).step (kp_alloc _ _)).out qx02, keep_cell ((KC.drew.step hbC).step (kp_alloc _ _)).out qy10, keep_cell ((KC.drew.step hbC).step (kp_alloc _ _)).out qy11, keep_cell ((KC.drew.step hbC).step (kp_alloc _ _)).out qy12, keep_cell ((KC.drew.step hbC).step (kp_alloc _ _)).out qz10, keep_cell ((KC.drew.step hbC).step (kp_alloc _ _)).out qz11, keep_cell ((KC.drew.step hbC).step (kp_alloc _ _)).out qz12, keep_cell ((KC.drew.step hbC).step (kp_alloc _ _)).out qy20, keep_cell ((KC.drew.step hbC).step (kp_alloc _ _)).out qy21, keep_cell ((KC.drew.step hbC).step (kp_alloc _ _)).out qy22, keep_cell ((KC.drew.step hbC).step (kp_alloc _ _)).out qz20, keep_cell ((KC.drew.step hbC).step (kp_alloc _ _)).out qz21, keep_cell ((KC.drew.step hbC).step (kp_alloc _ _)).out qz22, ((KC.drew.step hbC).step (kp_alloc _ _))⟩ | exact ⟨keep_cell ((KC.drew.step (kp_alloc _ _)).step hbC).out qx00, keep_cell ((KC.drew.step (kp_alloc _ _)).step hbC).out qx01, keep_cell ((KC.drew.step (kp_alloc _ _)).step hbC).out qx02, keep_cell ((KC.drew.step (kp_alloc _ _)).step hbC).out qy10, keep_cell ((KC.drew.step (kp_alloc _ _)).step hbC).out qy11, keep_cell ((KC.drew.step (kp_alloc _ _)).step hbC).out qy12, keep_cell ((KC.drew.step (kp_alloc _ _)).step hbC).out qz10, keep_cell ((KC.drew.step (kp_alloc _ _)).step hbC).out qz11, keep_cell ((KC.drew.step (kp_alloc _ _)).step hbC).out qz12, keep_cell ((KC.drew.step (kp_alloc _ _)).step hbC).out qy20, keep_cell ((KC.drew.step (kp_alloc _ _)).step hbC).out qy21, keep_cell ((KC.drew.step (kp_alloc _ _)).step hbC).out qy22, keep_cell ((KC.drew.step (kp_alloc _ _)).step hbC).out qz20, keep_cell ((KC.drew.step (kp_alloc _ _)).step hbC).out qz21, keep_cell ((KC.drew.step (kp_alloc _ _)).step hbC).out qz22, ((KC.drew.step (kp_alloc _ _)).step hbC)⟩ | exact ⟨keep_cell (KC.drew.step hbC).out qx00, keep_cell (KC.drew.step hbC).out qx01, keep_cell (KC.drew.step hbC).out qx02, keep_cell (KC.drew.step hbC).out qy10, keep_cell (KC.drew.step hbC).out qy11, keep_cell (KC.drew.step hbC).out qy12, keep_cell (KC.drew.step hbC).out qz10, keep_cell (KC.drew.step hbC).out qz11, keep_cell (KC.drew.step hbC).out qz12, keep_cell (KC.drew.step hbC).out qy20, keep_cell (KC.drew.step hbC).out qy21, keep_cell (KC.drew.step hbC).out qy22, keep_cell (KC.drew.step hbC).out qz20, keep_cell (KC.drew.step hbC).out qz21, keep_cell (KC.drew.step hbC).out qz22, (KC.drew.step hbC)⟩ | exact ⟨keep_cell (KC.drew.step (kp_alloc _ _)).out qx00, keep_cell (KC.drew.step (kp_alloc _ _)).out qx01, keep_cell (KC.drew.step (kp_alloc _ _)).out qx02, keep_cell (KC.drew.step (kp_alloc _ _)).out qy10, keep_cell (KC.drew.step (kp_alloc _ _)).out qy11, keep_cell (KC.drew.step (kp_alloc _ _)).out qy12, keep_cell (KC.drew.step (kp_alloc _ _)).out qz10, keep_cell (KC.drew.step (kp_alloc _ _)).out qz11, keep_cell (KC.drew.step (kp_alloc _ _)).out qz12, keep_cell (KC.drew.step (kp_alloc _ _)).out qy20, keep_cell (KC.drew.step (kp_alloc _ _)).out qy21, keep_cell (KC.drew.step (kp_alloc _ _)).out qy22, keep_cell (KC.drew.step (kp_alloc _ _)).out qz20, keep_cell (KC.drew.step (kp_alloc _ _)).out qz21, keep_cell (KC.drew.step (kp_alloc _ _)).out qz22, (KC.drew.step (kp_alloc _ _))⟩ | exact ⟨keep_cell KC.drew.out qx00, keep_cell KC.drew.out qx01, keep_cell KC.drew.out qx02, keep_cell KC.drew.out qy10, keep_cell KC.drew.out qy11, keep_cell KC.drew.out qy12, keep_cell KC.drew.out qz10, keep_cell KC.drew.out qz11, keep_cell KC.drew.out qz12, keep_cell KC.drew.out qy20, keep_cell KC.drew.out qy21, keep_cell KC.drew.out qy22, keep_cell KC.drew.out qz20, keep_cell KC.drew.out qz21, keep_cell KC.drew.out qz22, KC.drew⟩)
          (first
            | (go_at_call 15; ((with_reducible refine (HC.out _ ?hq).mono ?_); (case hq => first | exact KC.drew | exact (KC.drew.step (kp_alloc _ _))); rintro e w2 ⟨v2, rfl, nC, hbC⟩; obtain ⟨s2, p2, l2, c2, e2, rfl, -⟩ := NumV.form nC))
            | (go_at_call 14; ((with_reducible refine (HM.out _ ?hq _ _ _ nC (fun b h => Or.inl h)).mono ?_); (case hq => exact ((KC.drew.step (kp_alloc _ _)).step hbC)); rintro e w3 ⟨v3, rfl, nM, hbM⟩; obtain ⟨s3, p3, l3, c3, e3, rfl, -⟩ := NumV.form nM; have hres := keep_block hbM (keep_block hbC (show (wc.drew.alloc (.cells #[.int .i64 0, .slice none 0 0, .int .i64 0] 34)).heap[wc.heap.size]? = some (.cells #[.int .i64 0, .slice none 0 0, .int .i64 0] 34) from heap_alloc_new wc.drew (.cells #[.int .i64 0, .slice none 0 0, .int .i64 0] 34))); obtain ⟨r0, r1, r2, f0, f1, f2⟩ := res_facts hres))
            | (go_at_call 14; ((with_reducible refine (HM.out _ ?hq _ _ _ nC (fun b h => Or.inl h)).mono ?_); (case hq => exact (KC.drew.step hbC)); rintro e w3 ⟨v3, rfl, nM, hbM⟩; obtain ⟨s3, p3, l3, c3, e3, rfl, -⟩ := NumV.form nM))
            | (go_at_call 14; ((with_reducible refine (HM.out _ ?hq _ _ _ (nC.lt.keep (kp_alloc _ _)) (fun b h => ⟨Or.inl h, Nat.lt_of_lt_of_le h.2 (KC.drew.step hbC).out.size⟩)).mono ?_); (case hq => exact ((KC.drew.step hbC).step (kp_alloc _ _))); rintro e w3 ⟨v3, rfl, nM, hbM⟩; obtain ⟨s3, p3, l3, c3, e3, rfl, -⟩ := NumV.form nM; have hres := keep_block hbM (heap_alloc_new w2 (.cells #[.int .i64 0, .slice none 0 0, .int .i64 0] 34)); obtain ⟨r0, r1, r2, f0, f1, f2⟩ := res_facts hres)))
        all_goals
          go_wp2_with fail
          go_meet
          first
            | exact numAt_new nM (fun j hj => by have h1 := hbC.size; have h2 := hbM.size; have h3 := KX.out.out.size; (try dsimp only at hj); (try simp only [World.size_alloc] at h1 h2 hj); omega) ((KC.drew.step hbC).step hbM) KX.out.out.size
            | exact numAt_end hres nM (fun j hj => by have h1 := hbC.size; have h2 := hbM.size; have h3 := KX.out.out.size; (try dsimp only at hj); (try simp only [World.size_alloc] at h1 h2 hj); omega) (((KC.drew.step hbC).step (kp_alloc _ _)).step hbM) (KC.drew.step hbC).out.size KX.out.out.size
            | exact numAt_end hres nM (fun j hj => by have h1 := hbC.size; have h2 := hbM.size; have h3 := KX.out.out.size; (try dsimp only at hj); (try simp only [World.size_alloc] at h1 h2 hj); omega) (((KC.drew.step (kp_alloc _ _)).step hbC).step hbM) (Nat.le_refl _) KX.out.out.size
      case rest =>
        clear KC hdr hdr2 HC HM qx00 qx01 qx02 qy10 qy11 qy12 qz10 qz11 qz12 qy20 qy21 qy22 qz20 qz21 qz22
        obtain ⟨ff, sf, pf, lf, cf, ef, rfl, Lf, Bf, Nf, Kf⟩ := hcut
        obtain ⟨wd, rfl⟩ : ∃ z : World, z = wc := ⟨_, rfl⟩
        have BFf := Lib.hid Bf
        have NFf := Lib.hid Nf
        have KX := Lib.hid (KX.out.step Kf)
        have BX := Lib.hid (keep_block Kf BX.out)
        have BY := Lib.hid (keep_block Kf BY.out)
        have BZ := Lib.hid (fun (j : Nat) (u : Value) h => keep_cell Kf (BZ.out j u h))
        have MX0 := Lib.hid ((MX0.out.mono (Q := fun b => wn.heap.size ≤ b) (fun b h => h.1)).keep Kf).lt
        have MX1 := Lib.hid ((MX1.out.mono (Q := fun b => wn.heap.size ≤ b) (fun b h => h.1)).keep Kf).lt
        have MX2 := Lib.hid ((MX2.out.mono (Q := fun b => wn.heap.size ≤ b) (fun b h => h.1)).keep Kf).lt
        have MY0 := Lib.hid ((MY0.out.mono (Q := fun b => wn.heap.size ≤ b) (fun b h => h.1)).keep Kf).lt
        have MY1 := Lib.hid ((MY1.out.mono (Q := fun b => wn.heap.size ≤ b) (fun b h => h.1)).keep Kf).lt
        have MY2 := Lib.hid ((MY2.out.mono (Q := fun b => wn.heap.size ≤ b) (fun b h => h.1)).keep Kf).lt
        have MZ0 := Lib.hid ((MZ0.out.mono (Q := fun b => wn.heap.size ≤ b) (fun b h => h.1)).keep Kf).lt
        have MZ1 := Lib.hid ((MZ1.out.mono (Q := fun b => wn.heap.size ≤ b) (fun b h => h.1)).keep Kf).lt
        have MZ2 := Lib.hid ((MZ2.out.mono (Q := fun b => wn.heap.size ≤ b) (fun b h => h.1)).keep Kf).lt
        have qy00 : wd.cell? ⟨yb, 0, none⟩ = some (.int .i64 sy0) := cell_of_block BY.out 0
        have qy01 : wd.cell? ⟨yb, 1, none⟩ = some (.slice py0 ly0 gy0) := cell_of_block BY.out 1
        have qy02 : wd.cell? ⟨yb, 2, none⟩ = some (.int .i64 ey0) := cell_of_block BY.out 2
        have qx10 : wd.cell? ⟨xb, 3, none⟩ = some (.int .i64 sx1) := cell_of_block BX.out 3
        have qx11 : wd.cell? ⟨xb, 4, none⟩ = some (.slice px1 lx1 gx1) := cell_of_block BX.out 4
        have qx12 : wd.cell? ⟨xb, 5, none⟩ = some (.int .i64 ex1) := cell_of_block BX.out 5
        have qz10 : wd.cell? ⟨zb, 3, none⟩ = some (.int .i64 sz1) := BZ.out 3 _ rfl
        have qz11 : wd.cell? ⟨zb, 4, none⟩ = some (.slice pz1 lz1 gz1) := BZ.out 4 _ rfl
        have qz12 : wd.cell? ⟨zb, 5, none⟩ = some (.int .i64 ez1) := BZ.out 5 _ rfl
        have qx20 : wd.cell? ⟨xb, 6, none⟩ = some (.int .i64 sx2) := cell_of_block BX.out 6
        have qx21 : wd.cell? ⟨xb, 7, none⟩ = some (.slice px2 lx2 gx2) := cell_of_block BX.out 7
        have qx22 : wd.cell? ⟨xb, 8, none⟩ = some (.int .i64 ex2) := cell_of_block BX.out 8
        have qz20 : wd.cell? ⟨zb, 6, none⟩ = some (.int .i64 sz2) := BZ.out 6 _ rfl
        have qz21 : wd.cell? ⟨zb, 7, none⟩ = some (.slice pz2 lz2 gz2) := BZ.out 7 _ rfl
        have qz22 : wd.cell? ⟨zb, 8, none⟩ = some (.int .i64 ez2) := BZ.out 8 _ rfl
        have KC := Kp.refl wd
        have hdr : wd.drew.heap.size = wd.heap.size := rfl
        have hdr2 : (wd.alloc (.cells #[.int .i64 0, .slice none 0 0, .int .i64 0] 34)).drew.heap.size = wd.heap.size + 1 := World.size_alloc _ _
        have HC := Lib.hid (fun (Y : World) (h : Kp wd Y) => crossN (MX1.out.keep h.out) (MZ1.out.keep h.out) (MX2.out.keep h.out) (MZ2.out.keep h.out) (by decide) (by decide))
        have HM := Lib.hid (fun (Y : World) (h : Kp wd Y) (Q : Nat → Prop) (v : Value) (q : Rat) (n : NumV Q Y v 6005 q) (hQ : ∀ b, (wn.heap.size ≤ b ∧ b < wd.heap.size) → Q b) => mulN ((MY0.out.keep h.out).mono hQ) n (by decide) (by decide))
        go_upto_region 9 with (fail)
        go_cut [14] (NumAt wd wn.heap.size 8006 ((ov ay - ov dy) * ((ov bx - ov dx) * ((ov cx - ov dx) * (ov cx - ov dx) + (ov cy - ov dy) * (ov cy - ov dy)) - (ov cx - ov dx) * ((ov bx - ov dx) * (ov bx - ov dx) + (ov bY - ov dy) * (ov bY - ov dy)))))
        case first =>
          go_region_held3 (fun w' => w'.cell? ⟨yb, 0, none⟩ = some (.int .i64 sy0) ∧ w'.cell? ⟨yb, 1, none⟩ = some (.slice py0 ly0 gy0) ∧ w'.cell? ⟨yb, 2, none⟩ = some (.int .i64 ey0) ∧ w'.cell? ⟨xb, 3, none⟩ = some (.int .i64 sx1) ∧ w'.cell? ⟨xb, 4, none⟩ = some (.slice px1 lx1 gx1) ∧ w'.cell? ⟨xb, 5, none⟩ = some (.int .i64 ex1) ∧ w'.cell? ⟨zb, 3, none⟩ = some (.int .i64 sz1) ∧ w'.cell? ⟨zb, 4, none⟩ = some (.slice pz1 lz1 gz1) ∧ w'.cell? ⟨zb, 5, none⟩ = some (.int .i64 ez1) ∧ w'.cell? ⟨xb, 6, none⟩ = some (.int .i64 sx2) ∧ w'.cell? ⟨xb, 7, none⟩ = some (.slice px2 lx2 gx2) ∧ w'.cell? ⟨xb, 8, none⟩ = some (.int .i64 ex2) ∧ w'.cell? ⟨zb, 6, none⟩ = some (.int .i64 sz2) ∧ w'.cell? ⟨zb, 7, none⟩ = some (.slice pz2 lz2 gz2) ∧ w'.cell? ⟨zb, 8, none⟩ = some (.int .i64 ez2) ∧ Kp wd w')
            (first | exact ⟨keep_cell ((((KC.drew.step hbC).step hbM).step (kp_alloc _ _)).put3 ((KC.drew.step hbC).step hbM).out.size _ _ _).out qy00, keep_cell ((((KC.drew.step hbC).step hbM).step (kp_alloc _ _)).put3 ((KC.drew.step hbC).step hbM).out.size _ _ _).out qy01, keep_cell ((((KC.drew.step hbC).step hbM).step (kp_alloc _ _)).put3 ((KC.drew.step hbC).step hbM).out.size _ _ _).out qy02, keep_cell ((((KC.drew.step hbC).step hbM).step (kp_alloc _ _)).put3 ((KC.drew.step hbC).step hbM).out.size _ _ _).out qx10, keep_cell ((((KC.drew.step hbC).step hbM).step (kp_alloc _ _)).put3 ((KC.drew.step hbC).step hbM).out.size _ _ _).out qx11, keep_cell ((((KC.drew.step hbC).step hbM).step (kp_alloc _ _)).put3 ((KC.drew.step hbC).step hbM).out.size _ _ _).out qx12, keep_cell ((((KC.drew.step hbC).step hbM).step (kp_alloc _ _)).put3 ((KC.drew.step hbC).step hbM).out.size _ _ _).out qz10, keep_cell ((((KC.drew.step hbC).step hbM).step (kp_alloc _ _)).put3 ((KC.drew.step hbC).step hbM).out.size _ _ _).out qz11, keep_cell ((((KC.drew.step hbC).step hbM).step (kp_alloc _ _)).put3 ((KC.drew.step hbC).step hbM).out.size _ _ _).out qz12, keep_cell ((((KC.drew.step hbC).step hbM).step (kp_alloc _ _)).put3 ((KC.drew.step hbC).step hbM).out.size _ _ _).out qx20, keep_cell ((((KC.drew.step hbC).step hbM).step (kp_alloc _ _)).put3 ((KC.drew.step hbC).step hbM).out.size _ _ _).out qx21, keep_cell ((((KC.drew.step hbC).step hbM).step (kp_alloc _ _)).put3 ((KC.drew.step hbC).step hbM).out.size _ _ _).out qx22, keep_cell ((((KC.drew.step hbC).step hbM).step (kp_alloc _ _)).put3 ((KC.drew.step hbC).step hbM).out.size _ _ _).out qz20, keep_cell ((((KC.drew.step hbC).step hbM).step (kp_alloc _ _)).put3 ((KC.drew.step hbC).step hbM).out.size _ _ _).out qz21, keep_cell ((((KC.drew.step hbC).step hbM).step (kp_alloc _ _)).put3 ((KC.drew.step hbC).step hbM).out.size _ _ _).out qz22, ((((KC.drew.step hbC).step hbM).step (kp_alloc _ _)).put3 ((KC.drew.step hbC).step hbM).out.size _ _ _)⟩ | exact ⟨keep_cell ((((KC.drew.step hbC).step (kp_alloc _ _)).step hbM).put3 (KC.drew.step hbC).out.size _ _ _).out qy00, keep_cell ((((KC.drew.step hbC).step (kp_alloc _ _)).step hbM).put3 (KC.drew.step hbC).out.size _ _ _).out qy01, keep_cell ((((KC.drew.step hbC).step (kp_alloc _ _)).step hbM).put3 (KC.drew.step hbC).out.size _ _ _).out qy02, keep_cell ((((KC.drew.step hbC).step (kp_alloc _ _)).step hbM).put3 (KC.drew.step hbC).out.size _ _ _).out qx10, keep_cell ((((KC.drew.step hbC).step (kp_alloc _ _)).step hbM).put3 (KC.drew.step hbC).out.size _ _ _).out qx11, keep_cell ((((KC.drew.step hbC).step (kp_alloc _ _)).step hbM).put3 (KC.drew.step hbC).out.size _ _ _).out qx12, keep_cell ((((KC.drew.step hbC).step (kp_alloc _ _)).step hbM).put3 (KC.drew.step hbC).out.size _ _ _).out qz10, keep_cell ((((KC.drew.step hbC).step (kp_alloc _ _)).step hbM).put3 (KC.drew.step hbC).out.size _ _ _).out qz11, keep_cell ((((KC.drew.step hbC).step (kp_alloc _ _)).step hbM).put3 (KC.drew.step hbC).out.size _ _ _).out qz12, keep_cell ((((KC.drew.step hbC).step (kp_alloc _ _)).step hbM).put3 (KC.drew.step hbC).out.size _ _ _).out qx20, keep_cell ((((KC.drew.step hbC).step (kp_alloc _ _)).step hbM).put3 (KC.drew.step hbC).out.size _ _ _).out qx21, keep_cell ((((KC.drew.step hbC).step (kp_alloc _ _)).step hbM).put3 (KC.drew.step hbC).out.size _ _ _).out qx22, keep_cell ((((KC.drew.step hbC).step (kp_alloc _ _)).step hbM).put3 (KC.drew.step hbC).out.size _ _ _).out qz20, keep_cell ((((KC.drew.step hbC).step (kp_alloc _ _)).step hbM).put3 (KC.drew.step hbC).out.size _ _ _).out qz21, keep_cell ((((KC.drew.step hbC).step (kp_alloc _ _)).step hbM).put3 (KC.drew.step hbC).out.size _ _ _).out qz22, ((((KC.drew.step hbC).step (kp_alloc _ _)).step hbM).put3 (KC.drew.step hbC).out.size _ _ _)⟩ | exact ⟨keep_cell ((((KC.drew.step (kp_alloc _ _)).step hbC).step hbM).put3 KC.drew.out.size _ _ _).out qy00, keep_cell ((((KC.drew.step (kp_alloc _ _)).step hbC).step hbM).put3 KC.drew.out.size _ _ _).out qy01, keep_cell ((((KC.drew.step (kp_alloc _ _)).step hbC).step hbM).put3 KC.drew.out.size _ _ _).out qy02, keep_cell ((((KC.drew.step (kp_alloc _ _)).step hbC).step hbM).put3 KC.drew.out.size _ _ _).out qx10, keep_cell ((((KC.drew.step (kp_alloc _ _)).step hbC).step hbM).put3 KC.drew.out.size _ _ _).out qx11, keep_cell ((((KC.drew.step (kp_alloc _ _)).step hbC).step hbM).put3 KC.drew.out.size _ _ _).out qx12, keep_cell ((((KC.drew.step (kp_alloc _ _)).step hbC).step hbM).put3 KC.drew.out.size _ _ _).out qz10, keep_cell ((((KC.drew.step (kp_alloc _ _)).step hbC).step hbM).put3 KC.drew.out.size _ _ _).out qz11, keep_cell ((((KC.drew.step (kp_alloc _ _)).step hbC).step hbM).put3 KC.drew.out.size _ _ _).out qz12, keep_cell ((((KC.drew.step (kp_alloc _ _)).step hbC).step hbM).put3 KC.drew.out.size _ _ _).out qx20, keep_cell ((((KC.drew.step (kp_alloc _ _)).step hbC).step hbM).put3 KC.drew.out.size _ _ _).out qx21, keep_cell ((((KC.drew.step (kp_alloc _ _)).step hbC).step hbM).put3 KC.drew.out.size _ _ _).out qx22, keep_cell ((((KC.drew.step (kp_alloc _ _)).step hbC).step hbM).put3 KC.drew.out.size _ _ _).out qz20, keep_cell ((((KC.drew.step (kp_alloc _ _)).step hbC).step hbM).put3 KC.drew.out.size _ _ _).out qz21, keep_cell ((((KC.drew.step (kp_alloc _ _)).step hbC).step hbM).put3 KC.drew.out.size _ _ _).out qz22, ((((KC.drew.step (kp_alloc _ _)).step hbC).step hbM).put3 KC.drew.out.size _ _ _)⟩ | exact ⟨keep_cell (((KC.drew.step hbC).step hbM).step (kp_alloc _ _)).out qy00, keep_cell (((KC.drew.step hbC).step hbM).step (kp_alloc _ _)).out qy01, keep_cell (((KC.drew.step hbC).step hbM).step (kp_alloc _ _)).out qy02, keep_cell (((KC.drew.step hbC).step hbM).step (kp_alloc _ _)).out qx10, keep_cell (((KC.drew.step hbC).step hbM).step (kp_alloc _ _)).out qx11, keep_cell (((KC.drew.step hbC).step hbM).step (kp_alloc _ _)).out qx12, keep_cell (((KC.drew.step hbC).step hbM).step (kp_alloc _ _)).out qz10, keep_cell (((KC.drew.step hbC).step hbM).step (kp_alloc _ _)).out qz11, keep_cell (((KC.drew.step hbC).step hbM).step (kp_alloc _ _)).out qz12, keep_cell (((KC.drew.step hbC).step hbM).step (kp_alloc _ _)).out qx20, keep_cell (((KC.drew.step hbC).step hbM).step (kp_alloc _ _)).out qx21, keep_cell (((KC.drew.step hbC).step hbM).step (kp_alloc _ _)).out qx22, keep_cell (((KC.drew.step hbC).step hbM).step (kp_alloc _ _)).out qz20, keep_cell (((KC.drew.step hbC).step hbM).step (kp_alloc _ _)).out qz21, keep_cell (((KC.drew.step hbC).step hbM).step (kp_alloc _ _)).out qz22, (((KC.drew.step hbC).step hbM).step (kp_alloc _ _))⟩ | exact ⟨keep_cell (((KC.drew.step hbC).step (kp_alloc _ _)).step hbM).out qy00, keep_cell (((KC.drew.step hbC).step (kp_alloc _ _)).step hbM).out qy01, keep_cell (((KC.drew.step hbC).step (kp_alloc _ _)).step hbM).out qy02, keep_cell (((KC.drew.step hbC).step (kp_alloc _ _)).step hbM).out qx10, keep_cell (((KC.drew.step hbC).step (kp_alloc _ _)).step hbM).out qx11, keep_cell (((KC.drew.step hbC).step (kp_alloc _ _)).step hbM).out qx12, keep_cell (((KC.drew.step hbC).step (kp_alloc _ _)).step hbM).out qz10, keep_cell (((KC.drew.step hbC).step (kp_alloc _ _)).step hbM).out qz11, keep_cell (((KC.drew.step hbC).step (kp_alloc _ _)).step hbM).out qz12, keep_cell (((KC.drew.step hbC).step (kp_alloc _ _)).step hbM).out qx20, keep_cell (((KC.drew.step hbC).step (kp_alloc _ _)).step hbM).out qx21, keep_cell (((KC.drew.step hbC).step (kp_alloc _ _)).step hbM).out qx22, keep_cell (((KC.drew.step hbC).step (kp_alloc _ _)).step hbM).out qz20, keep_cell (((KC.drew.step hbC).step (kp_alloc _ _)).step hbM).out qz21, keep_cell (((KC.drew.step hbC).step (kp_alloc _ _)).step hbM).out qz22, (((KC.drew.step hbC).step (kp_alloc _ _)).step hbM)⟩ | exact ⟨keep_cell (((KC.drew.step (kp_alloc _ _)).step hbC).step hbM).out qy00, keep_cell (((KC.drew.step (kp_alloc _ _)).step hbC).step hbM).out qy01, keep_cell (((KC.drew.step (kp_alloc _ _)).step hbC).step hbM).out qy02, keep_cell (((KC.drew.step (kp_alloc _ _)).step hbC).step hbM).out qx10, keep_cell (((KC.drew.step (kp_alloc _ _)).step hbC).step hbM).out qx11, keep_cell (((KC.drew.step (kp_alloc _ _)).step hbC).step hbM).out qx12, keep_cell (((KC.drew.step (kp_alloc _ _)).step hbC).step hbM).out qz10, keep_cell (((KC.drew.step (kp_alloc _ _)).step hbC).step hbM).out qz11, keep_cell (((KC.drew.step (kp_alloc _ _)).step hbC).step hbM).out qz12, keep_cell (((KC.drew.step (kp_alloc _ _)).step hbC).step hbM).out qx20, keep_cell (((KC.drew.step (kp_alloc _ _)).step hbC).step hbM).out qx21, keep_cell (((KC.drew.step (kp_alloc _ _)).step hbC).step hbM).out qx22, keep_cell (((KC.drew.step (kp_alloc _ _)).step hbC).step hbM).out qz20, keep_cell (((KC.drew.step (kp_alloc _ _)).step hbC).step hbM).out qz21, keep_cell (((KC.drew.step (kp_alloc _ _)).step hbC).step hbM).out qz22, (((KC.drew.step (kp_alloc _ _)).step hbC).step hbM)⟩ | exact ⟨keep_cell ((KC.drew.step hbC).step hbM).out qy00, keep_cell ((KC.drew.step hbC).step hbM).out qy01, keep_cell ((KC.drew.step hbC).step hbM).out qy02, keep_cell ((KC.drew.step hbC).step hbM).out qx10, keep_cell ((KC.drew.step hbC).step hbM).out qx11, keep_cell ((KC.drew.step hbC).step hbM).out qx12, keep_cell ((KC.drew.step hbC).step hbM).out qz10, keep_cell ((KC.drew.step hbC).step hbM).out qz11, keep_cell ((KC.drew.step hbC).step hbM).out qz12, keep_cell ((KC.drew.step hbC).step hbM).out qx20, keep_cell ((KC.drew.step hbC).step hbM).out qx21, keep_cell ((KC.drew.step hbC).step hbM).out qx22, keep_cell ((KC.drew.step hbC).step hbM).out qz20, keep_cell ((KC.drew.step hbC).step hbM).out qz21, keep_cell ((KC.drew.step hbC).step hbM).out qz22, ((KC.drew.step hbC).step hbM)⟩ | exact ⟨keep_cell ((KC.drew.step hbC).step (kp_alloc _ _)).out qy00, keep_cell ((KC.drew.step hbC).step (kp_alloc _ _)).out qy01, keep_cell ((KC.drew.step hbC).step (kp_alloc _ _)).out qy02, keep_cell ((KC.drew.step hbC).step (kp_alloc _ _)).out qx10, keep_cell ((KC.drew.step hbC).step (kp_alloc _ _)).out qx11, keep_cell ((KC.drew.step hbC).step (kp_alloc _ _)).out qx12, keep_cell ((KC.drew.step hbC).step (kp_alloc _ _)).out qz10, keep_cell ((KC.drew.step hbC).step (kp_alloc _ _)).out qz11, keep_cell ((KC.drew.step hbC).step (kp_alloc _ _)).out qz12, keep_cell ((KC.drew.step hbC).step (kp_alloc _ _)).out qx20, keep_cell ((KC.drew.step hbC).step (kp_alloc _ _)).out qx21, keep_cell ((KC.drew.step hbC).step (kp_alloc _ _)).out qx22, keep_cell ((KC.drew.step hbC).step (kp_alloc _ _)).out qz20, keep_cell ((KC.drew.step hbC).step (kp_alloc _ _)).out qz21, keep_cell ((KC.drew.step hbC).step (kp_alloc _ _)).out qz22, ((KC.drew.step hbC).step (kp_alloc _ _))⟩ | exact ⟨keep_cell ((KC.drew.step (kp_alloc _ _)).step hbC).out qy00, keep_cell ((KC.drew.step (kp_alloc _ _)).step hbC).out qy01, keep_cell ((KC.drew.step (kp_alloc _ _)).step hbC).out qy02, keep_cell ((KC.drew.step (kp_alloc _ _)).step hbC).out qx10, keep_cell ((KC.drew.step (kp_alloc _ _)).step hbC).out qx11, keep_cell ((KC.drew.step (kp_alloc _ _)).step hbC).out qx12, keep_cell ((KC.drew.step (kp_alloc _ _)).step hbC).out qz10, keep_cell ((KC.drew.step (kp_alloc _ _)).step hbC).out qz11, keep_cell ((KC.drew.step (kp_alloc _ _)).step hbC).out qz12, keep_cell ((KC.drew.step (kp_alloc _ _)).step hbC).out qx20, keep_cell ((KC.drew.step (kp_alloc _ _)).step hbC).out qx21, keep_cell ((KC.drew.step (kp_alloc _ _)).step hbC).out qx22, keep_cell ((KC.drew.step (kp_alloc _ _)).step hbC).out qz20, keep_cell ((KC.drew.step (kp_alloc _ _)).step hbC).out qz21, keep_cell ((KC.drew.step (kp_alloc _ _)).step hbC).out qz22, ((KC.drew.step (kp_alloc _ _)).step hbC)⟩ | exact ⟨keep_cell (KC.drew.step hbC).out qy00, keep_cell (KC.drew.step hbC).out qy01, keep_cell (KC.drew.step hbC).out qy02, keep_cell (KC.drew.step hbC).out qx10, keep_cell (KC.drew.step hbC).out qx11, keep_cell (KC.drew.step hbC).out qx12, keep_cell (KC.drew.step hbC).out qz10, keep_cell (KC.drew.step hbC).out qz11, keep_cell (KC.drew.step hbC).out qz12, keep_cell (KC.drew.step hbC).out qx20, keep_cell (KC.drew.step hbC).out qx21, keep_cell (KC.drew.step hbC).out qx22, keep_cell (KC.drew.step hbC).out qz20, keep_cell (KC.drew.step hbC).out qz21, keep_cell (KC.drew.step hbC).out qz22, (KC.drew.step hbC)⟩ | exact ⟨keep_cell (KC.drew.step (kp_alloc _ _)).out qy00, keep_cell (KC.drew.step (kp_alloc _ _)).out qy01, keep_cell (KC.drew.step (kp_alloc _ _)).out qy02, keep_cell (KC.drew.step (kp_alloc _ _)).out qx10, keep_cell (KC.drew.step (kp_alloc _ _)).out qx11, keep_cell (KC.drew.step (kp_alloc _ _)).out qx12, keep_cell (KC.drew.step (kp_alloc _ _)).out qz10, keep_cell (KC.drew.step (kp_alloc _ _)).out qz11, keep_cell (KC.drew.step (kp_alloc _ _)).out qz12, keep_cell (KC.drew.step (kp_alloc _ _)).out qx20, keep_cell (KC.drew.step (kp_alloc _ _)).out qx21, keep_cell (KC.drew.step (kp_alloc _ _)).out qx22, keep_cell (KC.drew.step (kp_alloc _ _)).out qz20, keep_cell (KC.drew.step (kp_alloc _ _)).out qz21, keep_cell (KC.drew.step (kp_alloc _ _)).out qz22, (KC.drew.step (kp_alloc _ _))⟩ | exact ⟨keep_cell KC.drew.out qy00, keep_cell KC.drew.out qy01, keep_cell KC.drew.out qy02, keep_cell KC.drew.out qx10, keep_cell KC.drew.out qx11, keep_cell KC.drew.out qx12, keep_cell KC.drew.out qz10, keep_cell KC.drew.out qz11, keep_cell KC.drew.out qz12, keep_cell KC.drew.out qx20, keep_cell KC.drew.out qx21, keep_cell KC.drew.out qx22, keep_cell KC.drew.out qz20, keep_cell KC.drew.out qz21, keep_cell KC.drew.out qz22, KC.drew⟩)
            (first
              | (go_at_call 15; ((with_reducible refine (HC.out _ ?hq).mono ?_); (case hq => first | exact KC.drew | exact (KC.drew.step (kp_alloc _ _))); rintro e w2 ⟨v2, rfl, nC, hbC⟩; obtain ⟨s2, p2, l2, c2, e2, rfl, -⟩ := NumV.form nC))
              | (go_at_call 14; ((with_reducible refine (HM.out _ ?hq _ _ _ nC (fun b h => Or.inl h)).mono ?_); (case hq => exact ((KC.drew.step (kp_alloc _ _)).step hbC)); rintro e w3 ⟨v3, rfl, nM, hbM⟩; obtain ⟨s3, p3, l3, c3, e3, rfl, -⟩ := NumV.form nM; have hres := keep_block hbM (keep_block hbC (show (wd.drew.alloc (.cells #[.int .i64 0, .slice none 0 0, .int .i64 0] 34)).heap[wd.heap.size]? = some (.cells #[.int .i64 0, .slice none 0 0, .int .i64 0] 34) from heap_alloc_new wd.drew (.cells #[.int .i64 0, .slice none 0 0, .int .i64 0] 34))); obtain ⟨r0, r1, r2, f0, f1, f2⟩ := res_facts hres))
              | (go_at_call 14; ((with_reducible refine (HM.out _ ?hq _ _ _ nC (fun b h => Or.inl h)).mono ?_); (case hq => exact (KC.drew.step hbC)); rintro e w3 ⟨v3, rfl, nM, hbM⟩; obtain ⟨s3, p3, l3, c3, e3, rfl, -⟩ := NumV.form nM))
              | (go_at_call 14; ((with_reducible refine (HM.out _ ?hq _ _ _ (nC.lt.keep (kp_alloc _ _)) (fun b h => ⟨Or.inl h, Nat.lt_of_lt_of_le h.2 (KC.drew.step hbC).out.size⟩)).mono ?_); (case hq => exact ((KC.drew.step hbC).step (kp_alloc _ _))); rintro e w3 ⟨v3, rfl, nM, hbM⟩; obtain ⟨s3, p3, l3, c3, e3, rfl, -⟩ := NumV.form nM; have hres := keep_block hbM (heap_alloc_new w2 (.cells #[.int .i64 0, .slice none 0 0, .int .i64 0] 34)); obtain ⟨r0, r1, r2, f0, f1, f2⟩ := res_facts hres)))
          all_goals
            go_wp2_with fail
            go_meet
            first
              | exact numAt_new nM (fun j hj => by have h1 := hbC.size; have h2 := hbM.size; have h3 := KX.out.out.size; (try dsimp only at hj); (try simp only [World.size_alloc] at h1 h2 hj); omega) ((KC.drew.step hbC).step hbM) KX.out.out.size
              | exact numAt_end hres nM (fun j hj => by have h1 := hbC.size; have h2 := hbM.size; have h3 := KX.out.out.size; (try dsimp only at hj); (try simp only [World.size_alloc] at h1 h2 hj); omega) (((KC.drew.step hbC).step (kp_alloc _ _)).step hbM) (KC.drew.step hbC).out.size KX.out.out.size
              | exact numAt_end hres nM (fun j hj => by have h1 := hbC.size; have h2 := hbM.size; have h3 := KX.out.out.size; (try dsimp only at hj); (try simp only [World.size_alloc] at h1 h2 hj); omega) (((KC.drew.step (kp_alloc _ _)).step hbC).step hbM) (Nat.le_refl _) KX.out.out.size
        case rest =>
          clear KC hdr hdr2 HC HM qy00 qy01 qy02 qx10 qx11 qx12 qz10 qz11 qz12 qx20 qx21 qx22 qz20 qz21 qz22
          obtain ⟨fg, sg, pg, lg, cg, eg, rfl, Lg, Bg, Ng, Kg⟩ := hcut
          obtain ⟨we, rfl⟩ : ∃ z : World, z = wc := ⟨_, rfl⟩
          have BFg := Lib.hid Bg
          have NFg := Lib.hid Ng
          have KX := Lib.hid (KX.out.step Kg)
          have BX := Lib.hid (keep_block Kg BX.out)
          have BY := Lib.hid (keep_block Kg BY.out)
          have BZ := Lib.hid (fun (j : Nat) (u : Value) h => keep_cell Kg (BZ.out j u h))
          have MX0 := Lib.hid ((MX0.out.mono (Q := fun b => wn.heap.size ≤ b) (fun b h => h.1)).keep Kg).lt
          have MX1 := Lib.hid ((MX1.out.mono (Q := fun b => wn.heap.size ≤ b) (fun b h => h.1)).keep Kg).lt
          have MX2 := Lib.hid ((MX2.out.mono (Q := fun b => wn.heap.size ≤ b) (fun b h => h.1)).keep Kg).lt
          have MY0 := Lib.hid ((MY0.out.mono (Q := fun b => wn.heap.size ≤ b) (fun b h => h.1)).keep Kg).lt
          have MY1 := Lib.hid ((MY1.out.mono (Q := fun b => wn.heap.size ≤ b) (fun b h => h.1)).keep Kg).lt
          have MY2 := Lib.hid ((MY2.out.mono (Q := fun b => wn.heap.size ≤ b) (fun b h => h.1)).keep Kg).lt
          have MZ0 := Lib.hid ((MZ0.out.mono (Q := fun b => wn.heap.size ≤ b) (fun b h => h.1)).keep Kg).lt
          have MZ1 := Lib.hid ((MZ1.out.mono (Q := fun b => wn.heap.size ≤ b) (fun b h => h.1)).keep Kg).lt
          have MZ2 := Lib.hid ((MZ2.out.mono (Q := fun b => wn.heap.size ≤ b) (fun b h => h.1)).keep Kg).lt
          have BFf := Lib.hid (keep_block Kg BFf.out)
          have NFf := Lib.hid (NFf.out.keep Kg)
          have qz00 : we.cell? ⟨zb, 0, none⟩ = some (.int .i64 sz0) := BZ.out 0 _ rfl
          have qz01 : we.cell? ⟨zb, 1, none⟩ = some (.slice pz0 lz0 gz0) := BZ.out 1 _ rfl
          have qz02 : we.cell? ⟨zb, 2, none⟩ = some (.int .i64 ez0) := BZ.out 2 _ rfl
          have qx10 : we.cell? ⟨xb, 3, none⟩ = some (.int .i64 sx1) := cell_of_block BX.out 3
          have qx11 : we.cell? ⟨xb, 4, none⟩ = some (.slice px1 lx1 gx1) := cell_of_block BX.out 4
          have qx12 : we.cell? ⟨xb, 5, none⟩ = some (.int .i64 ex1) := cell_of_block BX.out 5
          have qy10 : we.cell? ⟨yb, 3, none⟩ = some (.int .i64 sy1) := cell_of_block BY.out 3
          have qy11 : we.cell? ⟨yb, 4, none⟩ = some (.slice py1 ly1 gy1) := cell_of_block BY.out 4
          have qy12 : we.cell? ⟨yb, 5, none⟩ = some (.int .i64 ey1) := cell_of_block BY.out 5
          have qx20 : we.cell? ⟨xb, 6, none⟩ = some (.int .i64 sx2) := cell_of_block BX.out 6
          have qx21 : we.cell? ⟨xb, 7, none⟩ = some (.slice px2 lx2 gx2) := cell_of_block BX.out 7
          have qx22 : we.cell? ⟨xb, 8, none⟩ = some (.int .i64 ex2) := cell_of_block BX.out 8
          have qy20 : we.cell? ⟨yb, 6, none⟩ = some (.int .i64 sy2) := cell_of_block BY.out 6
          have qy21 : we.cell? ⟨yb, 7, none⟩ = some (.slice py2 ly2 gy2) := cell_of_block BY.out 7
          have qy22 : we.cell? ⟨yb, 8, none⟩ = some (.int .i64 ey2) := cell_of_block BY.out 8
          have KC := Kp.refl we
          have hdr : we.drew.heap.size = we.heap.size := rfl
          have hdr2 : (we.alloc (.cells #[.int .i64 0, .slice none 0 0, .int .i64 0] 34)).drew.heap.size = we.heap.size + 1 := World.size_alloc _ _
          have HC := Lib.hid (fun (Y : World) (h : Kp we Y) => crossN (MX1.out.keep h.out) (MY1.out.keep h.out) (MX2.out.keep h.out) (MY2.out.keep h.out) (by decide) (by decide))
          have HM := Lib.hid (fun (Y : World) (h : Kp we Y) (Q : Nat → Prop) (v : Value) (q : Rat) (n : NumV Q Y v 4003 q) (hQ : ∀ b, (wn.heap.size ≤ b ∧ b < we.heap.size) → Q b) => mulN ((MZ0.out.keep h.out).mono hQ) n (by decide) (by decide))
          go_upto_region 10 with (fail)
          go_cut [15] (NumAt we wn.heap.size 8006 (((ov ax - ov dx) * (ov ax - ov dx) + (ov ay - ov dy) * (ov ay - ov dy)) * ((ov bx - ov dx) * (ov cy - ov dy) - (ov cx - ov dx) * (ov bY - ov dy))))
          case first =>
            go_region_held3 (fun w' => w'.cell? ⟨zb, 0, none⟩ = some (.int .i64 sz0) ∧ w'.cell? ⟨zb, 1, none⟩ = some (.slice pz0 lz0 gz0) ∧ w'.cell? ⟨zb, 2, none⟩ = some (.int .i64 ez0) ∧ w'.cell? ⟨xb, 3, none⟩ = some (.int .i64 sx1) ∧ w'.cell? ⟨xb, 4, none⟩ = some (.slice px1 lx1 gx1) ∧ w'.cell? ⟨xb, 5, none⟩ = some (.int .i64 ex1) ∧ w'.cell? ⟨yb, 3, none⟩ = some (.int .i64 sy1) ∧ w'.cell? ⟨yb, 4, none⟩ = some (.slice py1 ly1 gy1) ∧ w'.cell? ⟨yb, 5, none⟩ = some (.int .i64 ey1) ∧ w'.cell? ⟨xb, 6, none⟩ = some (.int .i64 sx2) ∧ w'.cell? ⟨xb, 7, none⟩ = some (.slice px2 lx2 gx2) ∧ w'.cell? ⟨xb, 8, none⟩ = some (.int .i64 ex2) ∧ w'.cell? ⟨yb, 6, none⟩ = some (.int .i64 sy2) ∧ w'.cell? ⟨yb, 7, none⟩ = some (.slice py2 ly2 gy2) ∧ w'.cell? ⟨yb, 8, none⟩ = some (.int .i64 ey2) ∧ Kp we w')
              (first | exact ⟨keep_cell ((((KC.drew.step hbC).step hbM).step (kp_alloc _ _)).put3 ((KC.drew.step hbC).step hbM).out.size _ _ _).out qz00, keep_cell ((((KC.drew.step hbC).step hbM).step (kp_alloc _ _)).put3 ((KC.drew.step hbC).step hbM).out.size _ _ _).out qz01, keep_cell ((((KC.drew.step hbC).step hbM).step (kp_alloc _ _)).put3 ((KC.drew.step hbC).step hbM).out.size _ _ _).out qz02, keep_cell ((((KC.drew.step hbC).step hbM).step (kp_alloc _ _)).put3 ((KC.drew.step hbC).step hbM).out.size _ _ _).out qx10, keep_cell ((((KC.drew.step hbC).step hbM).step (kp_alloc _ _)).put3 ((KC.drew.step hbC).step hbM).out.size _ _ _).out qx11, keep_cell ((((KC.drew.step hbC).step hbM).step (kp_alloc _ _)).put3 ((KC.drew.step hbC).step hbM).out.size _ _ _).out qx12, keep_cell ((((KC.drew.step hbC).step hbM).step (kp_alloc _ _)).put3 ((KC.drew.step hbC).step hbM).out.size _ _ _).out qy10, keep_cell ((((KC.drew.step hbC).step hbM).step (kp_alloc _ _)).put3 ((KC.drew.step hbC).step hbM).out.size _ _ _).out qy11, keep_cell ((((KC.drew.step hbC).step hbM).step (kp_alloc _ _)).put3 ((KC.drew.step hbC).step hbM).out.size _ _ _).out qy12, keep_cell ((((KC.drew.step hbC).step hbM).step (kp_alloc _ _)).put3 ((KC.drew.step hbC).step hbM).out.size _ _ _).out qx20, keep_cell ((((KC.drew.step hbC).step hbM).step (kp_alloc _ _)).put3 ((KC.drew.step hbC).step hbM).out.size _ _ _).out qx21, keep_cell ((((KC.drew.step hbC).step hbM).step (kp_alloc _ _)).put3 ((KC.drew.step hbC).step hbM).out.size _ _ _).out qx22, keep_cell ((((KC.drew.step hbC).step hbM).step (kp_alloc _ _)).put3 ((KC.drew.step hbC).step hbM).out.size _ _ _).out qy20, keep_cell ((((KC.drew.step hbC).step hbM).step (kp_alloc _ _)).put3 ((KC.drew.step hbC).step hbM).out.size _ _ _).out qy21, keep_cell ((((KC.drew.step hbC).step hbM).step (kp_alloc _ _)).put3 ((KC.drew.step hbC).step hbM).out.size _ _ _).out qy22, ((((KC.drew.step hbC).step hbM).step (kp_alloc _ _)).put3 ((KC.drew.step hbC).step hbM).out.size _ _ _)⟩ | exact ⟨keep_cell ((((KC.drew.step hbC).step (kp_alloc _ _)).step hbM).put3 (KC.drew.step hbC).out.size _ _ _).out qz00, keep_cell ((((KC.drew.step hbC).step (kp_alloc _ _)).step hbM).put3 (KC.drew.step hbC).out.size _ _ _).out qz01, keep_cell ((((KC.drew.step hbC).step (kp_alloc _ _)).step hbM).put3 (KC.drew.step hbC).out.size _ _ _).out qz02, keep_cell ((((KC.drew.step hbC).step (kp_alloc _ _)).step hbM).put3 (KC.drew.step hbC).out.size _ _ _).out qx10, keep_cell ((((KC.drew.step hbC).step (kp_alloc _ _)).step hbM).put3 (KC.drew.step hbC).out.size _ _ _).out qx11, keep_cell ((((KC.drew.step hbC).step (kp_alloc _ _)).step hbM).put3 (KC.drew.step hbC).out.size _ _ _).out qx12, keep_cell ((((KC.drew.step hbC).step (kp_alloc _ _)).step hbM).put3 (KC.drew.step hbC).out.size _ _ _).out qy10, keep_cell ((((KC.drew.step hbC).step (kp_alloc _ _)).step hbM).put3 (KC.drew.step hbC).out.size _ _ _).out qy11, keep_cell ((((KC.drew.step hbC).step (kp_alloc _ _)).step hbM).put3 (KC.drew.step hbC).out.size _ _ _).out qy12, keep_cell ((((KC.drew.step hbC).step (kp_alloc _ _)).step hbM).put3 (KC.drew.step hbC).out.size _ _ _).out qx20, keep_cell ((((KC.drew.step hbC).step (kp_alloc _ _)).step hbM).put3 (KC.drew.step hbC).out.size _ _ _).out qx21, keep_cell ((((KC.drew.step hbC).step (kp_alloc _ _)).step hbM).put3 (KC.drew.step hbC).out.size _ _ _).out qx22, keep_cell ((((KC.drew.step hbC).step (kp_alloc _ _)).step hbM).put3 (KC.drew.step hbC).out.size _ _ _).out qy20, keep_cell ((((KC.drew.step hbC).step (kp_alloc _ _)).step hbM).put3 (KC.drew.step hbC).out.size _ _ _).out qy21, keep_cell ((((KC.drew.step hbC).step (kp_alloc _ _)).step hbM).put3 (KC.drew.step hbC).out.size _ _ _).out qy22, ((((KC.drew.step hbC).step (kp_alloc _ _)).step hbM).put3 (KC.drew.step hbC).out.size _ _ _)⟩ | exact ⟨keep_cell ((((KC.drew.step (kp_alloc _ _)).step hbC).step hbM).put3 KC.drew.out.size _ _ _).out qz00, keep_cell ((((KC.drew.step (kp_alloc _ _)).step hbC).step hbM).put3 KC.drew.out.size _ _ _).out qz01, keep_cell ((((KC.drew.step (kp_alloc _ _)).step hbC).step hbM).put3 KC.drew.out.size _ _ _).out qz02, keep_cell ((((KC.drew.step (kp_alloc _ _)).step hbC).step hbM).put3 KC.drew.out.size _ _ _).out qx10, keep_cell ((((KC.drew.step (kp_alloc _ _)).step hbC).step hbM).put3 KC.drew.out.size _ _ _).out qx11, keep_cell ((((KC.drew.step (kp_alloc _ _)).step hbC).step hbM).put3 KC.drew.out.size _ _ _).out qx12, keep_cell ((((KC.drew.step (kp_alloc _ _)).step hbC).step hbM).put3 KC.drew.out.size _ _ _).out qy10, keep_cell ((((KC.drew.step (kp_alloc _ _)).step hbC).step hbM).put3 KC.drew.out.size _ _ _).out qy11, keep_cell ((((KC.drew.step (kp_alloc _ _)).step hbC).step hbM).put3 KC.drew.out.size _ _ _).out qy12, keep_cell ((((KC.drew.step (kp_alloc _ _)).step hbC).step hbM).put3 KC.drew.out.size _ _ _).out qx20, keep_cell ((((KC.drew.step (kp_alloc _ _)).step hbC).step hbM).put3 KC.drew.out.size _ _ _).out qx21, keep_cell ((((KC.drew.step (kp_alloc _ _)).step hbC).step hbM).put3 KC.drew.out.size _ _ _).out qx22, keep_cell ((((KC.drew.step (kp_alloc _ _)).step hbC).step hbM).put3 KC.drew.out.size _ _ _).out qy20, keep_cell ((((KC.drew.step (kp_alloc _ _)).step hbC).step hbM).put3 KC.drew.out.size _ _ _).out qy21, keep_cell ((((KC.drew.step (kp_alloc _ _)).step hbC).step hbM).put3 KC.drew.out.size _ _ _).out qy22, ((((KC.drew.step (kp_alloc _ _)).step hbC).step hbM).put3 KC.drew.out.size _ _ _)⟩ | exact ⟨keep_cell (((KC.drew.step hbC).step hbM).step (kp_alloc _ _)).out qz00, keep_cell (((KC.drew.step hbC).step hbM).step (kp_alloc _ _)).out qz01, keep_cell (((KC.drew.step hbC).step hbM).step (kp_alloc _ _)).out qz02, keep_cell (((KC.drew.step hbC).step hbM).step (kp_alloc _ _)).out qx10, keep_cell (((KC.drew.step hbC).step hbM).step (kp_alloc _ _)).out qx11, keep_cell (((KC.drew.step hbC).step hbM).step (kp_alloc _ _)).out qx12, keep_cell (((KC.drew.step hbC).step hbM).step (kp_alloc _ _)).out qy10, keep_cell (((KC.drew.step hbC).step hbM).step (kp_alloc _ _)).out qy11, keep_cell (((KC.drew.step hbC).step hbM).step (kp_alloc _ _)).out qy12, keep_cell (((KC.drew.step hbC).step hbM).step (kp_alloc _ _)).out qx20, keep_cell (((KC.drew.step hbC).step hbM).step (kp_alloc _ _)).out qx21, keep_cell (((KC.drew.step hbC).step hbM).step (kp_alloc _ _)).out qx22, keep_cell (((KC.drew.step hbC).step hbM).step (kp_alloc _ _)).out qy20, keep_cell (((KC.drew.step hbC).step hbM).step (kp_alloc _ _)).out qy21, keep_cell (((KC.drew.step hbC).step hbM).step (kp_alloc _ _)).out qy22, (((KC.drew.step hbC).step hbM).step (kp_alloc _ _))⟩ | exact ⟨keep_cell (((KC.drew.step hbC).step (kp_alloc _ _)).step hbM).out qz00, keep_cell (((KC.drew.step hbC).step (kp_alloc _ _)).step hbM).out qz01, keep_cell (((KC.drew.step hbC).step (kp_alloc _ _)).step hbM).out qz02, keep_cell (((KC.drew.step hbC).step (kp_alloc _ _)).step hbM).out qx10, keep_cell (((KC.drew.step hbC).step (kp_alloc _ _)).step hbM).out qx11, keep_cell (((KC.drew.step hbC).step (kp_alloc _ _)).step hbM).out qx12, keep_cell (((KC.drew.step hbC).step (kp_alloc _ _)).step hbM).out qy10, keep_cell (((KC.drew.step hbC).step (kp_alloc _ _)).step hbM).out qy11, keep_cell (((KC.drew.step hbC).step (kp_alloc _ _)).step hbM).out qy12, keep_cell (((KC.drew.step hbC).step (kp_alloc _ _)).step hbM).out qx20, keep_cell (((KC.drew.step hbC).step (kp_alloc _ _)).step hbM).out qx21, keep_cell (((KC.drew.step hbC).step (kp_alloc _ _)).step hbM).out qx22, keep_cell (((KC.drew.step hbC).step (kp_alloc _ _)).step hbM).out qy20, keep_cell (((KC.drew.step hbC).step (kp_alloc _ _)).step hbM).out qy21, keep_cell (((KC.drew.step hbC).step (kp_alloc _ _)).step hbM).out qy22, (((KC.drew.step hbC).step (kp_alloc _ _)).step hbM)⟩ | exact ⟨keep_cell (((KC.drew.step (kp_alloc _ _)).step hbC).step hbM).out qz00, keep_cell (((KC.drew.step (kp_alloc _ _)).step hbC).step hbM).out qz01, keep_cell (((KC.drew.step (kp_alloc _ _)).step hbC).step hbM).out qz02, keep_cell (((KC.drew.step (kp_alloc _ _)).step hbC).step hbM).out qx10, keep_cell (((KC.drew.step (kp_alloc _ _)).step hbC).step hbM).out qx11, keep_cell (((KC.drew.step (kp_alloc _ _)).step hbC).step hbM).out qx12, keep_cell (((KC.drew.step (kp_alloc _ _)).step hbC).step hbM).out qy10, keep_cell (((KC.drew.step (kp_alloc _ _)).step hbC).step hbM).out qy11, keep_cell (((KC.drew.step (kp_alloc _ _)).step hbC).step hbM).out qy12, keep_cell (((KC.drew.step (kp_alloc _ _)).step hbC).step hbM).out qx20, keep_cell (((KC.drew.step (kp_alloc _ _)).step hbC).step hbM).out qx21, keep_cell (((KC.drew.step (kp_alloc _ _)).step hbC).step hbM).out qx22, keep_cell (((KC.drew.step (kp_alloc _ _)).step hbC).step hbM).out qy20, keep_cell (((KC.drew.step (kp_alloc _ _)).step hbC).step hbM).out qy21, keep_cell (((KC.drew.step (kp_alloc _ _)).step hbC).step hbM).out qy22, (((KC.drew.step (kp_alloc _ _)).step hbC).step hbM)⟩ | exact ⟨keep_cell ((KC.drew.step hbC).step hbM).out qz00, keep_cell ((KC.drew.step hbC).step hbM).out qz01, keep_cell ((KC.drew.step hbC).step hbM).out qz02, keep_cell ((KC.drew.step hbC).step hbM).out qx10, keep_cell ((KC.drew.step hbC).step hbM).out qx11, keep_cell ((KC.drew.step hbC).step hbM).out qx12, keep_cell ((KC.drew.step hbC).step hbM).out qy10, keep_cell ((KC.drew.step hbC).step hbM).out qy11, keep_cell ((KC.drew.step hbC).step hbM).out qy12, keep_cell ((KC.drew.step hbC).step hbM).out qx20, keep_cell ((KC.drew.step hbC).step hbM).out qx21, keep_cell ((KC.drew.step hbC).step hbM).out qx22, keep_cell ((KC.drew.step hbC).step hbM).out qy20, keep_cell ((KC.drew.step hbC).step hbM).out qy21, keep_cell ((KC.drew.step hbC).step hbM).out qy22, ((KC.drew.step hbC).step hbM)⟩ | exact ⟨keep_cell ((KC.drew.step hbC).step (kp_alloc _ _)).out qz00, keep_cell ((KC.drew.step hbC).step (kp_alloc _ _)).out qz01, keep_cell ((KC.drew.step hbC).step (kp_alloc _ _)).out qz02, keep_cell ((KC.drew.step hbC).step (kp_alloc _ _)).out qx10, keep_cell ((KC.drew.step hbC).step (kp_alloc _ _)).out qx11, keep_cell ((KC.drew.step hbC).step (kp_alloc _ _)).out qx12, keep_cell ((KC.drew.step hbC).step (kp_alloc _ _)).out qy10, keep_cell ((KC.drew.step hbC).step (kp_alloc _ _)).out qy11, keep_cell ((KC.drew.step hbC).step (kp_alloc _ _)).out qy12, keep_cell ((KC.drew.step hbC).step (kp_alloc _ _)).out qx20, keep_cell ((KC.drew.step hbC).step (kp_alloc _ _)).out qx21, keep_cell ((KC.drew.step hbC).step (kp_alloc _ _)).out qx22, keep_cell ((KC.drew.step hbC).step (kp_alloc _ _)).out qy20, keep_cell ((KC.drew.step hbC).step (kp_alloc _ _)).out qy21, keep_cell ((KC.drew.step hbC).step (kp_alloc _ _)).out qy22, ((KC.drew.step hbC).step (kp_alloc _ _))⟩ | exact ⟨keep_cell ((KC.drew.step (kp_alloc _ _)).step hbC).out qz00, keep_cell ((KC.drew.step (kp_alloc _ _)).step hbC).out qz01, keep_cell ((KC.drew.step (kp_alloc _ _)).step hbC).out qz02, keep_cell ((KC.drew.step (kp_alloc _ _)).step hbC).out qx10, keep_cell ((KC.drew.step (kp_alloc _ _)).step hbC).out qx11, keep_cell ((KC.drew.step (kp_alloc _ _)).step hbC).out qx12, keep_cell ((KC.drew.step (kp_alloc _ _)).step hbC).out qy10, keep_cell ((KC.drew.step (kp_alloc _ _)).step hbC).out qy11, keep_cell ((KC.drew.step (kp_alloc _ _)).step hbC).out qy12, keep_cell ((KC.drew.step (kp_alloc _ _)).step hbC).out qx20, keep_cell ((KC.drew.step (kp_alloc _ _)).step hbC).out qx21, keep_cell ((KC.drew.step (kp_alloc _ _)).step hbC).out qx22, keep_cell ((KC.drew.step (kp_alloc _ _)).step hbC).out qy20, keep_cell ((KC.drew.step (kp_alloc _ _)).step hbC).out qy21, keep_cell ((KC.drew.step (kp_alloc _ _)).step hbC).out qy22, ((KC.drew.step (kp_alloc _ _)).step hbC)⟩ | exact ⟨keep_cell (KC.drew.step hbC).out qz00, keep_cell (KC.drew.step hbC).out qz01, keep_cell (KC.drew.step hbC).out qz02, keep_cell (KC.drew.step hbC).out qx10, keep_cell (KC.drew.step hbC).out qx11, keep_cell (KC.drew.step hbC).out qx12, keep_cell (KC.drew.step hbC).out qy10, keep_cell (KC.drew.step hbC).out qy11, keep_cell (KC.drew.step hbC).out qy12, keep_cell (KC.drew.step hbC).out qx20, keep_cell (KC.drew.step hbC).out qx21, keep_cell (KC.drew.step hbC).out qx22, keep_cell (KC.drew.step hbC).out qy20, keep_cell (KC.drew.step hbC).out qy21, keep_cell (KC.drew.step hbC).out qy22, (KC.drew.step hbC)⟩ | exact ⟨keep_cell (KC.drew.step (kp_alloc _ _)).out qz00, keep_cell (KC.drew.step (kp_alloc _ _)).out qz01, keep_cell (KC.drew.step (kp_alloc _ _)).out qz02, keep_cell (KC.drew.step (kp_alloc _ _)).out qx10, keep_cell (KC.drew.step (kp_alloc _ _)).out qx11, keep_cell (KC.drew.step (kp_alloc _ _)).out qx12, keep_cell (KC.drew.step (kp_alloc _ _)).out qy10, keep_cell (KC.drew.step (kp_alloc _ _)).out qy11, keep_cell (KC.drew.step (kp_alloc _ _)).out qy12, keep_cell (KC.drew.step (kp_alloc _ _)).out qx20, keep_cell (KC.drew.step (kp_alloc _ _)).out qx21, keep_cell (KC.drew.step (kp_alloc _ _)).out qx22, keep_cell (KC.drew.step (kp_alloc _ _)).out qy20, keep_cell (KC.drew.step (kp_alloc _ _)).out qy21, keep_cell (KC.drew.step (kp_alloc _ _)).out qy22, (KC.drew.step (kp_alloc _ _))⟩ | exact ⟨keep_cell KC.drew.out qz00, keep_cell KC.drew.out qz01, keep_cell KC.drew.out qz02, keep_cell KC.drew.out qx10, keep_cell KC.drew.out qx11, keep_cell KC.drew.out qx12, keep_cell KC.drew.out qy10, keep_cell KC.drew.out qy11, keep_cell KC.drew.out qy12, keep_cell KC.drew.out qx20, keep_cell KC.drew.out qx21, keep_cell KC.drew.out qx22, keep_cell KC.drew.out qy20, keep_cell KC.drew.out qy21, keep_cell KC.drew.out qy22, KC.drew⟩)
              (first
                | (go_at_call 15; ((with_reducible refine (HC.out _ ?hq).mono ?_); (case hq => first | exact KC.drew | exact (KC.drew.step (kp_alloc _ _))); rintro e w2 ⟨v2, rfl, nC, hbC⟩; obtain ⟨s2, p2, l2, c2, e2, rfl, -⟩ := NumV.form nC))
                | (go_at_call 14; ((with_reducible refine (HM.out _ ?hq _ _ _ nC (fun b h => Or.inl h)).mono ?_); (case hq => exact ((KC.drew.step (kp_alloc _ _)).step hbC)); rintro e w3 ⟨v3, rfl, nM, hbM⟩; obtain ⟨s3, p3, l3, c3, e3, rfl, -⟩ := NumV.form nM; have hres := keep_block hbM (keep_block hbC (show (we.drew.alloc (.cells #[.int .i64 0, .slice none 0 0, .int .i64 0] 34)).heap[we.heap.size]? = some (.cells #[.int .i64 0, .slice none 0 0, .int .i64 0] 34) from heap_alloc_new we.drew (.cells #[.int .i64 0, .slice none 0 0, .int .i64 0] 34))); obtain ⟨r0, r1, r2, f0, f1, f2⟩ := res_facts hres))
                | (go_at_call 14; ((with_reducible refine (HM.out _ ?hq _ _ _ nC (fun b h => Or.inl h)).mono ?_); (case hq => exact (KC.drew.step hbC)); rintro e w3 ⟨v3, rfl, nM, hbM⟩; obtain ⟨s3, p3, l3, c3, e3, rfl, -⟩ := NumV.form nM))
                | (go_at_call 14; ((with_reducible refine (HM.out _ ?hq _ _ _ (nC.lt.keep (kp_alloc _ _)) (fun b h => ⟨Or.inl h, Nat.lt_of_lt_of_le h.2 (KC.drew.step hbC).out.size⟩)).mono ?_); (case hq => exact ((KC.drew.step hbC).step (kp_alloc _ _))); rintro e w3 ⟨v3, rfl, nM, hbM⟩; obtain ⟨s3, p3, l3, c3, e3, rfl, -⟩ := NumV.form nM; have hres := keep_block hbM (heap_alloc_new w2 (.cells #[.int .i64 0, .slice none 0 0, .int .i64 0] 34)); obtain ⟨r0, r1, r2, f0, f1, f2⟩ := res_facts hres)))
            all_goals
              go_wp2_with fail
              go_meet
              first
                | exact numAt_new nM (fun j hj => by have h1 := hbC.size; have h2 := hbM.size; have h3 := KX.out.out.size; (try dsimp only at hj); (try simp only [World.size_alloc] at h1 h2 hj); omega) ((KC.drew.step hbC).step hbM) KX.out.out.size
                | exact numAt_end hres nM (fun j hj => by have h1 := hbC.size; have h2 := hbM.size; have h3 := KX.out.out.size; (try dsimp only at hj); (try simp only [World.size_alloc] at h1 h2 hj); omega) (((KC.drew.step hbC).step (kp_alloc _ _)).step hbM) (KC.drew.step hbC).out.size KX.out.out.size
                | exact numAt_end hres nM (fun j hj => by have h1 := hbC.size; have h2 := hbM.size; have h3 := KX.out.out.size; (try dsimp only at hj); (try simp only [World.size_alloc] at h1 h2 hj); omega) (((KC.drew.step (kp_alloc _ _)).step hbC).step hbM) (Nat.le_refl _) KX.out.out.size
          case rest =>
            clear KC hdr hdr2 HC HM qz00 qz01 qz02 qx10 qx11 qx12 qy10 qy11 qy12 qx20 qx21 qx22 qy20 qy21 qy22
            obtain ⟨fh, sh, ph, lh, ch, eh, rfl, Lh, Bh, Nh, Kh⟩ := hcut
            obtain ⟨wf, rfl⟩ : ∃ z : World, z = wc := ⟨_, rfl⟩
            have BFh := Lib.hid Bh
            have NFh := Lib.hid Nh
            have KX := Lib.hid (KX.out.step Kh)
            have BX := Lib.hid (keep_block Kh BX.out)
            have BY := Lib.hid (keep_block Kh BY.out)
            have BZ := Lib.hid (fun (j : Nat) (u : Value) h => keep_cell Kh (BZ.out j u h))
            have MX0 := Lib.hid ((MX0.out.mono (Q := fun b => wn.heap.size ≤ b) (fun b h => h.1)).keep Kh).lt
            have MX1 := Lib.hid ((MX1.out.mono (Q := fun b => wn.heap.size ≤ b) (fun b h => h.1)).keep Kh).lt
            have MX2 := Lib.hid ((MX2.out.mono (Q := fun b => wn.heap.size ≤ b) (fun b h => h.1)).keep Kh).lt
            have MY0 := Lib.hid ((MY0.out.mono (Q := fun b => wn.heap.size ≤ b) (fun b h => h.1)).keep Kh).lt
            have MY1 := Lib.hid ((MY1.out.mono (Q := fun b => wn.heap.size ≤ b) (fun b h => h.1)).keep Kh).lt
            have MY2 := Lib.hid ((MY2.out.mono (Q := fun b => wn.heap.size ≤ b) (fun b h => h.1)).keep Kh).lt
            have MZ0 := Lib.hid ((MZ0.out.mono (Q := fun b => wn.heap.size ≤ b) (fun b h => h.1)).keep Kh).lt
            have MZ1 := Lib.hid ((MZ1.out.mono (Q := fun b => wn.heap.size ≤ b) (fun b h => h.1)).keep Kh).lt
            have MZ2 := Lib.hid ((MZ2.out.mono (Q := fun b => wn.heap.size ≤ b) (fun b h => h.1)).keep Kh).lt
            have BFf := Lib.hid (keep_block Kh BFf.out)
            have NFf := Lib.hid (NFf.out.keep Kh)
            have BFg := Lib.hid (keep_block Kh BFg.out)
            have NFg := Lib.hid (NFg.out.keep Kh)
            clear MX0 MX1 MX2 MY0 MY1 MY2 MZ0 MZ1 MZ2 BX BY BZ
            have hr0 := keep_block KX.out.out HR.out
            have Kw : Kp w wf := HW.out.trans (KX.out.out.mono HW.out.size)
            have hleb : w.heap.size ≤ w.heap.size + 1 + 1 + 1 + 1 := by omega
            have hss := HSZ.out
            have hnef : ff ≠ w.heap.size + 1 + 1 + 1 + 1 := by omega
            have hneg : fg ≠ w.heap.size + 1 + 1 + 1 + 1 := by omega
            have hneh : fh ≠ w.heap.size + 1 + 1 + 1 + 1 := by omega
            obtain ⟨f0, f1, f2, -, -, -⟩ := res_facts BFf.out
            obtain ⟨g0, g1, g2, -, -, -⟩ := res_facts BFg.out
            obtain ⟨h0, h1, h2, -, -, -⟩ := res_facts BFh.out
            have HRR := Lib.hid hr0
            clear hr0 hss Lf Lg Lh Bf Bg Bh Nf Ng Nh Kf Kg Kh
            have HSb := Lib.hid (fun (Y : World) (h : Kp wf Y) => subN (NFf.out.keep h.out) (NFg.out.keep h.out) (by decide))
            have HAd := Lib.hid (fun (Y : World) (h : Kp wf Y) (v : Value) (q : Rat) (n : NumV (fun b => wn.heap.size ≤ b) Y v 8007 q) => addN n ((NFh.out.keep h.out).more (show 8006 ≤ 8007 by decide)) (by decide))
            have KC := Kp.refl wf
            have hwf : wn.heap.size ≤ wf.drew.heap.size := KX.out.out.size
            go_wp2_with fail
            go_region_held3 (fun w' => w'.cell? ⟨ff, 0, none⟩ = some (.int .i64 sf) ∧ w'.cell? ⟨ff, 1, none⟩ = some (.slice pf lf cf) ∧ w'.cell? ⟨ff, 2, none⟩ = some (.int .i64 ef) ∧ w'.cell? ⟨fg, 0, none⟩ = some (.int .i64 sg) ∧ w'.cell? ⟨fg, 1, none⟩ = some (.slice pg lg cg) ∧ w'.cell? ⟨fg, 2, none⟩ = some (.int .i64 eg) ∧ w'.cell? ⟨fh, 0, none⟩ = some (.int .i64 sh) ∧ w'.cell? ⟨fh, 1, none⟩ = some (.slice ph lh ch) ∧ w'.cell? ⟨fh, 2, none⟩ = some (.int .i64 eh))
              (first | exact ⟨put3_cell (keep_cell ((KC.drew.step hbC).step hbM).out f0) hnef _ _ _, put3_cell (keep_cell ((KC.drew.step hbC).step hbM).out f1) hnef _ _ _, put3_cell (keep_cell ((KC.drew.step hbC).step hbM).out f2) hnef _ _ _, put3_cell (keep_cell ((KC.drew.step hbC).step hbM).out g0) hneg _ _ _, put3_cell (keep_cell ((KC.drew.step hbC).step hbM).out g1) hneg _ _ _, put3_cell (keep_cell ((KC.drew.step hbC).step hbM).out g2) hneg _ _ _, put3_cell (keep_cell ((KC.drew.step hbC).step hbM).out h0) hneh _ _ _, put3_cell (keep_cell ((KC.drew.step hbC).step hbM).out h1) hneh _ _ _, put3_cell (keep_cell ((KC.drew.step hbC).step hbM).out h2) hneh _ _ _⟩ | exact ⟨keep_cell ((KC.drew.step hbC).step hbM).out f0, keep_cell ((KC.drew.step hbC).step hbM).out f1, keep_cell ((KC.drew.step hbC).step hbM).out f2, keep_cell ((KC.drew.step hbC).step hbM).out g0, keep_cell ((KC.drew.step hbC).step hbM).out g1, keep_cell ((KC.drew.step hbC).step hbM).out g2, keep_cell ((KC.drew.step hbC).step hbM).out h0, keep_cell ((KC.drew.step hbC).step hbM).out h1, keep_cell ((KC.drew.step hbC).step hbM).out h2⟩ | exact ⟨keep_cell (KC.drew.step hbC).out f0, keep_cell (KC.drew.step hbC).out f1, keep_cell (KC.drew.step hbC).out f2, keep_cell (KC.drew.step hbC).out g0, keep_cell (KC.drew.step hbC).out g1, keep_cell (KC.drew.step hbC).out g2, keep_cell (KC.drew.step hbC).out h0, keep_cell (KC.drew.step hbC).out h1, keep_cell (KC.drew.step hbC).out h2⟩ | exact ⟨keep_cell KC.drew.out f0, keep_cell KC.drew.out f1, keep_cell KC.drew.out f2, keep_cell KC.drew.out g0, keep_cell KC.drew.out g1, keep_cell KC.drew.out g2, keep_cell KC.drew.out h0, keep_cell KC.drew.out h1, keep_cell KC.drew.out h2⟩)
              (first
                | (go_at_call 16; ((with_reducible refine (HSb.out _ ?hq).mono ?_); (case hq => exact KC.drew); rintro e w2 ⟨v2, rfl, nS, hbC⟩; obtain ⟨s2, p2, l2, c2, e2, rfl, -⟩ := NumV.form nS))
                | (go_at_call 13; ((with_reducible refine (HAd.out _ ?hq _ _ (nS.mono (fun b h => h.elim id (Nat.le_trans hwf)))).mono ?_); (case hq => exact (KC.drew.step hbC)); rintro e w3 ⟨v3, rfl, nM, hbM⟩; obtain ⟨s3, p3, l3, c3, e3, rfl, -⟩ := NumV.form nM; have hres := keep_block hbM (keep_block hbC HRR.out); obtain ⟨r0, r1, r2, u0, u1, u2⟩ := res_facts hres)))
            go_wp2_with fail
            obtain ⟨g0, g1, g2⟩ := put_facts hres (.int .i64 s3) (.slice p3 l3 c3) (.int .i64 e3)
            refine bodyPost_ret (v := .agg #[.int .i64 s3, .slice p3 l3 c3, .int .i64 e3]) (by simp [results, Try.results8, go_sem, g0, g1, g2]) rfl ?_
            have hss := HSZ.out
            exact ⟨_, rfl, (nM.into (fun j hj => by have h1 := hbC.size; have h0 : wf.drew.heap.size = wf.heap.size := rfl; rcases hj with h | h <;> omega) _ _ _).t, ((Kw.drew.step hbC).step hbM).put3 hleb _ _ _⟩
end Go.Proofs.Ytiiipgbfhcbjdaa
