/- On which side of a line a point lies: turned round, changed about, moved (plain). -/
import Derived.Test.YtiihokgjplpceaaDoorOrE
namespace Go.Proofs.YtiihokgjplpceaaDoor
open Go.RowKit TV
set_option linter.unusedVariables false

theorem isg_neg (n : Int) : TV.sg (-n) = - TV.sg n := by
  unfold TV.sg
  rcases Int.lt_trichotomy n 0 with h | h | h
  · rw [if_neg (by omega), if_neg (by omega), if_pos h]; rfl
  · subst h; rfl
  · rw [if_pos (by omega), if_neg (by omega), if_neg (by omega)]
theorem sg_bound (n : Int) : -1 ≤ TV.sg n ∧ TV.sg n ≤ 1 := by unfold TV.sg; split <;> (try split) <;> omega
theorem sg_pos {n : Int} : 0 < TV.sg n ↔ 0 < n := by unfold TV.sg; split <;> (try split) <;> omega
theorem may_rot (a b c : Nat × Nat) : mayL [b, c, a] = mayL [a, b, c] := by
  simp only [mayL, List.all_cons, List.all_nil, Bool.and_true]
  cases (mayB a.1 && mayB a.2) <;> cases (mayB b.1 && mayB b.2) <;> cases (mayB c.1 && mayB c.2) <;> rfl
theorem may_swap (a b c : Nat × Nat) : mayL [b, a, c] = mayL [a, b, c] := by
  simp only [mayL, List.all_cons, List.all_nil, Bool.and_true]
  cases (mayB a.1 && mayB a.2) <;> cases (mayB b.1 && mayB b.2) <;> cases (mayB c.1 && mayB c.2) <;> rfl
theorem osum_rot (ax ay bx bY cx cy : Nat) : osum bx bY cx cy ax ay = osum ax ay bx bY cx cy := by unfold osum; grind
theorem osum_swap (ax ay bx bY cx cy : Nat) : osum bx bY ax ay cx cy = - osum ax ay bx bY cx cy := by unfold osum; grind
theorem osg_rot (ax ay bx bY cx cy : Nat) : osg bx bY cx cy ax ay = osg ax ay bx bY cx cy := by
  unfold osg; rw [may_rot (ax, ay), osum_rot]
theorem osg_swap (ax ay bx bY cx cy : Nat) : osg bx bY ax ay cx cy = - osg ax ay bx bY cx cy := by
  unfold osg; rw [may_swap (ax, ay), osum_swap, isg_neg]; split <;> rfl
theorem osg_swap2 (ax ay bx bY cx cy : Nat) : osg ax ay cx cy bx bY = - osg ax ay bx bY cx cy := by
  rw [← osg_rot, osg_swap, osg_rot]
theorem osg_swap3 (ax ay bx bY cx cy : Nat) : osg cx cy bx bY ax ay = - osg ax ay bx bY cx cy := by
  rw [osg_swap, osg_rot]
theorem osg_same (ax ay bx bY : Nat) : osg ax ay ax ay bx bY = 0 := by
  unfold osg
  have : osum ax ay ax ay bx bY = 0 := by unfold osum; grind
  rw [this]; split <;> rfl
theorem osg_bound (ax ay bx bY cx cy : Nat) : -1 ≤ osg ax ay bx bY cx cy ∧ osg ax ay bx bY cx cy ≤ 1 := by
  unfold osg; split
  · exact sg_bound _
  · decide
/-- Left: the points may be, and the sum is above nought. -/
theorem osg_left {ax ay bx bY cx cy : Nat} : 0 < osg ax ay bx bY cx cy ↔ mayL [(ax, ay), (bx, bY), (cx, cy)] = true ∧ 0 < osum ax ay bx bY cx cy := by
  unfold osg; split
  · rename_i h; rw [sg_pos]; exact ⟨fun h2 => ⟨h, h2⟩, fun h2 => h2.2⟩
  · rename_i h; exact ⟨fun h2 => absurd h2 (by decide), fun h2 => absurd h2.1 h⟩
theorem may_of {a b c : Nat × Nat} (h : mayL [a, b, c] = true) : (mayB a.1 && mayB a.2) = true ∧ (mayB b.1 && mayB b.2) = true ∧ (mayB c.1 && mayB c.2) = true := by
  simp only [mayL, List.all_cons, List.all_nil, Bool.and_true, Bool.and_eq_true] at h ⊢
  exact h
theorem may_mk {a b c : Nat × Nat} (h1 : (mayB a.1 && mayB a.2) = true) (h2 : (mayB b.1 && mayB b.2) = true) (h3 : (mayB c.1 && mayB c.2) = true) : mayL [a, b, c] = true := by
  simp only [mayL, List.all_cons, List.all_nil, Bool.and_true]
  rw [h1, h2, h3]; rfl
/-- A point left of the three sides has them round it. -/
theorem around_one {px py qx qy rx ry tx ty : Nat} (h1 : 0 < osg tx ty qx qy rx ry) (h2 : 0 < osg px py tx ty rx ry) (h3 : 0 < osg px py qx qy tx ty) : 0 < osg px py qx qy rx ry := by
  rw [osg_left] at h1 h2 h3 ⊢
  obtain ⟨m1, m2, m3⟩ := may_of h1.1
  obtain ⟨n1, -, -⟩ := may_of h2.1
  refine ⟨may_mk n1 m2 m3, ?_⟩
  have : osum px py qx qy rx ry = osum tx ty qx qy rx ry + osum px py tx ty rx ry + osum px py qx qy tx ty := by unfold osum; grind
  omega
/-- Step by step about a point. -/
theorem around_two {px py qx qy rx ry sx sy tx ty : Nat} (h1 : 0 < osg tx ty sx sy px py) (h2 : 0 < osg tx ty sx sy qx qy) (h3 : 0 < osg tx ty sx sy rx ry) (h4 : 0 < osg tx ty px py qx qy) (h5 : 0 < osg tx ty qx qy rx ry) : 0 < osg tx ty px py rx ry := by
  rw [osg_left] at h1 h2 h3 h4 h5 ⊢
  obtain ⟨m1, -, m3⟩ := may_of h1.1
  obtain ⟨-, -, n3⟩ := may_of h3.1
  refine ⟨may_mk m1 m3 n3, ?_⟩
  have e : osum tx ty sx sy qx qy * osum tx ty px py rx ry = osum tx ty sx sy px py * osum tx ty qx qy rx ry + osum tx ty sx sy rx ry * osum tx ty px py qx qy := by unfold osum; grind
  have p1 := Int.mul_pos h1.2 h5.2
  have p2 := Int.mul_pos h3.2 h4.2
  have h6 : 0 < osum tx ty sx sy qx qy * osum tx ty px py rx ry := by rw [e]; omega
  apply Classical.byContradiction
  intro c
  have h7 := Int.mul_le_mul_of_nonneg_left (show osum tx ty px py rx ry ≤ 0 by omega) (Int.le_of_lt h2.2)
  rw [Int.mul_zero] at h7
  omega
end Go.Proofs.YtiihokgjplpceaaDoor
