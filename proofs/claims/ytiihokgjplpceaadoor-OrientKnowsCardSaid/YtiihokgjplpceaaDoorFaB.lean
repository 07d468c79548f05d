/- circle.Fast's reckoning, on floats, and on floats that are small whole numbers. Plain numbers, no program. -/
import Derived.Test.YtiihokgjplpceaaDoorTrC
namespace Go.Proofs.YtiihokgjplpceaaDoor
open TV
set_option linter.unusedVariables false

def fL (x y : Nat) : Nat := fadd (fmul x x) (fmul y y)
def fDet (ax ay bx bY cx cy : Nat) : Nat :=
  fadd (fadd (fmul (fL ax ay) (fsub (fmul bx cy) (fmul cx bY))) (fmul (fL bx bY) (fsub (fmul cx ay) (fmul ax cy)))) (fmul (fL cx cy) (fsub (fmul ax bY) (fmul bx ay)))
def fT (al x y : Nat) : Nat := fmul (fadd (rung x) (rung y)) al
def fAll (ax ay bx bY cx cy : Nat) : Nat :=
  fadd (fadd (fT (fL ax ay) (fmul bx cy) (fmul cx bY)) (fT (fL bx bY) (fmul cx ay) (fmul ax cy))) (fT (fL cx cy) (fmul ax bY) (fmul bx ay))
def BND : Nat := 4383128337338335238
def fMost (ax ay bx bY cx cy : Nat) : Nat := fmul BND (fAll ax ay bx bY cx cy)
abbrev sA (x y : Nat) : Prop := (Ieee.double.add x y).isSome = true
abbrev sS (x y : Nat) : Prop := (Ieee.double.sub x y).isSome = true
abbrev sM (x y : Nat) : Prop := (Ieee.double.mul x y).isSome = true
/-- The float of a point's square. -/
structure LOk (x y : Nat) : Prop where
  m1 : sM x x
  m2 : sM y y
  a : sA (fmul x x) (fmul y y)
  lt : fL x y < 18446744073709551616
/-- What two are across, and all of it. -/
structure XOk (al x y z u : Nat) : Prop where
  m1 : sM x y
  m2 : sM z u
  s : sS (fmul x y) (fmul z u)
  m : sM al (fsub (fmul x y) (fmul z u))
  a : sA (rung (fmul x y)) (rung (fmul z u))
  t : sM (fadd (rung (fmul x y)) (rung (fmul z u))) al
  l1 : fmul x y < 18446744073709551616
  l2 : fmul z u < 18446744073709551616
structure FastOk (ax ay bx bY cx cy : Nat) : Prop where
  la : LOk ax ay
  lb : LOk bx bY
  lc : LOk cx cy
  xa : XOk (fL ax ay) bx cy cx bY
  xb : XOk (fL bx bY) cx ay ax cy
  xc : XOk (fL cx cy) ax bY bx ay
  d1 : sA (fmul (fL ax ay) (fsub (fmul bx cy) (fmul cx bY))) (fmul (fL bx bY) (fsub (fmul cx ay) (fmul ax cy)))
  d2 : sA (fadd (fmul (fL ax ay) (fsub (fmul bx cy) (fmul cx bY))) (fmul (fL bx bY) (fsub (fmul cx ay) (fmul ax cy)))) (fmul (fL cx cy) (fsub (fmul ax bY) (fmul bx ay)))
  e1 : sA (fT (fL ax ay) (fmul bx cy) (fmul cx bY)) (fT (fL bx bY) (fmul cx ay) (fmul ax cy))
  e2 : sA (fadd (fT (fL ax ay) (fmul bx cy) (fmul cx bY)) (fT (fL bx bY) (fmul cx ay) (fmul ax cy))) (fT (fL cx cy) (fmul ax bY) (fmul bx ay))
  b : sM BND (fAll ax ay bx bY cx cy)
  most : fMost ax ay bx bY cx cy < 18446744073709551616

theorem natAbs_mul_le {n m : Int} {A B : Nat} (h1 : n.natAbs ≤ A) (h2 : m.natAbs ≤ B) : (n * m).natAbs ≤ A * B := by
  rw [Int.natAbs_mul]; exact Nat.mul_le_mul h1 h2

/-- A whole value below a bound. -/
def Ib (x : Nat) (n : Int) (B : Nat) : Prop := Iv x n ∧ n.natAbs ≤ B
theorem Ib.add {x y A B : Nat} {n m : Int} (hx : Ib x n A) (hy : Ib y m B) (h : A + B ≤ 9007199254740992) : sA x y ∧ Ib (fadd x y) (n + m) (A + B) := by
  have hb : (n + m).natAbs ≤ A + B := by have := hx.2; have := hy.2; omega
  obtain ⟨h1, h2, h3⟩ := hx.1.add hy.1 (Nat.le_trans hb h)
  exact ⟨h1, h3, hb⟩
theorem Ib.sub {x y A B : Nat} {n m : Int} (hx : Ib x n A) (hy : Ib y m B) (h : A + B ≤ 9007199254740992) : sS x y ∧ Ib (fsub x y) (n - m) (A + B) := by
  have hb : (n - m).natAbs ≤ A + B := by have := hx.2; have := hy.2; omega
  obtain ⟨h1, h2, h3⟩ := hx.1.sub hy.1 (Nat.le_trans hb h)
  exact ⟨h1, h3, hb⟩
theorem Ib.mul {x y A B : Nat} {n m : Int} (hx : Ib x n A) (hy : Ib y m B) (h : A * B ≤ 9007199254740992) : sM x y ∧ Ib (fmul x y) (n * m) (A * B) := by
  have hb : (n * m).natAbs ≤ A * B := natAbs_mul_le hx.2 hy.2
  obtain ⟨h1, h2, h3⟩ := hx.1.mul hy.1 (Nat.le_trans hb h)
  exact ⟨h1, h3, hb⟩
theorem Ib.abs {x A : Nat} {n : Int} (hx : Ib x n A) : Ib (rung x) (n.natAbs : Int) A := ⟨hx.1.abs, by rw [Int.natAbs_natCast]; exact hx.2⟩

theorem lok_of {x y : Nat} {n m : Int} (hx : Ib x n 2048) (hy : Ib y m 2048) : LOk x y ∧ Ib (fL x y) (n * n + m * m) 8388608 := by
  obtain ⟨h1, i1⟩ := hx.mul hx (by decide)
  obtain ⟨h2, i2⟩ := hy.mul hy (by decide)
  obtain ⟨h3, i3⟩ := i1.add i2 (by decide)
  exact ⟨⟨h1, h2, h3, i3.1.1⟩, i3⟩
theorem xok_of {al x y z u : Nat} {l n m p q : Int} (ha : Ib al l 8388608) (hl : 0 ≤ l) (hx : Ib x n 2048) (hy : Ib y m 2048) (hz : Ib z p 2048) (hu : Ib u q 2048) :
    XOk al x y z u ∧ Ib (fmul al (fsub (fmul x y) (fmul z u))) (l * (n * m - p * q)) 70368744177664 ∧ ∃ k : Int, 0 ≤ k ∧ Ib (fT al (fmul x y) (fmul z u)) k 70368744177664 := by
  obtain ⟨h1, i1⟩ := hx.mul hy (by decide)
  obtain ⟨h2, i2⟩ := hz.mul hu (by decide)
  obtain ⟨h3, i3⟩ := i1.sub i2 (by decide)
  obtain ⟨h4, i4⟩ := ha.mul i3 (by decide)
  obtain ⟨h5, i5⟩ := i1.abs.add i2.abs (by decide)
  obtain ⟨h6, i6⟩ := i5.mul ha (by decide)
  exact ⟨⟨h1, h2, h3, h4, h5, h6, i1.1.1, i2.1.1⟩, i4, _, Int.mul_nonneg (by omega) hl, i6⟩

theorem mag_half : mag 4602678819172646912 = 2 ^ 101 * 2 ^ (uE - 102) := by
  have h := mag_at (k := uE - 102 + 49) (q := 4503599627370496) (Or.inr (by omega)) (by omega)
  have h2 : (uE - 102 + 49) * 4503599627370496 + 4503599627370496 = 4602678819172646912 := by decide
  rw [h2, Nat.pow_add] at h
  rw [h]
  generalize 2 ^ (uE - 102) = z
  omega
theorem fv_BND : fv BND = 5629499534213126 * ((2 ^ (uE - 102) : Nat) : Int) := by
  have h := mag_at (k := uE - 102) (q := 5629499534213126) (Or.inr (by omega)) (by omega)
  have h2 : (uE - 102) * 4503599627370496 + 5629499534213126 = BND := by decide
  rw [h2] at h
  rw [fv_pos_rung _ (by decide), h, Int.natCast_mul]; rfl
theorem uW_102 : uW = 2 ^ (uE - 102) * 2 ^ 102 := by
  unfold uW
  rw [← Nat.pow_add]
  congr 1

theorem most_val {x : Nat} {A : Int} (h : Ib x A 211106232532992) (h0 : 0 ≤ A) : sM BND x ∧ fmul BND x < 18446744073709551616 ∧ rung (fmul BND x) < inf ∧ 0 ≤ fv (fmul BND x) ∧ fv (fmul BND x) < (uW : Int) := by
  have hb : (5629499534213126 * A).natAbs ≤ 2 ^ 101 := by have := h.2; omega
  obtain ⟨h1, h2, h3, h4⟩ := fmul_val (x := BND) (y := x) (M := 4602678819172646912) (k := uE - 102) (j := 102) (a := 5629499534213126) (b := A * ((2 ^ (uE - 102) : Nat) : Int)) (by decide) h.1.2.1 (by decide) fv_BND
    (by rw [h.1.2.2, uW_102, Int.natCast_mul, ← Int.mul_assoc]) (by decide) (by
      rw [← Int.mul_assoc, Int.natAbs_mul, Int.natAbs_natCast, mag_half]; exact Nat.mul_le_mul_right _ hb)
  have hi : (4602678819172646912 : Nat) < inf := by decide
  refine ⟨by unfold sM; rw [h1]; rfl, h2, by omega, ?_, ?_⟩
  · rw [h4]
    exact Rn_nonneg_of (Int.mul_nonneg (by decide) (Int.mul_nonneg h0 (Int.natCast_nonneg _)))
  · have h5 : (fv (fmul BND x)).natAbs ≤ mag 4602678819172646912 := by rw [fv_natAbs]; exact mag_le h3
    rw [mag_half] at h5
    rw [uW_102]
    have hp : 0 < 2 ^ (uE - 102) := Nat.two_pow_pos _
    generalize 2 ^ (uE - 102) = z at *
    omega

theorem fast_val {ax ay bx bY cx cy : Nat} {i j k l m n : Int} (h1 : Ib ax i 2048) (h2 : Ib ay j 2048) (h3 : Ib bx k 2048) (h4 : Ib bY l 2048) (h5 : Ib cx m 2048) (h6 : Ib cy n 2048) :
    FastOk ax ay bx bY cx cy ∧ Iv (fDet ax ay bx bY cx cy) ((i * i + j * j) * (k * n - m * l) + (k * k + l * l) * (m * j - i * n) + (m * m + n * n) * (i * l - k * j)) ∧
    rung (fMost ax ay bx bY cx cy) < inf ∧ 0 ≤ fv (fMost ax ay bx bY cx cy) ∧ fv (fMost ax ay bx bY cx cy) < (uW : Int) := by
  have sq : ∀ z : Int, 0 ≤ z * z := fun z => by rcases Int.le_total 0 z with h | h; exact Int.mul_nonneg h h; exact Int.mul_nonneg_of_nonpos_of_nonpos h h
  obtain ⟨la, ia⟩ := lok_of h1 h2
  obtain ⟨lb, ib⟩ := lok_of h3 h4
  obtain ⟨lc, ic⟩ := lok_of h5 h6
  obtain ⟨xa, ja, ka, ka0, kka⟩ := xok_of ia (by have := sq i; have := sq j; omega) h3 h6 h5 h4
  obtain ⟨xb, jb, kb, kb0, kkb⟩ := xok_of ib (by have := sq k; have := sq l; omega) h5 h2 h1 h6
  obtain ⟨xc, jc, kc, kc0, kkc⟩ := xok_of ic (by have := sq m; have := sq n; omega) h1 h4 h3 h2
  obtain ⟨d1, e1⟩ := ja.add jb (by decide)
  obtain ⟨d2, e2⟩ := e1.add jc (by decide)
  obtain ⟨g1, f1⟩ := kka.add kkb (by decide)
  obtain ⟨g2, f2⟩ := f1.add kkc (by decide)
  obtain ⟨m1, m2, m3, m4, m5⟩ := most_val (x := fAll ax ay bx bY cx cy) ⟨f2.1, f2.2⟩ (by omega)
  exact ⟨⟨la, lb, lc, xa, xb, xc, d1, d2, g1, g2, m1, m2⟩, e2.1, m3, m4, m5⟩

end Go.Proofs.YtiihokgjplpceaaDoor
