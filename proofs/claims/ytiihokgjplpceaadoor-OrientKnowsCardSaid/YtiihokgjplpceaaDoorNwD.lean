/- Texts of one kind, joined. -/
import Derived.Test.YtiihokgjplpceaaDoorNwC
import Derived.WalkMore
import Derived.Deep.LoopGhost

section
/- Package whole, walked: Mul. -/
namespace Go.Proofs.YtiihokgjplpceaaDoor
open Go.RowKit TV
set_option linter.unusedVariables false

theorem own_made2 {w : World} {base : Nat} {e : TypeId} {n bs : Nat} (hb : base ≤ bs) (hn : n ≤ maxLen) (h : w.heap[bs]? = some (.cells (madeCells #[.int .u32 0] n) e (0, 0))) :
    w.ownsRow base e 1 (.slice (some ⟨bs, 0, none⟩) n n) n ((List.replicate n (0 : Int)).map (Value.int .u32)) := by
  refine ⟨by simp, Or.inr ⟨bs, n, _, rfl, hb, h, Nat.le_refl _, hn, by rw [size_madeCells, Nat.mul_one], ?_⟩⟩
  rw [Nat.mul_one, List.map_replicate]
  have : (madeCells #[.int .u32 0] n).toList = List.replicate n (Value.int .u32 0) := by
    apply List.ext_getElem
    · simp [size_madeCells]
    · intro i h1 h2
      simp [madeCells, Nat.mod_one]
  rw [this, List.take_of_length_le (by simp)]

theorem sl_at {w : World} {p : Option Addr} {c : Nat} {ds : List Int} (h : Sl w (.slice p ds.length c) (ds.map (Value.int .u32))) {i : Nat} (hi : i < ds.length) :
    ∃ b o, p = some ⟨b, o, none⟩ ∧ ds.length ≤ c ∧ w.cell? ⟨b, o + i, none⟩ = some (.int .u32 (ds.getD i 0)) := by
  rcases h with ⟨h1, h2⟩ | ⟨b, o, cap, h1, h2, h3, h4⟩
  · simp at h2; subst h2; simp at hi
  · simp only [Value.slice.injEq] at h1
    obtain ⟨rfl, -, rfl⟩ := h1
    have := h4 i (by simpa using hi)
    rw [List.getElem_map] at this
    refine ⟨b, o, rfl, by simpa using h2, ?_⟩
    rw [this, List.getD_eq_getElem?_getD, List.getElem?_eq_getElem hi]; rfl

end Go.Proofs.YtiihokgjplpceaaDoor
end

section
/- Package whole, walked: Mul of any numbers. -/
namespace Go.Proofs.YtiihokgjplpceaaDoor
open Go.RowKit TV
set_option linter.unusedVariables false

/-- What a multiplication answers. -/
def mulO (oa ob : Option Rat) (o : Option Rat) : Prop := match oa, ob with
  | some p, some q => WvOf (p * q) o
  | _, _ => o = none

end Go.Proofs.YtiihokgjplpceaaDoor
end

section
/- Package whole: words moved up by some bits. Plain numbers. -/
namespace TV.W
/-- The words of a magnitude moved up by r bits. -/
def shl (r : Nat) : Int → List Int → List Int
  | _, [] => []
  | c, d :: ds => (d * 2 ^ r % 4294967296 + c) :: shl r (d * 2 ^ r / 4294967296) ds

theorem shl_len (r : Nat) (c : Int) (ds : List Int) : (shl r c ds).length = ds.length := by
  induction ds generalizing c with
  | nil => rfl
  | cons d ds ih => simp [shl, ih]

theorem shl_get (r : Nat) (c : Int) (ds : List Int) (i : Nat) (h : i < ds.length) : (shl r c ds).getD i 0 = ds.getD i 0 * 2 ^ r % 4294967296 + (if i = 0 then c else ds.getD (i - 1) 0 * 2 ^ r / 4294967296) := by
  induction ds generalizing c i with
  | nil => simp at h
  | cons d ds ih =>
    cases i with
    | zero => simp [shl]
    | succ i =>
      have := ih (d * 2 ^ r / 4294967296) i (by simpa using h)
      rw [shl, List.getD_cons_succ, this, List.getD_cons_succ, if_neg (Nat.succ_ne_zero i)]
      cases i with
      | zero => simp
      | succ i => simp

theorem shl_val (r : Nat) (c : Int) (ds : List Int) : dval (shl r c (ds ++ [0])) = dval ds * 2 ^ r + c := by
  induction ds generalizing c with
  | nil => simp [shl, dval]
  | cons d ds ih =>
    rw [List.cons_append, shl, dval, ih, dval, Int.add_mul, Int.mul_assoc]
    have := Int.mul_ediv_add_emod (d * 2 ^ r) 4294967296
    generalize d * 2 ^ r = x at *
    generalize dval ds * 2 ^ r = y at *
    omega

theorem p2_cut {r : Nat} (hr : r < 32) : (2 : Int) ^ (32 - r) * 2 ^ r = 4294967296 := by
  rw [← Int.pow_add, show 32 - r + r = 32 by omega]; rfl

theorem shl_word {r : Nat} (hr : r < 32) {d : Int} : ∃ X : Int, d * 2 ^ r % 4294967296 = X * 2 ^ r ∧ 0 ≤ X ∧ X * 2 ^ r + 2 ^ r ≤ 4294967296 := by
  have hp : (0 : Int) < 2 ^ r := Int.pow_pos (by decide)
  have hq : (0 : Int) < 2 ^ (32 - r) := Int.pow_pos (by decide)
  have h32 := p2_cut hr
  refine ⟨d % 2 ^ (32 - r), ?_, Int.emod_nonneg _ (by omega), ?_⟩
  · rw [← h32, Int.mul_comm d, Int.mul_comm (2 ^ (32 - r)) (2 ^ r), Int.mul_emod_mul_of_pos _ _ hp, Int.mul_comm]
  · have h1 := Int.emod_lt_of_pos d hq
    have h2 : (d % 2 ^ (32 - r) + 1) * 2 ^ r ≤ 2 ^ (32 - r) * 2 ^ r := Int.mul_le_mul_of_nonneg_right (by omega) (by omega)
    rw [h32, Int.add_mul, Int.one_mul] at h2
    exact h2

theorem shl_carry {r : Nat} {d : Int} (h0 : 0 ≤ d) (h1 : d < 4294967296) : 0 ≤ d * 2 ^ r / 4294967296 ∧ d * 2 ^ r / 4294967296 < 2 ^ r := by
  have hp : (0 : Int) < 2 ^ r := Int.pow_pos (by decide)
  have h2 : 0 ≤ d * 2 ^ r := Int.mul_nonneg h0 (by omega)
  refine ⟨Int.ediv_nonneg h2 (by decide), Int.ediv_lt_of_lt_mul (by decide) ?_⟩
  rw [Int.mul_comm (2 ^ r)]
  exact Int.mul_lt_mul_of_pos_right h1 hp

theorem shl_down {r : Nat} (hr : r < 32) (d : Int) : d / 2 ^ (32 - r) = d * 2 ^ r / 4294967296 := by
  have hp : (0 : Int) < 2 ^ r := Int.pow_pos (by decide)
  rw [← p2_cut hr, Int.mul_ediv_mul_of_pos_left _ _ hp]

theorem dok_snoc_zero {ds : List Int} (h : Dok ds) : Dok (ds ++ [0]) := by
  intro i
  rw [List.getD_eq_getElem?_getD, List.getElem?_append]
  split
  · rw [← List.getD_eq_getElem?_getD]; exact h i
  · cases i - ds.length with
    | zero => simp
    | succ n => simp

theorem shl_dok {r : Nat} (hr : r < 32) {ds : List Int} (h : Dok ds) : Dok (shl r 0 ds) := by
  intro i
  by_cases hi : i < ds.length
  · rw [shl_get r 0 ds i hi]
    obtain ⟨X, h1, h2, h3⟩ := shl_word hr (d := ds.getD i 0)
    have hp : (0 : Int) < 2 ^ r := Int.pow_pos (by decide)
    have h4 : 0 ≤ X * 2 ^ r := Int.mul_nonneg h2 (by omega)
    have h5 := shl_carry (r := r) (h (i - 1)).1 (h (i - 1)).2
    rw [h1]
    split <;> omega
  · rw [List.getD_eq_getElem?_getD, List.getElem?_eq_none (by rw [shl_len]; omega)]; simp

theorem shl_nv {k : Int} {r : Nat} (s : Int) (ds : List Int) (e : Int) (hr : (r : Int) = k % 32) : nv s (shl r 0 (ds ++ [0])) (e + k / 32) = nv s ds e * (2 : Rat) ^ k := by
  unfold nv
  have e1 : k = (r : Int) + 32 * (k / 32) := by omega
  conv => rhs; rw [e1]
  rw [shl_val, Int.add_zero, Int.mul_add 32, two_zpow_add, two_zpow_add, two_zpow_nat]
  push_cast
  grind

theorem shl_nv0 {k : Int} (s : Int) (ds : List Int) (e : Int) (hr : k % 32 = 0) : nv s ds (e + k / 32) = nv s ds e * (2 : Rat) ^ k := by
  unfold nv
  have e1 : k = 32 * (k / 32) := by omega
  conv => rhs; rw [e1]
  rw [Int.mul_add, two_zpow_add]
  grind

theorem eq_of_getD {a b : List Int} (h : a.length = b.length) (h2 : ∀ j, a.getD j 0 = b.getD j 0) : a = b := by
  apply List.ext_getElem h
  intro i h1 h3
  have := h2 i
  rw [List.getD_eq_getElem?_getD, List.getD_eq_getElem?_getD, List.getElem?_eq_getElem h1, List.getElem?_eq_getElem h3] at this
  exact this
end TV.W

namespace Go
theorem u32_or_sum {x y : Int} {r : Nat} (X : Int) (hx : x = X * 2 ^ r) (h0 : 0 ≤ X) (hx1 : x < 4294967296) (hy : 0 ≤ y) (hy1 : y < 2 ^ r) (hs : x + y < 4294967296) : bits .or .u32 x y = x + y := by
  obtain ⟨a, rfl⟩ : ∃ a : Nat, X = a := ⟨X.toNat, by omega⟩
  obtain ⟨b, rfl⟩ : ∃ b : Nat, y = b := ⟨y.toNat, by omega⟩
  have hx2 : x = ((2 ^ r * a : Nat) : Int) := by rw [hx]; push_cast; rw [Int.mul_comm]
  subst hx2
  have hb : b < 2 ^ r := by exact_mod_cast hy1
  have key : (BitVec.ofInt 32 ((2 ^ r * a : Nat) : Int) ||| BitVec.ofInt 32 (b : Int)).toNat = 2 ^ r * a + b := by
    rw [BitVec.toNat_or, BitVec.toNat_ofInt, BitVec.toNat_ofInt, Nat.two_pow_add_eq_or_of_lt hb]
    congr 1
    · generalize 2 ^ r * a = z at *; omega
    · omega
  show IntKind.u32.wrap ((BitVec.ofInt 32 ((2 ^ r * a : Nat) : Int) ||| BitVec.ofInt 32 (b : Int)).toNat : Nat) = _
  rw [key]
  generalize 2 ^ r * a = z at *
  unfold IntKind.wrap
  simp [IntKind.signed, IntKind.bits]
  omega
end Go
end

section
/- Package whole, walked: Shift. -/
namespace Go.Proofs.YtiihokgjplpceaaDoor
open Go.RowKit TV
set_option linter.unusedVariables false

theorem kp_alloc (w : World) (o : Obj) : Below w.heap.size w (w.alloc o) := (Below.refl _ _).alloc (Nat.le_refl _) _
theorem own_base {w : World} {base B : Nat} {e : TypeId} {size : Nat} {v : Value} {n : Nat} {xs : List Value} (h : w.ownsRow base e size v n xs) (hb : B ≤ base) : w.ownsRow B e size v n xs := by
  obtain ⟨h1, h2⟩ := h
  refine ⟨h1, ?_⟩
  rcases h2 with h2 | ⟨g, cap, cur, hv, hg, hh, r⟩
  · exact Or.inl h2
  · exact Or.inr ⟨g, cap, cur, hv, by omega, hh, r⟩
/-- What is owned, behind a store into another block. -/
theorem own_put {w : World} {base : Nat} {e : TypeId} {size : Nat} {v : Value} {n : Nat} {xs : List Value} (h : w.ownsRow base e size v n xs) {p : Addr} (hp : ∀ k, v.ownBlock = some k → k ≠ p.block) (u : Value) : (w.setCell p u).ownsRow base e size v n xs := by
  obtain ⟨h1, h2⟩ := h
  refine ⟨h1, ?_⟩
  rcases h2 with h2 | ⟨g, cap, cur, rfl, hg, hh, r⟩
  · exact Or.inl h2
  · exact Or.inr ⟨g, cap, cur, rfl, hg, by rw [Below.heap_setCell w p u g (hp g rfl)]; exact hh, r⟩

theorem Kp.put2 {w w1 : World} {b : Nat} (h : Kp w w1) (hb : w.heap.size ≤ b) (u0 u1 : Value) : Kp w ((w1.setCell ⟨b, 0, none⟩ u0).setCell ⟨b, 1, none⟩ u1) := (h.out.setCell hb _).setCell hb _

theorem _root_.TV.W.getD_set_self {l : List Int} {i : Nat} {v : Int} (h : i < l.length) : (l.set i v).getD i 0 = v := by
  rw [List.getD_eq_getElem?_getD, List.getElem?_set_self h]; rfl
theorem _root_.TV.W.getD_set_ne {l : List Int} {i j : Nat} {v : Int} (h : i ≠ j) : (l.set i v).getD j 0 = l.getD j 0 := by
  rw [List.getD_eq_getElem?_getD, List.getElem?_set_ne h, ← List.getD_eq_getElem?_getD]

/-- A box with a magnitude of its own words. -/
def MagBox (wc : World) (ds : List Int) (e : Int) (x : Value) (wx : World) : Prop := ∃ f b c, x = .pointer (some ⟨f, 0, none⟩) ∧ wc.heap.size ≤ f ∧ b ≠ f ∧ wx.heap[f]? = some (.cells #[.slice (some ⟨b, 0, none⟩) ds.length c, .int .i64 e] 87 (0, 0)) ∧
  wx.ownsRow wc.heap.size 101 1 (.slice (some ⟨b, 0, none⟩) ds.length c) ds.length (ds.map (Value.int .u32)) ∧ Kp wc wx
theorem magBox_end {wc W : World} {f b c : Nat} {e : Int} {ds : List Int} {c0 c1 : Value} (hf : W.heap[f]? = some (.cells #[c0, c1] 87 (0, 0)))
    (ho : W.ownsRow wc.heap.size 101 1 (.slice (some ⟨b, 0, none⟩) ds.length c) ds.length (ds.map (Value.int .u32))) (hb : b ≠ f) (hK : Kp wc W) (hcf : wc.heap.size ≤ f) :
    MagBox wc ds e (.pointer (some ⟨f, 0, none⟩)) ((W.setCell ⟨f, 0, none⟩ (.slice (some ⟨b, 0, none⟩) ds.length c)).setCell ⟨f, 1, none⟩ (.int .i64 e)) := by
  refine ⟨f, b, c, rfl, hcf, hb, ?_, own_put (own_put ho (fun k hk => by cases hk; exact hb) _) (fun k hk => by cases hk; exact hb) _, (hK.out.setCell hcf _).setCell hcf _⟩
  have := setCell_block (setCell_block hf 0 (.slice (some ⟨b, 0, none⟩) ds.length c)) 1 (.int .i64 e)
  simpa using this
theorem magBox_new {wc W : World} {b c : Nat} {e : Int} {ds : List Int}
    (ho : W.ownsRow wc.heap.size 101 1 (.slice (some ⟨b, 0, none⟩) ds.length c) ds.length (ds.map (Value.int .u32))) (hb : b ≠ W.heap.size) (hK : Kp wc W) :
    MagBox wc ds e (.pointer (some ⟨W.heap.size, 0, none⟩)) (W.alloc (.cells #[.slice (some ⟨b, 0, none⟩) ds.length c, .int .i64 e] 87)) :=
  ⟨W.heap.size, b, c, rfl, hK.out.size, hb, heap_alloc_new _ _, own_keep ho (kp_alloc _ _), hK.step (kp_alloc _ _)⟩
theorem sl_news {w : World} {b o c : Nat} {ds : List Int} (h : Sl w (.slice (some ⟨b, o, none⟩) ds.length c) (ds.map (Value.int .u32))) : ∀ j u, (ds.map (Value.int .u32))[j]? = some u → w.cell? ⟨b, o + j, none⟩ = some u := by
  intro j u hj
  rcases h with ⟨h1, h2⟩ | ⟨b', o', cap, h1, h2, h3, h4⟩
  · cases h1
  · simp only [Value.slice.injEq, Option.some.injEq, Addr.mk.injEq] at h1
    obtain ⟨⟨rfl, rfl, -⟩, -, rfl⟩ := h1
    obtain ⟨hl, rfl⟩ := List.getElem?_eq_some_iff.1 hj
    exact h4 j hl
theorem one_ints (ds : List Int) : ∀ u ∈ ds.map (Value.int .u32), u.oneCell' = true := by
  intro u hu
  obtain ⟨d, -, rfl⟩ := List.mem_map.1 hu
  rfl

end Go.Proofs.YtiihokgjplpceaaDoor
end

section
/- Package whole, walked: Shift of any number. -/
namespace TV
theorem rle_lt {a b c : Rat} (h1 : a ≤ b) (h2 : b < c) : a < c := by grind
theorem rlt_le {a b c : Rat} (h1 : a < b) (h2 : b ≤ c) : a < c := by grind
theorem two_ne (k : Int) : (2 : Rat) ^ k ≠ 0 := fun h => by have hp := two_zpow_pos k; rw [h] at hp; exact absurd hp (by decide)
theorem HighOf.up {q : Rat} {h : Int} (hh : HighOf q h) (k : Int) : HighOf (q * (2 : Rat) ^ k) (h + k) := by
  have hp := two_zpow_pos k
  rcases hh with ⟨h1, h2⟩ | ⟨h1, h2⟩
  · left
    rw [show h + k + 1 = (h + 1) + k by omega, two_zpow_add, two_zpow_add]
    exact ⟨Rat.mul_le_mul_of_nonneg_right h1 (Rat.le_of_lt hp), Rat.mul_lt_mul_of_pos_right h2 hp⟩
  · right
    rw [show h + k + 1 = (h + 1) + k by omega, two_zpow_add, two_zpow_add, ← Rat.neg_mul]
    exact ⟨Rat.mul_le_mul_of_nonneg_right h1 (Rat.le_of_lt hp), Rat.mul_lt_mul_of_pos_right h2 hp⟩
theorem LowOf.up {q : Rat} {l : Int} (hl : LowOf q l) (k : Int) : LowOf (q * (2 : Rat) ^ k) (l + k) := by
  obtain ⟨m, h1, h2⟩ := hl
  exact ⟨m, h1, by rw [h2, two_zpow_add, Rat.mul_assoc]⟩
theorem zpow_lt_imp {a b : Int} (h : (2 : Rat) ^ a < (2 : Rat) ^ b) : a < b := by
  apply Classical.byContradiction
  intro hn
  exact absurd h (Rat.not_lt.2 (zpow_le (by omega)))
theorem low_le_high {q : Rat} {h l : Int} (hh : HighOf q h) (hl : LowOf q l) : l ≤ h := by
  obtain ⟨m, h1, h2⟩ := hl
  have hp := two_zpow_pos l
  have key : ∀ n : Int, 1 ≤ n → (n : Rat) * (2 : Rat) ^ l < (2 : Rat) ^ (h + 1) → l ≤ h := by
    intro n hn hlt
    have h3 : (1 : Rat) ≤ (n : Rat) := by exact_mod_cast hn
    have h4 := Rat.mul_le_mul_of_nonneg_right h3 (Rat.le_of_lt hp)
    rw [Rat.one_mul] at h4
    have := zpow_lt_imp (rle_lt h4 hlt)
    omega
  have hp2 := two_zpow_pos h
  rcases hh with ⟨h3, h4⟩ | ⟨h3, h4⟩
  · have hq : 0 < q := rlt_le hp2 h3
    have : 1 ≤ m := by
      apply Classical.byContradiction
      intro hn
      have h5 : (m : Rat) ≤ 0 := by exact_mod_cast (show m ≤ 0 by omega)
      have h6 := Rat.mul_le_mul_of_nonneg_right h5 (Rat.le_of_lt hp)
      rw [Rat.zero_mul, ← h2] at h6
      exact absurd hq (Rat.not_lt.2 h6)
    exact key m this (by rw [← h2]; exact h4)
  · have hq : 0 < -q := rlt_le hp2 h3
    have : 1 ≤ -m := by
      apply Classical.byContradiction
      intro hn
      have h5 : (0 : Rat) ≤ (m : Rat) := by exact_mod_cast (show 0 ≤ m by omega)
      have h6 := Rat.mul_nonneg h5 (Rat.le_of_lt hp)
      rw [← h2] at h6
      grind
    exact key (-m) this (by rw [Rat.intCast_neg, Rat.neg_mul, ← h2]; exact h4)
theorem wv_far {q : Rat} {k : Int} (hq : OkR q) (h0 : q ≠ 0) (hk : 196608 < k ∨ k < -196608) : WvOf (q * (2 : Rat) ^ k) none := by
  rcases hq with h | ⟨h, l, hh, hl, h1, h2⟩
  · exact absurd h h0
  · have := low_le_high hh hl
    rcases hk with hk | hk
    · exact wv_high (hh.up k) (by omega)
    · exact wv_low (hh.up k) (hl.up k) (by omega)
end TV
namespace Go.Proofs.YtiihokgjplpceaaDoor
open Go.RowKit TV
set_option linter.unusedVariables false

/-- What a shift answers. -/
def shiftO (oa : Option Rat) (k : Int) (o : Option Rat) : Prop := match oa with
  | some q => WvOf (q * (2 : Rat) ^ k) o
  | none => o = none

end Go.Proofs.YtiihokgjplpceaaDoor
end

section
/- Package whole: the highest 64 bits. Plain numbers. -/
namespace TV.W
/-- The digits below a place, moved to where the highest bit is the 64th. -/
def topU (ds : List Int) (a c i : Nat) : Int := dval (ds.take i) * 2 ^ a / 2 ^ c
def topM (ds : List Int) (a c i : Nat) : Bool := decide (dval (ds.take i) * 2 ^ a % 2 ^ c ≠ 0)

theorem p2pos (n : Nat) : (0 : Int) < 2 ^ n := Int.pow_pos (by decide)
theorem p2le {m n : Nat} (h : m ≤ n) : (2 : Int) ^ m ≤ 2 ^ n := by
  have : (2 : Nat) ^ m ≤ 2 ^ n := Nat.pow_le_pow_right (by decide) h
  exact_mod_cast this
theorem pB (i : Nat) : (4294967296 : Int) ^ i = 2 ^ (32 * i) := by
  rw [Int.pow_mul, show (2 : Int) ^ 32 = 4294967296 from rfl]

theorem dok_take {ds : List Int} (h : Dok ds) (i : Nat) : Dok (ds.take i) := by
  intro j
  rw [List.getD_eq_getElem?_getD, List.getElem?_take]
  split
  · rw [← List.getD_eq_getElem?_getD]; exact h j
  · simp

theorem take_bound {ds : List Int} (h : Dok ds) (i : Nat) : 0 ≤ dval (ds.take i) ∧ dval (ds.take i) < 2 ^ (32 * i) := by
  refine ⟨dval_nonneg (dok_take h i), ?_⟩
  have h1 := dval_lt (dok_take h i)
  rw [pB] at h1
  have h2 := p2le (show 32 * (ds.take i).length ≤ 32 * i by rw [List.length_take]; omega)
  omega

theorem take_next {ds : List Int} {i : Nat} (hi : i < ds.length) : dval (ds.take (i + 1)) = dval (ds.take i) + ds.getD i 0 * 2 ^ (32 * i) := by
  rw [dval_take_succ ds i hi, pB]


theorem top_mono {ds : List Int} (hd : Dok ds) {a c i : Nat} (hN : dval ds * 2 ^ a < 2 ^ (c + 64)) : dval (ds.take i) * 2 ^ a < 2 ^ (c + 64) := by
  have h1 : dval (ds.take i) ≤ dval ds := by
    have h2 := dval_append (ds.take i) (ds.drop i)
    rw [List.take_append_drop] at h2
    have h3 : 0 ≤ dval (ds.drop i) := by
      apply dval_nonneg
      intro j
      rw [List.getD_eq_getElem?_getD, List.getElem?_drop, ← List.getD_eq_getElem?_getD]; exact hd _
    have h4 : 0 ≤ 4294967296 ^ (ds.take i).length * dval (ds.drop i) := Int.mul_nonneg (Int.le_of_lt (Int.pow_pos (by decide))) h3
    omega
  have h5 := Int.mul_le_mul_of_nonneg_right h1 (Int.le_of_lt (p2pos a))
  omega

theorem topU_bound {ds : List Int} (hd : Dok ds) {a c i : Nat} (hN : dval ds * 2 ^ a < 2 ^ (c + 64)) : 0 ≤ topU ds a c i ∧ topU ds a c i < 18446744073709551616 := by
  have h1 := top_mono (i := i) hd hN
  have h2 := (take_bound hd i).1
  have h3 : 0 ≤ dval (ds.take i) * 2 ^ a := Int.mul_nonneg h2 (Int.le_of_lt (p2pos a))
  refine ⟨Int.ediv_nonneg h3 (Int.le_of_lt (p2pos c)), Int.ediv_lt_of_lt_mul (p2pos c) ?_⟩
  rw [Int.pow_add, Int.mul_comm (2 ^ c)] at h1
  exact h1

theorem top_zero (ds : List Int) (a c : Nat) : topU ds a c 0 = 0 ∧ topM ds a c 0 = false := by
  unfold topU topM; simp [dval]

/-- A word above the lowest of the 64 bits. -/
theorem top_up {ds : List Int} (hd : Dok ds) {a c i t : Nat} (hi : i < ds.length) (ht : t + c = 32 * i + a) (hN : dval ds * 2 ^ a < 2 ^ (c + 64)) :
    topU ds a c (i + 1) = ds.getD i 0 * 2 ^ t + topU ds a c i ∧ topM ds a c (i + 1) = topM ds a c i ∧ topU ds a c i < 2 ^ t ∧ 0 ≤ ds.getD i 0 * 2 ^ t ∧ ds.getD i 0 * 2 ^ t < 18446744073709551616 := by
  have hb := take_bound hd i
  have e1 : dval (ds.take (i + 1)) * 2 ^ a = dval (ds.take i) * 2 ^ a + ds.getD i 0 * 2 ^ t * 2 ^ c := by
    rw [take_next hi, Int.add_mul, Int.mul_assoc, ← Int.pow_add, ← ht, Int.pow_add, Int.mul_assoc]
  have e2 : topU ds a c (i + 1) = ds.getD i 0 * 2 ^ t + topU ds a c i := by
    unfold topU
    rw [e1, Int.add_mul_ediv_right _ _ (Int.ne_of_gt (p2pos c))]; omega
  have h1 := topU_bound (i := i) hd hN
  have h2 := topU_bound (i := i + 1) hd hN
  have h3 : 0 ≤ ds.getD i 0 * 2 ^ t := Int.mul_nonneg (hd i).1 (Int.le_of_lt (p2pos t))
  refine ⟨e2, ?_, ?_, h3, by omega⟩
  · unfold topM; rw [e1, Int.add_mul_emod_self_right]
  · unfold topU
    refine Int.ediv_lt_of_lt_mul (p2pos c) ?_
    rw [← Int.pow_add, ht, Int.pow_add]
    exact Int.mul_lt_mul_of_pos_right hb.2 (p2pos a)

/-- A word that holds the lowest of the 64 bits within. -/
theorem top_mid {ds : List Int} (hd : Dok ds) {c i s : Nat} (hi : i < ds.length) (hs : c = 32 * i + s) (h0 : 0 < s) (h1 : s < 32) :
    topU ds 0 c i = 0 ∧ topU ds 0 c (i + 1) = ds.getD i 0 / 2 ^ s ∧ topM ds 0 c (i + 1) = (topM ds 0 c i || (ds.getD i 0 * 2 ^ (32 - s) % 4294967296 != 0)) := by
  have hb := take_bound hd i
  have hdi := hd i
  have e0 : dval (ds.take i) * 2 ^ 0 = dval (ds.take i) := by simp
  have e1 : dval (ds.take (i + 1)) * 2 ^ 0 = dval (ds.take i) + ds.getD i 0 * 2 ^ (32 * i) := by rw [take_next hi]; simp
  have hp := p2pos (32 * i)
  have hps := p2pos s
  have hc : (2 : Int) ^ c = 2 ^ (32 * i) * 2 ^ s := by rw [hs, Int.pow_add]
  have hlt : dval (ds.take i) < 2 ^ c := by
    have := p2le (show 32 * i ≤ c by omega)
    omega
  have hu0 : topU ds 0 c i = 0 := by unfold topU; rw [e0]; exact Int.ediv_eq_zero_of_lt hb.1 hlt
  have hm0 : topM ds 0 c i = decide (dval (ds.take i) ≠ 0) := by unfold topM; rw [e0, Int.emod_eq_of_lt hb.1 hlt]
  refine ⟨hu0, ?_, ?_⟩
  · unfold topU
    rw [e1, hc, ← Int.ediv_ediv_of_nonneg (Int.le_of_lt hp), Int.add_mul_ediv_right _ _ (Int.ne_of_gt hp), Int.ediv_eq_zero_of_lt hb.1 hb.2, Int.zero_add]
  · rw [hm0]
    unfold topM
    rw [e1, hc]
    generalize hq : ds.getD i 0 = d at *
    have hd2 : d = 2 ^ s * (d / 2 ^ s) + d % 2 ^ s := (Int.mul_ediv_add_emod d (2 ^ s)).symm
    have hr := Int.emod_nonneg d (Int.ne_of_gt hps)
    have hr2 := Int.emod_lt_of_pos d hps
    have e3 : dval (ds.take i) + d * 2 ^ (32 * i) = (dval (ds.take i) + (d % 2 ^ s) * 2 ^ (32 * i)) + (d / 2 ^ s) * (2 ^ (32 * i) * 2 ^ s) := by
      have : d * 2 ^ (32 * i) = (2 ^ s * (d / 2 ^ s) + d % 2 ^ s) * 2 ^ (32 * i) := by rw [← hd2]
      rw [this]; grind
    have h5 : 0 ≤ (d % 2 ^ s) * 2 ^ (32 * i) := Int.mul_nonneg hr (Int.le_of_lt hp)
    have h6 : (d % 2 ^ s + 1) * 2 ^ (32 * i) ≤ 2 ^ s * 2 ^ (32 * i) := Int.mul_le_mul_of_nonneg_right (by omega) (Int.le_of_lt hp)
    rw [Int.add_mul, Int.one_mul, Int.mul_comm (2 ^ s)] at h6
    rw [e3, Int.add_mul_emod_self_right, Int.emod_eq_of_lt (by omega) (by omega)]
    have e4 : d * 2 ^ (32 - s) % 4294967296 = (d % 2 ^ s) * 2 ^ (32 - s) := by
      have h32 : (4294967296 : Int) = 2 ^ (32 - s) * 2 ^ s := by rw [← Int.pow_add, show 32 - s + s = 32 by omega]; rfl
      rw [h32, Int.mul_comm d, Int.mul_emod_mul_of_pos _ _ (p2pos _), Int.mul_comm]
    rw [e4]
    have hp3 := p2pos (32 - s)
    by_cases c1 : dval (ds.take i) = 0
    · by_cases c2 : d % 2 ^ s = 0
      · rw [c1, c2]; simp
      · have h7 : 0 < (d % 2 ^ s) * 2 ^ (32 * i) := Int.mul_pos (by omega) hp
        have h8 : 0 < (d % 2 ^ s) * 2 ^ (32 - s) := Int.mul_pos (by omega) hp3
        rw [decide_eq_true (by omega), decide_eq_false (by omega), Bool.false_or, bne_iff_ne.2 (by omega)]
    · rw [decide_eq_true (by omega), decide_eq_true c1]; rfl

/-- A word below the 64 bits. -/
theorem top_down {ds : List Int} (hd : Dok ds) {c i : Nat} (hi : i < ds.length) (hc : 32 * (i + 1) ≤ c) :
    topU ds 0 c i = 0 ∧ topU ds 0 c (i + 1) = 0 ∧ topM ds 0 c (i + 1) = (topM ds 0 c i || (ds.getD i 0 != 0)) := by
  have hb := take_bound hd i
  have hb1 := take_bound hd (i + 1)
  have hl := p2le (show 32 * i ≤ c by omega)
  have hl1 := p2le hc
  have e0 : ∀ x : Int, x * 2 ^ 0 = x := by simp
  unfold topU topM
  simp only [e0]
  refine ⟨Int.ediv_eq_zero_of_lt hb.1 (by omega), Int.ediv_eq_zero_of_lt hb1.1 (by omega), ?_⟩
  rw [Int.emod_eq_of_lt hb.1 (by omega), Int.emod_eq_of_lt hb1.1 (by omega), take_next hi]
  have hp := p2pos (32 * i)
  have hdi := hd i
  generalize ds.getD i 0 = d at *
  by_cases c1 : dval (ds.take i) = 0
  · by_cases c2 : d = 0
    · rw [c1, c2]; simp
    · have h7 : 0 < d * 2 ^ (32 * i) := Int.mul_pos (by omega) hp
      rw [decide_eq_true (by omega), decide_eq_false (by omega), Bool.false_or, bne_iff_ne.2 c2]
  · have h7 : 0 ≤ d * 2 ^ (32 * i) := Int.mul_nonneg hdi.1 (Int.le_of_lt hp)
    rw [decide_eq_true (by omega), decide_eq_true c1]; rfl
end TV.W

namespace Go
theorem u64_or_sum {x y : Int} {r : Nat} (X : Int) (hx : x = X * 2 ^ r) (h0 : 0 ≤ X) (hx1 : x < 18446744073709551616) (hy : 0 ≤ y) (hy1 : y < 2 ^ r) (hs : x + y < 18446744073709551616) : bits .or .u64 y x = x + y := by
  obtain ⟨a, rfl⟩ : ∃ a : Nat, X = a := ⟨X.toNat, by omega⟩
  obtain ⟨b, rfl⟩ : ∃ b : Nat, y = b := ⟨y.toNat, by omega⟩
  have hx2 : x = ((2 ^ r * a : Nat) : Int) := by rw [hx]; push_cast; rw [Int.mul_comm]
  subst hx2
  have hb : b < 2 ^ r := by exact_mod_cast hy1
  have key : (BitVec.ofInt 64 (b : Int) ||| BitVec.ofInt 64 ((2 ^ r * a : Nat) : Int)).toNat = 2 ^ r * a + b := by
    rw [BitVec.toNat_or, BitVec.toNat_ofInt, BitVec.toNat_ofInt, Nat.two_pow_add_eq_or_of_lt hb, Nat.or_comm]
    congr 1
    · generalize 2 ^ r * a = z at *; omega
    · omega
  show IntKind.u64.wrap ((BitVec.ofInt 64 (b : Int) ||| BitVec.ofInt 64 ((2 ^ r * a : Nat) : Int)).toNat : Nat) = _
  rw [key]
  generalize 2 ^ r * a = z at *
  unfold IntKind.wrap
  simp [IntKind.signed, IntKind.bits]
  omega
end Go
end

section
/- Package whole, walked: top. -/
namespace Go.Proofs.YtiihokgjplpceaaDoor
open Go.RowKit TV
set_option linter.unusedVariables false

theorem _root_.TV.W.top_top {ds : List Int} (hd : W.Dok ds) {e h : Int} (hh : HighOf (W.nv 1 ds e) h) {a c : Nat} (hl : h - 63 = 32 * e + c - a) :
    2 ^ (c + 63) ≤ W.dval ds * 2 ^ a ∧ W.dval ds * 2 ^ a < 2 ^ (c + 64) := by
  have hn : (0 : Rat) ≤ W.nv 1 ds e := by
    unfold W.nv
    refine Rat.mul_nonneg ?_ (Rat.le_of_lt (two_zpow_pos _))
    exact_mod_cast (by have := W.dval_nonneg hd; omega : (0 : Int) ≤ 1 * W.dval ds)
  have hp := two_zpow_pos h
  rcases hh with ⟨h1, h2⟩ | ⟨h1, h2⟩
  · have hx := two_zpow_pos ((a : Int) - 32 * e)
    have g1 := Rat.mul_le_mul_of_nonneg_right h1 (Rat.le_of_lt hx)
    have g2 := Rat.mul_lt_mul_of_pos_right h2 hx
    have e1 : W.nv 1 ds e * (2 : Rat) ^ ((a : Int) - 32 * e) = ((W.dval ds * 2 ^ a : Int) : Rat) := by
      unfold W.nv
      rw [Rat.mul_assoc, ← two_zpow_add, show 32 * e + ((a : Int) - 32 * e) = (a : Int) by omega, two_zpow_nat, Int.one_mul]
      push_cast; rfl
    rw [e1, ← two_zpow_add] at g1 g2
    rw [show h + ((a : Int) - 32 * e) = ((c + 63 : Nat) : Int) by omega, two_zpow_nat] at g1
    rw [show h + 1 + ((a : Int) - 32 * e) = ((c + 64 : Nat) : Int) by omega, two_zpow_nat] at g2
    constructor
    · have : (((2 ^ (c + 63) : Int)) : Rat) ≤ ((W.dval ds * 2 ^ a : Int) : Rat) := by push_cast; push_cast at g1; exact g1
      exact_mod_cast this
    · have : ((W.dval ds * 2 ^ a : Int) : Rat) < (((2 ^ (c + 64) : Int)) : Rat) := by push_cast; push_cast at g2; exact g2
      exact_mod_cast this
  · exfalso; grind

/-- What top answers. -/
def TopPost (ds : List Int) (e : Int) (w : World) (x : Ending) (w' : World) : Prop :=
  (∃ (h : Int) (a c : Nat), (a = 0 ∨ c = 0) ∧ (h - 63 = 32 * e + c - a) ∧ HighOf (W.nv 1 ds e) h ∧ x = .returned (.tuple #[.int .u64 (W.topU ds a c ds.length), .bool (W.topM ds a c ds.length), .int .i64 (h - 63)])) ∧ Below w.heap.size w w'

set_option maxHeartbeats 8000000 in
set_option maxRecDepth 100000 in
theorem top_walk (e : Int) (b o cap : Nat) (ds : List Int) (w : World) (hs : Sl w (.slice (some ⟨b, o, none⟩) ds.length cap) (ds.map (Value.int .u32))) (hm : Mg ds e) (ea : -2048 ≤ e ∧ e + ds.length ≤ 2049) :
    Calls Tryd.prog 91 #[.agg #[.slice (some ⟨b, o, none⟩) ds.length cap, .int .i64 e]] w (TopPost ds e w) := by
  have hsl := hs
  obtain ⟨wn, hwn, hW, hsz, k0⟩ : ∃ wn, wn = w.alloc (.cells #[.slice (some ⟨b, o, none⟩) ds.length cap, .int .i64 e] 87) ∧ Below w.heap.size w wn ∧ wn.heap.size = w.heap.size + 1 ∧ wn.heap[w.heap.size]? = some (.cells #[.slice (some ⟨b, o, none⟩) ds.length cap, .int .i64 e] 87 (0, 0)) := ⟨_, rfl, kp_alloc _ _, by simp, heap_alloc_new _ _⟩
  have HH := Lib.hid (high_calls e _ ds wn (hs.keep hW) hm)
  have HS := Lib.hid (hs.keep hW)
  have HW := Lib.hid hW
  have HK := Lib.hid k0
  obtain ⟨r0, r1, f0, f1⟩ := res2_facts k0
  clear hs hW hsl
  go_enter Tryd.func91, Tryd.ntmps91
  go_upto_region 1 with (fail)
  rw [← hwn]
  clear hwn
  go_wp2_with fail
  refine HH.out.mono ?_
  rintro x w1 ⟨⟨h, rfl, hh, h1, h2⟩, hb1⟩
  have HHI := Lib.hid (hh 1 (Or.inl rfl))
  have hk1 := keep_block hb1 HK.out
  obtain ⟨r0, r1, f0, f1⟩ := res2_facts hk1
  have HS := Lib.hid (HS.out.keep hb1)
  have HW := Lib.hid (HW.out.trans (hb1.mono HW.out.size))
  obtain ⟨ea1, ea2⟩ := ea
  obtain ⟨low, hlow⟩ : ∃ low, low = h - 63 := ⟨_, rfl⟩
  have b1 : IntKind.i64.wrap (h - 63) = low := by rw [← hlow]; exact IntWalk.i64_in _ (by omega)
  obtain ⟨a, c, hac, hlo⟩ : ∃ a c : Nat, (a = 0 ∨ c = 0) ∧ low = 32 * e + c - a := by
    rcases Int.le_total (32 * e) low with hc | hc
    · exact ⟨0, (low - 32 * e).toNat, Or.inl rfl, by omega⟩
    · exact ⟨(32 * e - low).toNat, 0, Or.inr rfl, by omega⟩
  have hN := W.top_top hm.dok HHI.out (show h - 63 = 32 * e + c - a by omega)
  have HN := Lib.hid hN.2
  have HN1 := Lib.hid hN.1
  have HLOW := Lib.hid hlow
  have l1 : -200000 ≤ low := by omega
  have l2 : low ≤ 200000 := by omega
  have HLO := Lib.hid hlo
  have HAC := Lib.hid hac
  clear hh hb1 hk1 HH HK hlow hlo hac hN h1 h2
  go_wp2_with fail
  go_loop [2, 3, 14] (fun u m i => ∃ j : Nat, j ≤ ds.length ∧ i = .int .i64 j ∧ u = .int .u64 (W.topU ds a c j) ∧ m = .bool (W.topM ds a c j)) (fun _ _ i => ds.length - (intOf i).toNat)
  case atStart =>
    obtain ⟨z1, z2⟩ := W.top_zero ds a c
    exact ⟨0, Nat.zero_le _, rfl, by rw [z1], by rw [z2]⟩
  case round =>
    obtain ⟨j, hj, rfl, rfl, rfl⟩ := hrel
    by_cases hlt : j < ds.length
    · obtain ⟨b', o', hbo, hcap, y1⟩ := sl_at HS.out hlt
      simp only [Option.some.injEq, Addr.mk.injEq] at hbo
      obtain ⟨rfl, rfl, -⟩ := hbo
      have hdj := hm.dok j
      obtain ⟨d, hd⟩ : ∃ d, d = ds.getD j 0 := ⟨_, rfl⟩
      rw [← hd] at y1 hdj
      obtain ⟨hd0, hd1⟩ := hdj
      have HD := Lib.hid hd
      clear hd
      by_cases c1 : c ≤ 32 * j + a
      · obtain ⟨t, ht⟩ : ∃ t : Nat, t + c = 32 * j + a := ⟨32 * j + a - c, by omega⟩
        have hat : 32 * (e + (j : Int)) - low = (t : Int) := by have := HLO.out; omega
        obtain ⟨u1, u2, u3, u4, u5⟩ := W.top_up hm.dok hlt ht HN.out
        have HU1 := Lib.hid u1
        have HU2 := Lib.hid u2
        rw [← HD.out] at HU1 u4 u5
        have hor : bits .or .u64 (W.topU ds a c j) (IntKind.u64.wrap (d * 2 ^ min t 64)) = W.topU ds a c (j + 1) := by
          have hb := W.topU_bound (i := j + 1) hm.dok HN.out
          have hw : IntKind.u64.wrap (d * 2 ^ min t 64) = d * 2 ^ t := by
            by_cases ht64 : t ≤ 64
            · rw [Nat.min_eq_left ht64]
              show d * 2 ^ t % 18446744073709551616 = _
              exact Int.emod_eq_of_lt u4 u5
            · have hd2 : d = 0 := by
                apply Classical.byContradiction
                intro hne
                have h1 : 1 * 2 ^ t ≤ d * 2 ^ t := Int.mul_le_mul_of_nonneg_right (by omega) (Int.le_of_lt (W.p2pos t))
                have h2 := W.p2le (show 64 ≤ t by omega)
                have h3 : (2 : Int) ^ 64 = 18446744073709551616 := rfl
                omega
              rw [hd2, Int.zero_mul, Int.zero_mul]; rfl
          rw [hw, HU1.out]
          exact u64_or_sum d rfl hd0 u5 (W.topU_bound hm.dok HN.out).1 u3 (by rw [← HU1.out]; exact hb.2)
        have HOR := Lib.hid hor
        clear u1 u2 u3 u4 u5 hor c1
        go_wp2_with fail
        refine ⟨⟨j + 1, by omega, rfl, by rw [HOR.out], by rw [HU2.out]⟩, by simp [intOf]; omega⟩
      · have ha0 : a = 0 := by
          rcases HAC.out with h0 | h0
          · exact h0
          · omega
        subst ha0
        by_cases c2 : c < 32 * j + 32
        · obtain ⟨s, hs⟩ : ∃ s : Nat, c = 32 * j + s := ⟨c - 32 * j, by omega⟩
          have hs0 : 0 < s := by omega
          have hs1 : s < 32 := by omega
          obtain ⟨t, ht⟩ : ∃ t : Nat, t = 32 - s := ⟨_, rfl⟩
          have hat : 32 * (e + (j : Int)) - low = -(s : Int) := by have := HLO.out; omega
          have h32 : (32 : Int) + -(s : Int) = (t : Int) := by omega
          have ht1 : t < 32 := by omega
          obtain ⟨u1, u2, u3⟩ := W.top_mid hm.dok hlt hs hs0 hs1
          rw [← HD.out] at u2 u3
          have hds : 0 ≤ d / 2 ^ s ∧ d / 2 ^ s < 18446744073709551616 := by rw [← u2]; exact W.topU_bound hm.dok HN.out
          have hor : bits .or .u64 0 (d / 2 ^ s) = d / 2 ^ s := by
            have := u64_or_sum (x := d / 2 ^ s) (y := 0) (r := 0) (d / 2 ^ s) (by simp) hds.1 hds.2 (by omega) (by decide) (by omega)
            rw [this]; omega
          rw [u1]
          have HU2 := Lib.hid u2
          have HU3 := Lib.hid u3
          clear u1 u2 u3 hds c1 c2 hs
          rcases hM : W.topM ds 0 c j with _ | _
          · rw [hM, Bool.false_or] at HU3
            clear hM
            go_wp2_with fail
            exact ⟨⟨j + 1, by omega, rfl, by rw [HU2.out], by rw [HU3.out]⟩, by simp [intOf]; omega⟩
          · rw [hM, Bool.true_or] at HU3
            clear hM
            go_wp2_with fail
            exact ⟨⟨j + 1, by omega, rfl, by rw [HU2.out], by rw [HU3.out]⟩, by simp [intOf]; omega⟩
        · obtain ⟨v, hat⟩ : ∃ v : Int, 32 * (e + (j : Int)) - low = v := ⟨_, rfl⟩
          have hv1 : v ≤ -32 := by have := HLO.out; omega
          have hv2 : decide (0 ≤ v) = false := decide_eq_false (by omega)
          have hv3 : decide (-32 < v) = false := decide_eq_false (by omega)
          obtain ⟨u1, u2, u3⟩ := W.top_down hm.dok hlt (show 32 * (j + 1) ≤ c by omega)
          rw [← HD.out] at u3
          rw [u1]
          have HU2 := Lib.hid u2
          have HU3 := Lib.hid u3
          clear u1 u2 u3 c1 c2 hv1
          rcases hM : W.topM ds 0 c j with _ | _
          · rw [hM, Bool.false_or] at HU3
            clear hM
            go_wp2_with fail
            exact ⟨⟨j + 1, by omega, rfl, by rw [HU2.out], by rw [HU3.out]⟩, by simp [intOf]; omega⟩
          · rw [hM, Bool.true_or] at HU3
            clear hM
            go_wp2_with fail
            exact ⟨⟨j + 1, by omega, rfl, by rw [HU2.out], by rw [HU3.out]⟩, by simp [intOf]; omega⟩
    · obtain rfl : j = ds.length := by omega
      go_wp2_with fail
      go_ret3
      exact ⟨⟨h, a, c, HAC.out, by have := HLO.out; have := HLOW.out; omega, HHI.out, by rw [← HLOW.out]; rfl⟩, HW.out⟩
end Go.Proofs.YtiihokgjplpceaaDoor
end
