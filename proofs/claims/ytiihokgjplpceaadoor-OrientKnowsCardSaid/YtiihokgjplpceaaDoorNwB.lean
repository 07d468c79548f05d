/- Texts of one kind, joined. -/
import Derived.Test.YtiihokgjplpceaaDoorNwA
import Derived.Laws.ShiftsVarLaws

section
/- Package whole, walked: bit. -/
namespace Go.Proofs.YtiihokgjplpceaaDoor
open Go.RowKit TV
set_option linter.unusedVariables false

theorem i64_and31 (n : Int) : bits .and .i64 n 31 = n % 32 := by
  have h31 : (BitVec.ofInt 64 31).toNat = 2 ^ 5 - 1 := by decide
  have key : (BitVec.ofInt 64 n &&& BitVec.ofInt 64 31).toNat = (n % ((2 ^ 64 : Nat) : Int)).toNat % 2 ^ 5 := by
    rw [BitVec.toNat_and, BitVec.toNat_ofInt, h31, Nat.and_two_pow_sub_one_eq_mod]
  show IntKind.i64.wrap ((BitVec.ofInt 64 n &&& BitVec.ofInt 64 31).toNat : Nat) = n % 32
  rw [key, IntKind.wrap_i64]
  omega

/-- The words of u times 2^r. -/
theorem bit_dval {u : Int} {r : Nat} (h0 : 0 ≤ u) (h1 : u < 18446744073709551616) (hr : r < 32) {L H : Int} (hL : L = u * 2 ^ r % 18446744073709551616) (hH : H = u * 2 ^ r / 18446744073709551616) :
    W.Dok [L % 4294967296, L / 4294967296 % 4294967296, H % 4294967296] ∧ W.dval [L % 4294967296, L / 4294967296 % 4294967296, H % 4294967296] = u * 2 ^ r := by
  have hp : (0 : Int) < 2 ^ r := Int.pow_pos (by decide)
  have hp2 : (2 : Int) ^ r ≤ 2147483648 := by
    have : (2 : Nat) ^ r ≤ 2 ^ 31 := Nat.pow_le_pow_right (by omega) (by omega)
    have e : (2 : Int) ^ r = ((2 ^ r : Nat) : Int) := by simp
    rw [e]; omega
  have h2 : 0 ≤ u * 2 ^ r := Int.mul_nonneg h0 (by omega)
  have h3 : u * 2 ^ r ≤ 18446744073709551615 * 2147483648 := Int.le_trans (Int.mul_le_mul_of_nonneg_right (show u ≤ 18446744073709551615 by omega) (by omega)) (Int.mul_le_mul_of_nonneg_left hp2 (by omega))
  generalize u * 2 ^ r = x at *
  refine ⟨fun i => ?_, ?_⟩
  · match i with
    | 0 => show 0 ≤ L % 4294967296 ∧ L % 4294967296 < 4294967296; omega
    | 1 => show 0 ≤ L / 4294967296 % 4294967296 ∧ L / 4294967296 % 4294967296 < 4294967296; omega
    | 2 => show 0 ≤ H % 4294967296 ∧ H % 4294967296 < 4294967296; omega
    | i + 3 => show (0 : Int) ≤ 0 ∧ (0 : Int) < 4294967296; omega
  · simp only [W.dval]; omega

theorem bit_nv {u k : Int} {r : Nat} {ds : List Int} (s : Int) (hr : (r : Int) = k % 32) (hd : W.dval ds = u * 2 ^ r) : W.nv s ds (k / 32) = ((s * u : Int) : Rat) * (2 : Rat) ^ k := by
  unfold W.nv
  have e1 : k = (r : Int) + 32 * (k / 32) := by omega
  rw [hd]
  conv => rhs; rw [e1]
  rw [two_zpow_add, two_zpow_nat, ← Int.mul_assoc]
  push_cast
  generalize (2 : Rat) ^ (32 * (k / 32)) = z
  grind

def BitPost (u k : Int) (w : World) (x : Ending) (w' : World) : Prop :=
  ∃ sl ds, x = .returned (.agg #[sl, .int .i64 (k / 32)]) ∧ Sl w' sl (ds.map (Value.int .u32)) ∧ In (fun b => w.heap.size ≤ b) sl ∧ W.Dok ds ∧ ds.length = 3 ∧ (∀ s : Int, W.nv s ds (k / 32) = ((s * u : Int) : Rat) * (2 : Rat) ^ k) ∧ Below w.heap.size w w'

theorem two_new (w : World) (o0 o1 : Obj) : ((w.alloc o0).alloc o1).heap[w.heap.size + 1]? = some o1 := by
  have a1 := heap_alloc_new (w.alloc o0) o1
  simpa only [World.size_alloc] using a1
theorem sl_three {w : World} {b : Nat} {T : TypeId} {x y z : Int} (h : w.heap[b]? = some (.cells #[.int .u32 x, .int .u32 y, .int .u32 z] T (0, 0))) : Sl w (.slice (some ⟨b, 0, none⟩) 3 3) ([x, y, z].map (Value.int .u32)) := by
  refine Or.inr ⟨b, 0, 3, rfl, by simp, block_lt h, fun i hi => ?_⟩
  rw [Nat.zero_add, cell_of_block h]
  match i, hi with
  | 0, _ => rfl
  | 1, _ => rfl
  | 2, _ => rfl

theorem bit_calls (u k : Int) (w : World) (h0 : 0 ≤ u) (h1 : u < 18446744073709551616) (hk : -1000000 ≤ k) (hk2 : k ≤ 1000000) :
    Calls Tryd.prog 94 #[.int .u64 u, .int .i64 k] w (BitPost u k w) := by
  have hb := i64_and31 k
  obtain ⟨r, hr⟩ : ∃ r : Nat, (r : Int) = k % 32 := ⟨(k % 32).toNat, by omega⟩
  rw [← hr] at hb
  have hr1 : r < 32 := by omega
  have hr2 : (0 : Int) ≤ r := by omega
  have hr3 : (r : Int) < 64 := by omega
  obtain ⟨L, hL⟩ : ∃ L : Int, L = u * 2 ^ r % 18446744073709551616 := ⟨_, rfl⟩
  obtain ⟨H, hH⟩ : ∃ H : Int, H = u * 2 ^ r / 18446744073709551616 := ⟨_, rfl⟩
  obtain ⟨g1, g2⟩ := bit_dval h0 h1 hr1 hL hH
  have hw : IntKind.u64.wrap (u * 2 ^ r) = L := by rw [hL]; rfl
  have HN := Lib.hid (fun s => bit_nv s hr g2)
  have HD := Lib.hid g1
  have hH2 : r = 0 → H = 0 := by
    intro h; rw [hH, h]
    simp only [Int.pow_zero, Int.mul_one]; omega
  by_cases c : r = 0
  · have hH0 := hH2 c
    subst c
    have hLu : L = u := by rw [hL]; simp only [Int.pow_zero, Int.mul_one]; omega
    rw [hH0, hLu] at HN HD
    have e1 : u / 4294967296 % 4294967296 = u / 4294967296 := by omega
    rw [e1] at HN HD
    clear g1 g2 hL hH hr hH2 hLu hw e1
    go_enter Tryd.func94, Tryd.ntmps94
    go_wp2_with fail
    refine bodyPost_ret (v := .agg #[.slice (some ⟨w.heap.size + 1, 0, none⟩) 3 3, .int .i64 (k / 32)]) (by simp [results, Tryd.results94, go_sem]) rfl ?_
    exact ⟨_, [u % 4294967296, u / 4294967296, 0], rfl, sl_three (two_new _ _ _), In.mk (a := ⟨w.heap.size + 1, 0, none⟩) (by simp), HD.out, rfl, HN.out, ((Below.refl w.heap.size w).alloc (Nat.le_refl _) _).alloc (by simp) _⟩
  · have c1 : 0 < r := by omega
    have hH3 : u / 2 ^ (64 - r) = H := by
      rw [hH]
      have e1 : (18446744073709551616 : Int) = 2 ^ (64 - r) * 2 ^ r := by rw [← Int.pow_add, show 64 - r + r = 64 by omega]; rfl
      rw [e1, Int.mul_ediv_mul_of_pos_left _ _ (Int.pow_pos (by decide))]
    have c2 : (0 : Int) < r := by omega
    have e1 : 0 ≤ L ∧ L < 18446744073709551616 := by omega
    have e2 : L / 4294967296 % 4294967296 = L / 4294967296 := by omega
    have e3 : H % 4294967296 = H := by
      have := g1 2
      have hp : (0 : Int) < 2 ^ r := Int.pow_pos (by decide)
      have hp2 : (2 : Int) ^ r ≤ 2147483648 := by
        have : (2 : Nat) ^ r ≤ 2 ^ 31 := Nat.pow_le_pow_right (by omega) (by omega)
        have e : (2 : Int) ^ r = ((2 ^ r : Nat) : Int) := by simp
        rw [e]; omega
      have h2 : 0 ≤ u * 2 ^ r := Int.mul_nonneg h0 (by omega)
      have h3 : u * 2 ^ r ≤ 18446744073709551615 * 2147483648 := Int.le_trans (Int.mul_le_mul_of_nonneg_right (show u ≤ 18446744073709551615 by omega) (by omega)) (Int.mul_le_mul_of_nonneg_left hp2 (by omega))
      generalize u * 2 ^ r = x at *
      omega
    have e4 : 0 ≤ H ∧ H < 4294967296 := by omega
    rw [e2, e3] at HN HD
    obtain ⟨e5, e6⟩ := e1
    obtain ⟨e7, e8⟩ := e4
    clear g1 g2 hL hH hr hH2 c e2 e3
    go_enter Tryd.func94, Tryd.ntmps94
    go_wp2_with fail
    refine bodyPost_ret (v := .agg #[.slice (some ⟨w.heap.size + 1, 0, none⟩) 3 3, .int .i64 (k / 32)]) (by simp [results, Tryd.results94, go_sem]) rfl ?_
    exact ⟨_, [L % 4294967296, L / 4294967296, H], rfl, sl_three (two_new _ _ _), In.mk (a := ⟨w.heap.size + 1, 0, none⟩) (by simp), HD.out, rfl, HN.out, ((Below.refl w.heap.size w).alloc (Nat.le_refl _) _).alloc (by simp) _⟩
end Go.Proofs.YtiihokgjplpceaaDoor
end

section
/- Package whole, walked: Int, OK, Sign, Neg. -/
namespace TV
theorem okR_pow {s : Int} (hs : s = 1 ∨ s = -1) {u : Nat} (hu : u < 2 ^ 64) {k : Int} (hk : -65536 ≤ k) (hk2 : k ≤ 65000) : OkR (((s * (u : Int) : Int) : Rat) * (2 : Rat) ^ k) := by
  by_cases h0 : u = 0
  · left; subst h0; simp
  · right
    obtain ⟨j, -, j2, j3⟩ := W.bitLen_pow u (by omega) hu
    obtain ⟨t, m, e⟩ := W.odd_part u (by omega)
    have hj : j < 64 := by
      apply Classical.byContradiction
      intro hc
      have : 2 ^ 64 ≤ 2 ^ j := Nat.pow_le_pow_right (by omega) (by omega)
      omega
    have hp := two_zpow_pos k
    have a1 : (2 : Rat) ^ (k + j) ≤ (u : Rat) * (2 : Rat) ^ k := by
      rw [Int.add_comm, two_zpow_add, two_zpow_nat]
      exact Rat.mul_le_mul_of_nonneg_right (by exact_mod_cast j2) (Rat.le_of_lt hp)
    have a2 : (u : Rat) * (2 : Rat) ^ k < (2 : Rat) ^ (k + j + 1) := by
      rw [show k + j + 1 = ((j + 1 : Nat) : Int) + k by omega, two_zpow_add, two_zpow_nat]
      exact Rat.mul_lt_mul_of_pos_right (by exact_mod_cast j3) hp
    have a3 : LowOf (((s * (u : Int) : Int) : Rat) * (2 : Rat) ^ k) (t + k) := by
      refine ⟨s * (2 * m + 1), by rcases hs with rfl | rfl <;> omega, ?_⟩
      rw [two_zpow_add, two_zpow_nat, e]
      generalize (2 : Rat) ^ k = z
      push_cast
      grind
    refine ⟨k + j, t + k, ?_, a3, by omega, by omega⟩
    rcases hs with rfl | rfl
    · left
      rw [Int.one_mul, Rat.intCast_natCast]; exact ⟨a1, a2⟩
    · right
      rw [Int.neg_mul, Int.one_mul, Rat.intCast_neg, Rat.intCast_natCast, Rat.neg_mul, Rat.neg_neg]; exact ⟨a1, a2⟩
end TV
namespace Go.Proofs.YtiihokgjplpceaaDoor
open Go.RowKit TV
set_option linter.unusedVariables false

theorem WNum.form {P : Nat → Prop} {w : World} {v : Value} {o : Option Rat} (h : WNum P w v o) : ∃ p n c e neg none, v = .agg #[.slice p n c, .int .i64 e, .bool neg, .bool none] := by
  cases o with
  | none => exact ⟨_, _, _, _, _, _, h⟩
  | some q =>
    obtain ⟨sl, ds, e, neg, rfl, hs, -⟩ := h
    obtain ⟨p, c, rfl⟩ := hs.formMap
    exact ⟨_, _, _, _, _, _, rfl⟩
theorem WNum.keep {P : Nat → Prop} {w w1 : World} {v : Value} {o : Option Rat} (h : WNum P w v o) (hb : Below w.heap.size w w1) : WNum P w1 v o := by
  cases o with
  | none => exact h
  | some q => obtain ⟨sl, ds, e, neg, h1, hs, h2⟩ := h; exact ⟨sl, ds, e, neg, h1, hs.keep hb, h2⟩
theorem WNum.mono {P Q : Nat → Prop} {w : World} {v : Value} {o : Option Rat} (h : WNum P w v o) (hPQ : ∀ b, P b → Q b) : WNum Q w v o := by
  cases o with
  | none => exact h
  | some q => obtain ⟨sl, ds, e, neg, h1, hs, hP, h2⟩ := h; exact ⟨sl, ds, e, neg, h1, hs, hP.mono hPQ, h2⟩
theorem WNum.put {P : Nat → Prop} {w : World} {v : Value} {o : Option Rat} (h : WNum P w v o) {p : Addr} (hp : ¬ P p.block) (u : Value) : WNum P (w.setCell p u) v o := by
  cases o with
  | none => exact h
  | some q => obtain ⟨sl, ds, e, neg, h1, hs, hP, h2⟩ := h; exact ⟨sl, ds, e, neg, h1, hs.put hP hp u, hP, h2⟩
theorem WNum.put4 {P : Nat → Prop} {w : World} {v : Value} {o : Option Rat} (h : WNum P w v o) {b : Nat} (hb : ¬ P b) (u0 u1 u2 u3 : Value) :
    WNum P ((((w.setCell ⟨b, 0, none⟩ u0).setCell ⟨b, 1, none⟩ u1).setCell ⟨b, 2, none⟩ u2).setCell ⟨b, 3, none⟩ u3) v o :=
  (((h.put (p := ⟨b, 0, none⟩) hb u0).put (p := ⟨b, 1, none⟩) hb u1).put (p := ⟨b, 2, none⟩) hb u2).put (p := ⟨b, 3, none⟩) hb u3
theorem WNum.lt {P : Nat → Prop} {w : World} {v : Value} {o : Option Rat} (h : WNum P w v o) : WNum (fun b => P b ∧ b < w.heap.size) w v o := by
  cases o with
  | none => exact h
  | some q => obtain ⟨sl, ds, e, neg, h1, hs, hP, h2⟩ := h; exact ⟨sl, ds, e, neg, h1, hs, fun a n c he => ⟨hP a n c he, hs.lt a n c he⟩, h2⟩

/-- What bit and made do together. -/
theorem made_bit {w w1 : World} {u k : Int} {neg : Bool} {sl : Value} {ds : List Int} (h0 : 0 ≤ u) (h1 : u < 18446744073709551616) (hk : -65536 ≤ k) (hk2 : k ≤ 65000)
    (hs : Sl w1 sl (ds.map (Value.int .u32))) (hP : In (fun b => w.heap.size ≤ b) sl) (hd : W.Dok ds) (hl : ds.length = 3) (hn : ∀ s : Int, W.nv s ds (k / 32) = ((s * u : Int) : Rat) * (2 : Rat) ^ k) (ht : TabOk w1) :
    Calls Tryd.prog 93 #[.agg #[sl, .int .i64 (k / 32)], .bool neg] w1 fun x w' => RetW (fun b => w.heap.size ≤ b) (some (((sg neg * u : Int) : Rat) * (2 : Rat) ^ k)) w1 x w' :=
  (made_calls (k / 32) sl ds neg w1 hs hP hd (by omega) (by omega) ht).mono fun x w' ⟨o, h2, h3⟩ => by
    rw [hn] at h2
    have hok : OkR (((sg neg * u : Int) : Rat) * (2 : Rat) ^ k) := by
      obtain ⟨n, rfl⟩ : ∃ n : Nat, u = n := ⟨u.toNat, by omega⟩
      exact okR_pow (sg_cases neg) (by omega) hk hk2
    rw [h2.1 hok] at h3
    exact h3

theorem wSign_calls (p : Option Addr) (n c : Nat) (e : Int) (neg none : Bool) (w : World) : Calls Tryd.prog 86 #[.agg #[.slice p n c, .int .i64 e, .bool neg, .bool none]] w fun x w' => x = .returned (.int .i64 (if n = 0 then 0 else if neg then -1 else 1)) ∧ Below w.heap.size w w' := by
  by_cases h : n = 0
  · subst h
    go_enter Tryd.func86, Tryd.ntmps86
    go_wp2_with fail
    go_ret
    exact ⟨rfl, (Below.refl w.heap.size w).alloc (Nat.le_refl _) _⟩
  · have h2 : ¬ (n : Int) = 0 := by omega
    rw [if_neg h]
    cases neg
    all_goals
      go_enter Tryd.func86, Tryd.ntmps86
      go_wp2_with fail
      go_ret
      exact ⟨rfl, (Below.refl w.heap.size w).alloc (Nat.le_refl _) _⟩
theorem wNeg_calls (p : Option Addr) (n c : Nat) (e : Int) (neg none : Bool) (w : World) : Calls Tryd.prog 92 #[.agg #[.slice p n c, .int .i64 e, .bool neg, .bool none]] w fun x w' => x = .returned (.agg #[.slice p n c, .int .i64 e, .bool (!neg && decide (0 < n)), .bool none]) ∧ Below w.heap.size w w' := by
  cases neg
  all_goals
    go_enter Tryd.func92, Tryd.ntmps92
    go_wp2_with fail
  · refine bodyPost_ret (v := .agg #[.slice p n c, .int .i64 e, .bool (decide (0 < n)), .bool none]) (by simp [results, Tryd.results92, go_sem]) rfl ?_
    exact ⟨rfl, ((Below.refl w.heap.size w).alloc (Nat.le_refl _) _).alloc (by simp) _⟩
  · refine bodyPost_ret (v := .agg #[.slice p n c, .int .i64 e, .bool false, .bool none]) (by simp [results, Tryd.results92, go_sem]) rfl ?_
    exact ⟨rfl, ((Below.refl w.heap.size w).alloc (Nat.le_refl _) _).alloc (by simp) _⟩

end Go.Proofs.YtiihokgjplpceaaDoor
end
