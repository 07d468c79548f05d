/- Texts of one kind, joined. -/
import Derived.Test.YtiihokgjplpceaaDoorWhB
import Derived.Laws.BitsAllLaws
import Derived.Test.YtiihokgjplpceaaDoorShelf

section
/- bits.TrailingZeros32, walked. -/
namespace TV.W
theorem and_compl (n a : Nat) (h : a < 2 ^ n) : a &&& (2 ^ n - (a + 1)) = 0 := by
  apply Nat.eq_of_testBit_eq
  intro i
  rw [Nat.testBit_and, Nat.testBit_two_pow_sub_succ h]
  cases a.testBit i <;> simp
theorem and_neg : ∀ (j N m : Nat), (2 * m + 1) * 2 ^ j < 2 ^ N → ((2 * m + 1) * 2 ^ j) &&& (2 ^ N - (2 * m + 1) * 2 ^ j) = 2 ^ j := by
  intro j
  induction j with
  | zero =>
    intro N m h
    rw [Nat.pow_zero, Nat.mul_one] at *
    cases N with
    | zero => simp at h
    | succ N =>
      have e : 2 ^ (N + 1) - (2 * m + 1) = 2 * (2 ^ N - (m + 1)) + 1 := by rw [Nat.pow_succ] at *; omega
      have hm : m < 2 ^ N := by rw [Nat.pow_succ] at h; omega
      have h2 := and_compl N m hm
      rw [e]
      apply Nat.eq_of_testBit_eq
      intro i
      cases i with
      | zero => simp [Nat.testBit_zero]
      | succ i =>
        rw [Nat.testBit_and, Nat.testBit_succ, Nat.testBit_succ, Nat.testBit_succ, show (2 * m + 1) / 2 = m by omega, show (2 * (2 ^ N - (m + 1)) + 1) / 2 = 2 ^ N - (m + 1) by omega, ← Nat.testBit_and, h2]
  | succ j ih =>
    intro N m h
    cases N with
    | zero => have := Nat.two_pow_pos (j + 1); have h2 : (2 * m + 1) * 2 ^ (j + 1) ≥ 1 * 2 ^ (j + 1) := Nat.mul_le_mul_right _ (by omega); simp at h; omega
    | succ N =>
      have e1 : (2 * m + 1) * 2 ^ (j + 1) = 2 * ((2 * m + 1) * 2 ^ j) := by rw [Nat.pow_succ]; simp only [Nat.mul_comm, Nat.mul_left_comm]
      rw [e1] at h ⊢
      have h3 : (2 * m + 1) * 2 ^ j < 2 ^ N := by rw [Nat.pow_succ] at h; omega
      have h4 := ih N m h3
      generalize (2 * m + 1) * 2 ^ j = x at *
      have e2 : 2 ^ (N + 1) - 2 * x = 2 * (2 ^ N - x) := by rw [Nat.pow_succ]; omega
      rw [e2, Nat.pow_succ, Nat.mul_comm (2 ^ j), ← h4]
      apply Nat.eq_of_testBit_eq
      intro i
      cases i with
      | zero => simp [Nat.testBit_zero]
      | succ i =>
        rw [Nat.testBit_and, Nat.testBit_succ, Nat.testBit_succ, Nat.testBit_succ, show (2 * x) / 2 = x by omega, show (2 * (2 ^ N - x)) / 2 = 2 ^ N - x by omega, Nat.mul_div_cancel_left _ (by omega), Nat.testBit_and]
theorem odd_part : ∀ (x : Nat), 0 < x → ∃ j m, x = (2 * m + 1) * 2 ^ j := by
  intro x
  induction x using Nat.strongRecOn with
  | _ x ih =>
    intro h
    by_cases c : x % 2 = 1
    · exact ⟨0, x / 2, by simp; omega⟩
    · obtain ⟨j, m, e⟩ := ih (x / 2) (by omega) (by omega)
      exact ⟨j + 1, m, by rw [Nat.pow_succ, ← Nat.mul_assoc, ← e]; omega⟩
def tzTab : List Int := [0, 1, 28, 2, 29, 14, 24, 3, 30, 22, 20, 15, 25, 17, 4, 8, 31, 27, 13, 23, 21, 19, 16, 7, 26, 12, 18, 6, 11, 5, 10, 9]
theorem tz_tab : ∀ j : Nat, j < 32 → tzTab.getD (2 ^ j * 125613361 % 4294967296 / 134217728) 0 = (j : Int) := by decide

end TV.W
namespace Go.Proofs.YtiihokgjplpceaaDoor
open Go.RowKit TV
set_option linter.unusedVariables false

/-- The table of package math/bits, where the program has it. -/
def TabOk (w : World) : Prop := ∀ j : Nat, j < 32 → w.cell? ⟨1, j, none⟩ = some (.int .u8 (W.tzTab.getD j 0))
theorem TabOk.keep {w w1 : World} (h : TabOk w) (hb : Below w.heap.size w w1) : TabOk w1 := fun j hj => keep_cell hb (h j hj)

theorem tz_parts (x : Int) (h0 : 0 < x) (h1 : x ≤ 4294967295) : ∃ j m : Nat, x.toNat = (2 * m + 1) * 2 ^ j ∧ x = (2 * m + 1) * 2 ^ j ∧ j < 32 := by
  obtain ⟨j, m, e⟩ := W.odd_part x.toNat (by omega)
  have hxe : x = (((2 * m + 1) * 2 ^ j : Nat) : Int) := by rw [← e]; omega
  refine ⟨j, m, e, by rw [hxe]; norm_cast, ?_⟩
  apply Classical.byContradiction
  intro hc
  have h2 : 2 ^ 32 ≤ 2 ^ j := Nat.pow_le_pow_right (by omega) (by omega)
  have h3 : 1 * 2 ^ j ≤ (2 * m + 1) * 2 ^ j := Nat.mul_le_mul_right _ (by omega)
  omega

theorem tz_calls (x : Int) (h0 : 0 < x) (h1 : x ≤ 4294967295) (w : World) (ht : TabOk w) {j m : Nat} (e : x.toNat = (2 * m + 1) * 2 ^ j) :
    Calls Tryd.prog 104 #[.int .u32 x] w fun e' w' => e' = .returned (.int .i64 j) ∧ w' = w := by
  have hx : (x == 0) = false := by simp; omega
  have hxe : x = (((2 * m + 1) * 2 ^ j : Nat) : Int) := by rw [← e]; omega
  have hlt : (2 * m + 1) * 2 ^ j < 2 ^ 32 := by rw [← e]; omega
  have hj : j < 32 := by
    apply Classical.byContradiction
    intro hc
    have h2 : 2 ^ 32 ≤ 2 ^ j := Nat.pow_le_pow_right (by omega) (by omega)
    have h3 : 1 * 2 ^ j ≤ (2 * m + 1) * 2 ^ j := Nat.mul_le_mul_right _ (by omega)
    omega
  have hand : bits .and .u32 x (-x % 4294967296) = ((2 ^ j : Nat) : Int) := by
    rw [u32_and _ _ (by omega) (by omega) (by omega) (by omega)]
    have e2 : (-x % 4294967296).toNat = 2 ^ 32 - (2 * m + 1) * 2 ^ j := by rw [← e]; omega
    rw [e, e2, W.and_neg j 32 m hlt]
  obtain ⟨p, hp⟩ : ∃ p : Int, p = ((2 ^ j : Nat) : Int) := ⟨_, rfl⟩
  rw [← hp] at hand
  have htab := W.tz_tab j hj
  obtain ⟨k, hk⟩ : ∃ k : Nat, k = 2 ^ j * 125613361 % 4294967296 / 134217728 := ⟨_, rfl⟩
  have hk2 : p * 125613361 % 4294967296 / 134217728 = (k : Int) := by rw [hp, hk, Int.natCast_ediv, Int.natCast_emod, Int.natCast_mul]; rfl
  rw [← hk] at htab
  have hk3 : k < 32 := by omega
  have hc := ht k hk3
  rw [htab] at hc
  have hk4 : (0 : Int) ≤ (k : Int) := by omega
  have hk5 : (k : Int) < 32 := by omega
  have HJ := Lib.hid hj
  have hw64 : wrap64 (j : Int) = (j : Int) := by unfold wrap64; omega
  clear hxe hlt hj hp hk htab ht e hk3
  go_enter Tryd.func104, Tryd.ntmps104
  go_wp2_with fail
  go_ret
  exact ⟨(show Ending.returned (.int .i64 (wrap64 (j : Int))) = _ by rw [hw64]), rfl⟩

end Go.Proofs.YtiihokgjplpceaaDoor
end

section
/- Package whole, walked: High, Low. -/
namespace TV.W
theorem bitLen_pow : ∀ x : Nat, 0 < x → x < 2 ^ 64 → ∃ j, Go.Lib.bitLen x = j + 1 ∧ 2 ^ j ≤ x ∧ x < 2 ^ (j + 1) := by
  intro x
  induction x using Nat.strongRecOn with
  | _ x ih =>
    intro h0 h
    rw [Go.Lib.bitLen_half x (by omega) h]
    by_cases c : x = 1
    · subst c; exact ⟨0, by decide, by decide, by decide⟩
    · obtain ⟨j, h1, h2, h3⟩ := ih (x / 2) (by omega) (by omega) (by omega)
      exact ⟨j + 1, by omega, by rw [Nat.pow_succ]; omega, by rw [Nat.pow_succ]; omega⟩
end TV.W
namespace Go.Proofs.YtiihokgjplpceaaDoor
open Go.RowKit TV
set_option linter.unusedVariables false

/-- What package whole keeps of a magnitude that is no nought. -/
structure Mg (ds : List Int) (e : Int) : Prop where
  dok : W.Dok ds
  lo : -1000000000 ≤ e
  hi : e + ds.length ≤ 1000000000
  len : 0 < ds.length
  last : ds.getD (ds.length - 1) 0 ≠ 0
  first : ds.getD 0 0 ≠ 0

theorem high_calls (e : Int) (sl : Value) (ds : List Int) (w : World) (hs : Sl w sl (ds.map (Value.int .u32))) (hm : Mg ds e) :
    Calls Tryd.prog 98 #[.agg #[sl, .int .i64 e]] w fun e' w' => (∃ h : Int, e' = .returned (.int .i64 h) ∧ (∀ s, s = 1 ∨ s = -1 → HighOf (W.nv s ds e) h) ∧ 32 * (e + ds.length - 1) ≤ h ∧ h ≤ 32 * (e + ds.length) - 1) ∧ Below w.heap.size w w' := by
  obtain ⟨hd, he, he2, hl, hlast, -⟩ := hm
  rcases hs with ⟨rfl, hx⟩ | ⟨b, o, cap, rfl, h2, h3, h4⟩
  · have : ds = [] := by simpa using hx
    subst this; simp at hl
  · rw [List.length_map] at *
    obtain ⟨n, hn⟩ : ∃ n, n = ds.length := ⟨_, rfl⟩
    have hk : ds.length - 1 < ds.length := by omega
    have hc := h4 (ds.length - 1) (by simpa using hk)
    rw [List.getElem_map] at hc
    have hd2 : ds.getD (ds.length - 1) 0 = ds[ds.length - 1] := by rw [List.getD_eq_getElem?_getD, List.getElem?_eq_getElem hk]; rfl
    have hd3 := hd (ds.length - 1)
    rw [← hd2] at hc
    have HH := Lib.hid (fun (s : Int) (hs : s = 1 ∨ s = -1) (j : Nat) h1 h2 => W.high_nv (e := e) (j := j) hd hs hl rfl h1 h2)
    obtain ⟨d, hdd⟩ : ∃ d, d = ds.getD (ds.length - 1) 0 := ⟨_, rfl⟩
    rw [← hdd] at hc hd3 HH hlast
    rw [← hn] at hc he2 hl h2 HH
    rw [← hn]
    obtain ⟨j, j1, j2, j3⟩ := W.bitLen_pow d.toNat (by omega) (by omega)
    have hj : j < 32 := by
      apply Classical.byContradiction
      intro hc2
      have : 2 ^ 32 ≤ 2 ^ j := Nat.pow_le_pow_right (by omega) (by omega)
      omega
    have HJ : Hid ((2 : Int) ^ j ≤ d ∧ d < (2 : Int) ^ (j + 1)) := by
      have e1 : ∀ i : Nat, (2 : Int) ^ i = ((2 ^ i : Nat) : Int) := fun i => by simp
      rw [e1, e1]; show _ ∧ _; omega
    have HL : ∀ w, Calls Tryd.prog 103 #[.int .u32 d] w fun e w' => e = .returned (.int .i64 (31 - (j : Int))) ∧ w' = w := fun w =>
      (Tryd.bits_LeadingZeros32 d w hd3.1 (by omega)).mono fun _ _ ⟨q1, q2⟩ => ⟨by rw [q1, j1]; congr 2; omega, q2⟩
    have HL := Lib.hid HL
    clear h4 hd2 hdd hk hd j2 j3 j1 hn
    have h6 : (0 : Int) ≤ (n : Int) - 1 := by omega
    have h7 : (n : Int) - 1 < (n : Int) := by omega
    have h8 : ((n : Int) - 1).toNat = n - 1 := by omega
    have h9 : ¬ (n : Int) = 0 := by omega
    have b1 : IntKind.i64.wrap (e + n) = e + n := IntWalk.i64_in _ (by omega)
    have b2 : IntKind.i64.wrap (32 * (e + n)) = 32 * (e + n) := IntWalk.i64_in _ (by omega)
    have b3 : IntKind.i64.wrap (32 * (e + n) - 1) = 32 * (e + n) - 1 := IntWalk.i64_in _ (by omega)
    have b4 : IntKind.i64.wrap ((n : Int) - 1) = (n : Int) - 1 := IntWalk.i64_in _ (by omega)
    have b5 : IntKind.i64.wrap (32 * (e + n) - 1 - (31 - (j : Int))) = 32 * (e + n) - 1 - (31 - (j : Int)) := IntWalk.i64_in _ (by omega)
    go_enter Tryd.func98, Tryd.ntmps98
    go_wp2_with fail
    go_quiet ((go_at_call 103; exact Calls.quiet_of_same (HL.out _)))
    go_wp2_with fail
    go_ret
    exact ⟨⟨_, rfl, fun s hs => by have := HH.out s hs j HJ.out.1 HJ.out.2; rw [show 32 * (e + n) - 1 - (31 - (j : Int)) = 32 * (e + n - 1) + j by omega]; exact this, by omega, by omega⟩, bl_drewN ((Below.refl _ _).alloc (Nat.le_refl _) _) _⟩

theorem low_calls (e : Int) (sl : Value) (ds : List Int) (w : World) (hs : Sl w sl (ds.map (Value.int .u32))) (hm : Mg ds e) (ht : TabOk w) :
    Calls Tryd.prog 100 #[.agg #[sl, .int .i64 e]] w fun e' w' => (∃ h : Int, e' = .returned (.int .i64 h) ∧ (∀ s, s = 1 ∨ s = -1 → LowOf (W.nv s ds e) h) ∧ 32 * e ≤ h ∧ h ≤ 32 * e + 31) ∧ Below w.heap.size w w' := by
  obtain ⟨hd, he, he2, hl, -, hfirst⟩ := hm
  rcases hs with ⟨rfl, hx⟩ | ⟨b, o, cap, rfl, h2, h3, h4⟩
  · have : ds = [] := by simpa using hx
    subst this; simp at hl
  · rw [List.length_map] at *
    obtain ⟨n, hn⟩ : ∃ n, n = ds.length := ⟨_, rfl⟩
    have hc := h4 0 (by simpa using hl)
    rw [List.getElem_map] at hc
    have hd2 : ds.getD 0 0 = ds[0] := by rw [List.getD_eq_getElem?_getD, List.getElem?_eq_getElem hl]; rfl
    have hd3 := hd 0
    rw [← hd2, Nat.add_zero] at hc
    have HH := Lib.hid (fun (s : Int) (hs : s = 1 ∨ s = -1) (x : Int) (j : Nat) h1 h2 h3 h4 => W.low_nv (ds := ds) (e := e) (x := x) (j := j) hs rfl h1 h2 h3 h4)
    obtain ⟨d, hdd⟩ : ∃ d, d = ds.getD 0 0 := ⟨_, rfl⟩
    rw [← hdd] at hc hd3 HH hfirst
    rw [← hn] at he2 hl h2
    rw [← hn]
    have HD : Hid (0 < d ∧ d < 4294967296) := by show _ ∧ _; omega
    obtain ⟨j, m, j1, j2, j3⟩ := tz_parts d (by omega) (by omega)
    have HT : ∀ W, Below w.heap.size w W → Calls Tryd.prog 104 #[.int .u32 d] W fun e' w' => e' = .returned (.int .i64 j) ∧ w' = W := fun W hW => tz_calls d (by omega) (by omega) W (ht.keep hW) j1
    have HH := Lib.hid (fun (s : Int) (hs : s = 1 ∨ s = -1) => HH.out s hs (2 * m + 1) j j2 (by omega) (by omega) (by omega))
    have HT := Lib.hid HT
    clear h4 hd2 hdd hd ht hd3 hn j1 j2
    have h9 : ¬ (n : Int) = 0 := by omega
    have h10 : (0 : Int) < n := by omega
    have b2 : IntKind.i64.wrap (32 * e) = 32 * e := IntWalk.i64_in _ (by omega)
    have b3 : IntKind.i64.wrap (32 * e + (j : Int)) = 32 * e + (j : Int) := IntWalk.i64_in _ (by omega)
    go_enter Tryd.func100, Tryd.ntmps100
    go_wp2_with fail
    have hB : Below w.heap.size w (w.alloc (.cells #[.slice (some ⟨b, o, none⟩) n cap, .int .i64 e] 87)) := (Below.refl _ _).alloc (Nat.le_refl _) _
    have HB := Lib.hid hB
    clear hB
    go_quiet ((go_at_call 104; exact Calls.quiet_of_same (HT.out _ (bl_drewN HB.out _))))
    go_wp2_with fail
    go_ret
    exact ⟨⟨_, rfl, HH.out, by omega, by omega⟩, bl_drewN HB.out _⟩

end Go.Proofs.YtiihokgjplpceaaDoor
end
