/- The lowest bit of a reference number. -/
import Derived.Test.YtiiipgbfhcbjdaaWkV
import Derived.Test.YtiiipgbfhcbjdaaNmC
namespace Go.Proofs.Ytiiipgbfhcbjdaa
open Go.RowKit TV
set_option linter.unusedVariables false

def LowPost (q : Rat) (w : World) (x : Ending) (w' : World) : Prop := ∃ h : Int, x = .returned (.int .i64 h) ∧ (-200000000000 ≤ h ∧ h ≤ 200000000000) ∧ (q = 0 → h = 0) ∧ (q ≠ 0 → LowOf q h) ∧ Below w.heap.size w w'

theorem lowN {P : Nat → Prop} {w : World} {y : Value} {k : Nat} {q : Rat} (hy : NumV P w y k q) (hk : k ≤ 900000000) :
    Calls Try.prog 24 #[y] w (LowPost q w) := by
  obtain ⟨t, sm, b, g, rfl, ht, nb, hq, ib⟩ := hy
  have hsg := rs_nv nb
  rw [← hq] at hsg
  obtain ⟨p1, c1, rfl⟩ := ht.formMap
  obtain ⟨b1, b2, b3, b4⟩ := id nb
  by_cases h0 : t = 0
  · subst h0
    have hz : q = 0 := by rw [hq, zero_nv]
    clear hsg hq
    go_enter Try.func24, Try.ntmps24
    go_wp2_with fail
    go_ret
    exact ⟨0, rfl, by omega, fun _ => rfl, fun h => absurd (by first | rfl | exact hz) h, (Below.refl _ _).alloc (Nat.le_refl _) _⟩
  · have hpos : 0 < dval b := by omega
    have hsn : t = 1 ∨ t = -1 := by omega
    have hqn : q ≠ 0 := by intro hc; rw [hc] at hsg; exact h0 hsg.symm
    have q1 : (t == 0) = false := by simpa using h0
    have hW : Below w.heap.size w (w.alloc (.cells #[.int .i64 t, .slice p1 b.length c1, .int .i64 g] 34)) := (Below.refl w.heap.size w).alloc (Nat.le_refl _) _
    have htW := ht.keep hW
    have HQ := Lib.hid hq
    have HS := Lib.hid hsn
    clear hsg hq b2 hsn
    go_enter Try.func24, Try.ntmps24
    go_wp2_with fail
    refine (trim_calls t g _ b _ htW (by omega) (by omega)).mono ?_
    rintro x w1 ⟨s', sl', ds', e', rfl, hsl, hb1, htr, htk⟩
    have hnm := trim_nm b1 htr HS.out b3 b4
    have hnv := trim_nv htr
    obtain ⟨rfl, hl, hla, hf, hdd⟩ := trim_ends b1 hpos htr
    obtain ⟨p', cap, rfl⟩ := hsl.formMap
    obtain ⟨b5, o5, rfl, hcap, y1⟩ := hsl.at (i := 0) hl
    have hnl := hnm.lo
    have hnh := hnm.hi
    obtain ⟨d, hd⟩ : ∃ d, d = ds'.getD 0 0 := ⟨_, rfl⟩
    have hd2 : d < 16777216 := by rw [hd]; exact (hdd _).2
    rw [← hd] at y1 hla
    have l5 : b5 < w1.heap.size := World.block_lt_of_cell? w1 _ y1
    have n2 : (0 : Int) < (ds'.length : Int) := by omega
    rw [Nat.add_zero] at y1
    have HD := Lib.hid hd
    have HNV := Lib.hid hnv
    have HDD := Lib.hid hdd
    have HTW := htW
    clear htr htk hd hnv hdd hnm hf
    go_wp2_with fail
    obtain ⟨n0, hn0⟩ : ∃ n0, n0 = 24 * e' := ⟨_, rfl⟩
    rw [← hn0]
    have n4 : -100000000000 ≤ n0 := by omega
    have n5 : n0 ≤ 100000000000 := by omega
    have HN0 := Lib.hid hn0
    clear hn0
    go_loop [4, 5] (fun n x => ∃ (j : Nat) (dd : Int), n = .int .i64 (n0 + j) ∧ x = .int .i64 dd ∧ d = dd * 2 ^ j ∧ 0 < dd ∧ dd ≤ 16777216 ∧ j + dd ≤ 16777217) (fun _ x => (intOf x).toNat)
    case atStart => exact ⟨0, d, by simp, rfl, by simp, hla, by omega, by omega⟩
    case round =>
      obtain ⟨j, dd, rfl, rfl, e1, e3, e4, e5⟩ := hrel
      have E1 := Lib.hid e1
      clear e1
      by_cases hev : dd % 2 = 0
      · go_wp2_with fail
        go_round
        case rel =>
          refine ⟨j + 1, dd / 2, by go_num, rfl, ?_, by omega, by omega, by omega⟩
          have h1 : dd = 2 * (dd / 2) := by omega
          rw [E1.out, Int.pow_succ]
          generalize dd / 2 = z at *
          subst h1; grind
        case measure => simp [intOf]; omega
      · have hodd : dd % 2 = 1 := by omega
        go_wp2_with fail
        go_ret
        refine ⟨_, rfl, by omega, fun h => absurd h hqn, fun _ => ?_, (hW.trans (hb1.mono hW.size)).alloc (by have := hW.size; have := hb1.size; omega) _⟩
        rw [HQ.out, ← HNV.out, HN0.out]
        exact low_nv HS.out HD.out E1.out hodd hla hd2
end Go.Proofs.Ytiiipgbfhcbjdaa
