/- The law LinesWrite, walked. -/
import Derived.Test.YtooimjokbkbleaaLnF
namespace Go.Proofs.Ytooimjokbkbleaa
open Go.RowKit TV
set_option linter.unusedVariables false

/-- How much the first lines hold. -/
def psum (L : List (List ByteArray)) (i : Nat) : Nat := ((L.take i).map wsum).sum
theorem psum_succ {L : List (List ByteArray)} {i : Nat} (h : i < L.length) : psum L (i + 1) = psum L i + wsum L[i] := by
  unfold psum; rw [List.take_succ_eq_append_getElem h, List.map_append, List.sum_append]; simp
theorem psum_tot (L : List (List ByteArray)) : tot L = psum L L.length + L.length := by
  unfold psum tot; rw [List.take_length]
  induction L with
  | nil => simp
  | cons a L ih => simp [ih]; omega
def wsz (l : List ByteArray) (j : Nat) : Nat := ((l.take j).map ByteArray.size).sum
theorem wsz_succ {l : List ByteArray} {j : Nat} (h : j < l.length) : wsz l (j + 1) = wsz l j + l[j].size := by
  unfold wsz; rw [List.take_succ_eq_append_getElem h, List.map_append, List.sum_append]; simp
theorem wsz_tot (l : List ByteArray) : wsum l = wsz l l.length + l.length := by
  unfold wsz wsum; rw [List.take_length]
  induction l with
  | nil => simp
  | cons a L ih => simp [ih]; omega

set_option maxRecDepth 100000 in
set_option maxHeartbeats 4000000 in
theorem LinesWrite_walk (L : List (List ByteArray)) (v : Value) (w : World) (hL : Sss w v L) (hb1 : L.length ≤ 140737488351232) (hb2 : ∀ l ∈ L, l.length ≤ 140737488351232 ∧ ∀ s ∈ l, s.size ≤ 140737488351232) :
    Calls Try.prog 3 #[v] w fun e w' => e = .returned (.bool true) ∧ Below w.heap.size w w' := by
  obtain ⟨p, cap, rfl⟩ := hL.form
  have HB := Lib.hid hb2
  clear hb2
  go_enter Try.func3, Try.ntmps3
  go_wp2
  go_loop [3, 4] (fun nv iv => ∃ (i n : Nat), i ≤ L.length ∧ iv = .int .i64 i ∧ nv = .int .i64 n ∧ n ≤ 562949953421312 ∧ Hid (n < 200000 → n = L.length + psum L i)) (fun _ iv => L.length - (intOf iv).toNat)
  case atStart => exact ⟨0, L.length, Nat.zero_le _, rfl, rfl, by omega, fun _ => by simp [psum]⟩
  case round =>
    obtain ⟨i, n, hi, rfl, rfl, hn, hsum⟩ := hrel
    by_cases hc : i < L.length ∧ n < 200000
    · obtain ⟨hlt, hn2⟩ := hc
      obtain ⟨b, o, q, c, rfl, hb, hc, hrow⟩ := hL.row hlt
      have hl1 := (HB.out L[i] (List.getElem_mem hlt)).1
      have hs0 : Hid (n = L.length + psum L i) := hsum.out hn2
      have hd : decide ((n : Int) < 200000) = true := decide_eq_true (by omega)
      have hn3 : n ≤ 200001 := by omega
      have HN := Lib.hid hn2
      clear hsum hn2 hn
      go_wp2
      go_loop [3, 5] (fun nv jv => ∃ (j m : Nat), j ≤ L[i].length ∧ jv = .int .i64 j ∧ nv = .int .i64 m ∧ m ≤ 562949953421312 ∧ Hid (m < 200000 → m = L.length + psum L i + L[i].length + wsz L[i] j)) (fun _ jv => L[i].length - (intOf jv).toNat)
      case atStart => exact ⟨0, n + L[i].length, Nat.zero_le _, rfl, by go_num, by omega, fun _ => by have := hs0.out; simp [wsz]; omega⟩
      case round =>
        obtain ⟨j, m, hj, rfl, rfl, hm, hsum⟩ := hrel
        by_cases hc2 : j < L[i].length ∧ m < 200000
        · obtain ⟨hjl, hm2⟩ := hc2
          obtain ⟨b2, o2, rfl, hb2, hc2⟩ := hrow.at hjl
          have hl2 := (HB.out L[i] (List.getElem_mem hlt)).2 L[i][j] (List.getElem_mem hjl)
          have hs1 : Hid (m = L.length + psum L i + L[i].length + wsz L[i] j) := hsum.out hm2
          have hd2 : decide ((m : Int) < 200000) = true := decide_eq_true (by omega)
          have hm3 : m ≤ 200001 := by omega
          clear hsum hm2 hm
          go_wp2
          go_round
          case rel => exact ⟨j + 1, m + L[i][j].size, by omega, by go_num, by go_num, by omega, fun _ => by have := hs1.out; rw [wsz_succ hjl]; omega⟩
          case measure => simp [intOf]; omega
        · have hfin : Hid (m < 200000 → m = L.length + psum L (i + 1)) := fun h => by
            have h1 := hsum.out h
            have : j = L[i].length := by omega
            subst this
            rw [psum_succ hlt, wsz_tot]; omega
          clear hsum
          have hor : L[i].length ≤ j ∨ 200000 ≤ m := by omega
          clear hc2
          by_cases hjl : j < L[i].length
          all_goals
            have hor' := Lib.hid hor
            clear hor
            have hm9 := Lib.hid hm
            clear hm
            first | (have hm2 : decide ((m : Int) < 200000) = false := decide_eq_false (by have := hor'.out; omega)) | skip
            go_wp2
            go_round
            case rel => exact ⟨i + 1, m, by omega, by go_num, rfl, hm9.out, hfin.out⟩
            case measure => simp [intOf]; omega
    · by_cases hbig : 200000 ≤ n
      · by_cases hlt : i < L.length
        all_goals
          have hd : decide ((n : Int) < 200000) = false := decide_eq_false (by omega)
          have hd2 : decide ((200000 : Int) ≤ (n : Int)) = true := decide_eq_true (by omega)
          clear hc hbig hn
          go_wp2
          go_ret
          exact ⟨rfl, Below.refl _ _⟩
      · have hil : i = L.length := by omega
        have htot : tot L ≤ 1099511627776 := by have := hsum.out (by omega); rw [psum_tot, ← hil]; omega
        have hlt : L.length ≤ i := by omega
        have HT := Lib.hid htot
        have HI := Lib.hid hil
        have hd : decide ((n : Int) < 200000) = true := decide_eq_true (by omega)
        have hd2 : decide ((200000 : Int) ≤ (n : Int)) = false := decide_eq_false (by omega)
        clear htot hil hc hsum hbig hn
        set_option maxRecDepth 2000000 in go_wp2_with fail
        refine (refwrite_calls L _ _ hL HT.out).mono ?_
        rintro e w1 ⟨rfl, hb1⟩
        go_wp2_with fail
        refine (write_calls L _ _ (hL.keep hb1) HT.out).mono ?_
        rintro e w2 ⟨rfl, hb2⟩
        go_wp2_with fail
        go_ret
        exact ⟨rfl, below2 hb1 hb2⟩

end Go.Proofs.Ytooimjokbkbleaa
