/- The ends of lines and texts: in plain Lean. -/
import Derived.Test.YtooimjokbkbleaaLnR
namespace TV

theorem linesGo_none {a : Bs} (h : noNl a) : ∀ cur : Bs, linesGo a cur = [cur ++ a] := by
  induction a with
  | nil => intro cur; simp [linesGo]
  | cons c a ih =>
    intro cur
    rw [linesGo, if_neg (h c (by simp)), ih (fun x hx => h x (by simp [hx]))]; simp
theorem rep_nl {n : Nat} {c : UInt8} (h : c ≠ 10) : noNl (List.replicate n c) := by
  intro x hx; rw [List.eq_of_mem_replicate hx]; exact h

theorem rep_blank (n : Nat) : allBlank (List.replicate n 32) := by
  unfold allBlank; rw [List.all_eq_true]; intro x hx; rw [List.eq_of_mem_replicate hx]; rfl

theorem end_c (n : Nat) (h1 : 65536 < n) (h2 : n ≤ 1000000) : (readT (10 :: List.replicate n 32)).2 = (2, 3) := by
  have e : linesGo (10 :: List.replicate n 32) [] = [[], List.replicate n 32] := by
    rw [linesGo, if_pos rfl, linesGo_none (rep_nl (by decide))]; rfl
  unfold readT
  rw [if_neg (by simp; omega), e, readGo, if_neg (by simp), line_blank (bl := []) rfl]
  simp only [if_true]
  rw [readGo, if_pos (by simp; omega)]
theorem end_d (n : Nat) (h1 : n ≤ 65536) : (readT (10 :: List.replicate n 32)).2 = (0, 0) := by
  have e : linesGo (10 :: List.replicate n 32) [] = [[], List.replicate n 32] := by
    rw [linesGo, if_pos rfl, linesGo_none (rep_nl (by decide))]; rfl
  unfold readT
  rw [if_neg (by simp; omega), e, readGo, if_neg (by simp), line_blank (bl := []) rfl]
  simp only [if_true]
  rw [readGo, if_neg (by simp; omega), line_blank (rep_blank _)]
  simp [readGo]
theorem end_e (n : Nat) (h : 16777216 < n) : (readT (List.replicate n 10)).2 = (0, 3) := by
  unfold readT; rw [if_pos (by simp; omega)]
theorem empties : ∀ (k no : Nat), readGo (List.replicate k []) no [] = ([], 0, 0) := by
  intro k
  induction k with
  | zero => intro no; rfl
  | succ k ih =>
    intro no
    rw [List.replicate_succ, readGo, if_neg (by simp), line_blank (bl := []) rfl]
    exact ih _
theorem linesGo_empties : ∀ k : Nat, linesGo (List.replicate k 10) [] = List.replicate (k + 1) [] := by
  intro k
  induction k with
  | zero => rfl
  | succ k ih => rw [List.replicate_succ, linesGo, if_pos rfl, ih, ← List.replicate_succ]
theorem end_f (n : Nat) (h : n ≤ 16777216) : (readT (List.replicate n 10)).2 = (0, 0) := by
  unfold readT; rw [if_neg (by simp; omega), linesGo_empties, empties]

theorem rep_plain (n : Nat) {c : UInt8} (h : plainB c = true) : (List.replicate n c).all plainB = true := by
  rw [List.all_eq_true]; intro x hx; rw [List.eq_of_mem_replicate hx]; exact h

theorem split_two (n : Nat) (hn : 0 < n) : splitGo ([120, 32] ++ List.replicate n 97) [] = [[120], List.replicate n 97] := by
  have h1 : splitGo ([120, 32] ++ List.replicate n 97) [] = one [120] ++ splitGo (List.replicate n 97) [] := by
    show splitGo (120 :: 32 :: List.replicate n 97) [] = _
    rw [splitGo, if_neg (by decide), splitGo, if_pos (by decide)]; rfl
  rw [h1, split_plain _ _ (rep_plain n (by decide))]
  have hne : List.replicate n (97 : UInt8) ≠ [] := by intro h; have := congrArg List.length h; simp at this; omega
  rw [List.nil_append, one, one, if_neg hne]; rfl

theorem end_g (n : Nat) (h1 : 400 < n) (h2 : n ≤ 1000) : (readT ([120, 32] ++ List.replicate n 97)).2 = (1, 4) := by
  have hn : noNl ([120, 32] ++ List.replicate n (97 : UInt8)) := by
    intro x hx
    rcases List.mem_append.1 hx with h | h
    · simp at h; rcases h with rfl | rfl <;> decide
    · rw [List.eq_of_mem_replicate h]; decide
  have hh : (List.replicate n (97 : UInt8)).all (fun c => !(c == 35)) = true := by
    rw [List.all_eq_true]; intro x hx; rw [List.eq_of_mem_replicate hx]; rfl
  have ha : ahead ([120, 32] ++ List.replicate n (97 : UInt8)) = [120, 32] ++ List.replicate n 97 := by
    apply ahead_self
    rw [List.all_append, hh]; rfl
  have hg : goodB (List.replicate n 97) = false := by unfold goodB; simp; omega
  have hw : lineWords ([120, 32] ++ List.replicate n (97 : UInt8)) = none := by
    unfold lineWords
    rw [ha, split_two n (by omega), List.all_cons, List.all_cons, hg]; rfl
  unfold readT
  rw [if_neg (by simp; omega), linesGo_none hn, readGo, if_neg (by simp; omega), List.nil_append, hw]
theorem end_h (n k : Nat) (h1 : 0 < n) (h2 : n ≤ 400) (h3 : k ≤ 1000) : readT ([120, 32] ++ List.replicate n 97 ++ [35] ++ List.replicate k 98) = ([(1, [[120], List.replicate n 97])], 0, 0) := by
  have hn : noNl ([120, 32] ++ List.replicate n (97 : UInt8) ++ [35] ++ List.replicate k 98) := by
    intro x hx
    simp only [List.mem_append] at hx
    rcases hx with ((h | h) | h) | h
    · simp at h; rcases h with rfl | rfl <;> decide
    · rw [List.eq_of_mem_replicate h]; decide
    · simp at h; subst h; decide
    · rw [List.eq_of_mem_replicate h]; decide
  have hh : (List.replicate n (97 : UInt8)).all (fun c => !(c == 35)) = true := by
    rw [List.all_eq_true]; intro x hx; rw [List.eq_of_mem_replicate hx]; rfl
  have ha : ahead ([120, 32] ++ List.replicate n (97 : UInt8) ++ [35] ++ List.replicate k 98) = [120, 32] ++ List.replicate n 97 := by
    rw [List.append_assoc ([120, 32] ++ _), ahead_app]
    · show _ ++ ahead (35 :: _) = _
      rw [ahead_hash, List.append_nil]
    · rw [List.all_append, hh]; rfl
  have hne : List.replicate n (97 : UInt8) ≠ [] := by intro h; have := congrArg List.length h; simp at this; omega
  have hg : goodB (List.replicate n 97) = true := by
    unfold goodB; rw [rep_plain n (by decide)]; simp; omega
  have hw : lineWords ([120, 32] ++ List.replicate n (97 : UInt8) ++ [35] ++ List.replicate k 98) = some [[120], List.replicate n 97] := by
    unfold lineWords
    rw [ha, split_two n h1, if_pos]
    rw [List.all_cons, List.all_cons, hg]; rfl
  unfold readT
  rw [if_neg (by simp; omega), linesGo_none hn, readGo, if_neg (by simp; omega), List.nil_append, hw]
  rfl

theorem wend_bad {L : List (List Bs)} (h : L.all lineOk = false) : (writeT L).2 = 1 := by unfold writeT; rw [h]; rfl
theorem wend_u (n : Nat) (h : 400 < n) : (writeT [[List.replicate n 97]]).2 = 1 := by
  have hg : goodB (List.replicate n 97) = false := by unfold goodB; simp; omega
  apply wend_bad; simp [lineOk, hg]
theorem join_rep : ∀ k : Nat, (joinGo (List.replicate k [97]) false).length = 2 * k := by
  intro k
  induction k with
  | zero => rfl
  | succ k ih => rw [List.replicate_succ, joinGo]; simp [ih]; omega
theorem join_rep1 (k : Nat) : (joinW (List.replicate (k + 1) [97])).length = 2 * k + 1 := by
  rw [List.replicate_succ, joinW, joinGo]; simp [join_rep]
theorem rep_ok (k : Nat) : ([List.replicate (k + 1) ([97] : Bs)]).all lineOk = true := by
  have : (List.replicate (k + 1) ([97] : Bs)).all goodB = true := by
    rw [List.all_eq_true]; intro x hx; rw [List.eq_of_mem_replicate hx]; rfl
  simp [lineOk, this]
theorem wend_v (n : Nat) (h : 32768 < n) : (writeT [List.replicate n [97]]).2 = 3 := by
  obtain ⟨k, rfl⟩ : ∃ k, n = k + 1 := ⟨n - 1, by omega⟩
  unfold writeT
  rw [if_pos (rep_ok k), writeGo, if_pos (by rw [join_rep1]; omega)]
theorem wend_w (n : Nat) (h0 : 0 < n) (h : n ≤ 32768) : (writeT [List.replicate n [97]]).2 = 0 := by
  obtain ⟨k, rfl⟩ : ∃ k, n = k + 1 := ⟨n - 1, by omega⟩
  unfold writeT
  rw [if_pos (rep_ok k), writeGo, if_neg (by rw [join_rep1]; simp; omega), writeGo]

end TV
