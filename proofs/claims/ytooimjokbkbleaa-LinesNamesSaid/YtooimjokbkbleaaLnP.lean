/- What is written is read: in plain Lean. -/
import Derived.Test.YtooimjokbkbleaaLnA
namespace TV

def noNl (s : Bs) : Prop := ∀ c ∈ s, c ≠ 10

theorem linesGo_app (a b : Bs) (cur : Bs) (h : noNl a) : linesGo (a ++ 10 :: b) cur = (cur ++ a) :: linesGo b [] := by
  induction a generalizing cur with
  | nil => simp [linesGo]
  | cons c a ih =>
    have hc := h c (by simp)
    rw [List.cons_append, linesGo, if_neg hc, ih _ (fun x hx => h x (by simp [hx]))]
    simp

theorem plain_nl {c : UInt8} (h : plainB c = true) : c ≠ 10 := by rintro rfl; cases h

theorem join_nl : ∀ (l : List Bs) (b : Bool), l.all goodB = true → noNl (joinGo l b) := by
  intro l
  induction l with
  | nil => intro b _ c hc; cases b <;> simp [joinGo] at hc
  | cons w l ih =>
    intro b h c hc
    simp only [List.all_cons, Bool.and_eq_true] at h
    have hw : w.all plainB = true := by have := h.1; unfold goodB at this; simp only [Bool.and_eq_true] at this; exact this.1.1
    rw [joinGo] at hc
    simp only [List.mem_append] at hc
    rcases hc with (hc | hc) | hc
    · cases b
      · simp at hc; subst hc; decide
      · simp at hc
    · exact plain_nl (List.all_eq_true.1 hw c hc)
    · exact ih false h.2 c hc

theorem good_parts {w : Bs} (h : goodB w = true) : w.all plainB = true ∧ w ≠ [] ∧ w.length ≤ 400 := by
  unfold goodB at h
  simp only [Bool.and_eq_true, Bool.not_eq_true', decide_eq_true_eq] at h
  refine ⟨h.1.1, ?_, h.2⟩
  rintro rfl; simp at h

/-- Plain bytes go on with the word under way. -/
theorem split_app (a b : Bs) : ∀ cur : Bs, a.all plainB = true → splitGo (a ++ b) cur = splitGo b (cur ++ a) := by
  induction a with
  | nil => intro cur _; simp
  | cons c a ih =>
    intro cur h
    simp only [List.all_cons, Bool.and_eq_true] at h
    rw [List.cons_append, splitGo, if_neg (by rw [(plain_not_blank h.1).1]; simp), ih _ h.2]
    simp

theorem ahead_app (a b : Bs) (h : a.all (fun c => !(c == 35)) = true) : ahead (a ++ b) = a ++ ahead b := by
  induction a with
  | nil => rfl
  | cons c a ih =>
    simp only [List.all_cons, Bool.and_eq_true] at h
    have hc : c ≠ 35 := by simpa using h.1
    rw [List.cons_append, ahead_cons _ _ hc, ih h.2]; rfl

theorem join_hash : ∀ (l : List Bs) (b : Bool), l.all goodB = true → (joinGo l b).all (fun c => !(c == 35)) = true := by
  intro l
  induction l with
  | nil => intro b _; cases b <;> rfl
  | cons w l ih =>
    intro b h
    simp only [List.all_cons, Bool.and_eq_true] at h
    have hw := (good_parts h.1).1
    rw [joinGo, List.all_append, List.all_append, ih false h.2, Bool.and_true]
    have h1 : w.all (fun c => !(c == 35)) = true := by
      rw [List.all_eq_true] at hw ⊢
      intro c hc; have := (plain_not_blank (hw c hc)).2; simpa using this
    rw [h1, Bool.and_true]; cases b <;> rfl

theorem ahead_self {a : Bs} (h : a.all (fun c => !(c == 35)) = true) : ahead a = a := by
  have := ahead_app a [] h
  simpa [ahead] using this

theorem split_join : ∀ (l : List Bs), l.all goodB = true → (∀ cur : Bs, splitGo (joinGo l false) cur = one cur ++ l) ∧ splitGo (joinGo l true) [] = l := by
  intro l
  induction l with
  | nil => intro _; exact ⟨fun cur => by simp [joinGo, splitGo], by simp [joinGo, splitGo, one]⟩
  | cons w l ih =>
    intro h
    simp only [List.all_cons, Bool.and_eq_true] at h
    obtain ⟨hw, hne, -⟩ := good_parts h.1
    have hr := ih h.2
    have ho : one w = [w] := by simp [one, hne]
    refine ⟨fun cur => ?_, ?_⟩
    · rw [joinGo]
      simp only [Bool.false_eq_true, if_false, List.cons_append, List.nil_append]
      rw [splitGo, if_pos (show blankB 32 = true from rfl), split_app _ _ _ hw, List.nil_append, hr.1, ho]; simp
    · rw [joinGo]
      simp only [if_true, List.nil_append]
      rw [split_app _ _ _ hw, List.nil_append, hr.1, ho]; simp

theorem line_join {l : List Bs} (h : l.all goodB = true) : lineWords (joinW l) = some l := by
  unfold lineWords
  rw [joinW, ahead_self (join_hash l true h), (split_join l h).2, if_pos h]

/-- What lines are as a text. -/
def textOf (L : List (List Bs)) : Bs := L.flatMap (fun l => joinW l ++ [10])

theorem writeGo_ok : ∀ (L : List (List Bs)) (out s : Bs), writeGo L out = (s, 0) → s = out ++ textOf L ∧ (∀ l ∈ L, (joinW l).length ≤ 65536) ∧ (L ≠ [] → s.length ≤ 16777216) := by
  intro L
  induction L with
  | nil => intro out s h; simp only [writeGo, Prod.mk.injEq, and_true] at h; subst h; simp [textOf]
  | cons l L ih =>
    intro out s h
    rw [writeGo] at h
    split at h
    · simp at h
    · rename_i hc
      obtain ⟨h1, h2, h3⟩ := ih _ _ h
      refine ⟨by rw [h1]; simp [textOf], ?_, fun _ => ?_⟩
      · intro x hx
        rcases List.mem_cons.1 hx with rfl | hx
        · omega
        · exact h2 x hx
      · by_cases hL : L = []
        · subst hL; rw [h1]; simp [textOf]; omega
        · exact h3 hL

theorem write_le {L : List (List Bs)} {s : Bs} (h : writeT L = (s, 0)) : s.length ≤ 16777216 := by
  unfold writeT at h
  split at h
  · obtain ⟨h1, -, h3⟩ := writeGo_ok L [] s h
    by_cases hL : L = []
    · subst hL; rw [h1]; simp [textOf]
    · exact h3 hL
  · simp at h

/-- The numbered lines. -/
def numb : Nat → List (List Bs) → List (Nat × List Bs)
  | _, [] => []
  | n, l :: L => (n, l) :: numb (n + 1) L

theorem read_text : ∀ (L : List (List Bs)) (n : Nat) (out : List (Nat × List Bs)), (∀ l ∈ L, lineOk l = true ∧ (joinW l).length ≤ 65536) → readGo (linesGo (textOf L) []) n out = (out ++ numb n L, 0, 0) := by
  intro L
  induction L with
  | nil => intro n out _; simp [textOf, linesGo, readGo, numb, lineWords, ahead, splitGo, one]
  | cons l L ih =>
    intro n out h
    obtain ⟨h1, h2⟩ := h l (by simp)
    have hg : l.all goodB = true := by unfold lineOk at h1; simp only [Bool.and_eq_true] at h1; exact h1.2
    have hne : l ≠ [] := by rintro rfl; cases h1
    have e : textOf (l :: L) = joinW l ++ 10 :: textOf L := by simp [textOf]
    rw [e, linesGo_app (joinW l) _ _ (join_nl l true hg), List.nil_append, readGo, if_neg (by omega), line_join hg]
    simp only [hne, if_false]
    rw [ih _ _ (fun x hx => h x (by simp [hx]))]
    simp [numb]

/-- What is written is read. -/
theorem write_read {L : List (List Bs)} {s : Bs} (h : writeT L = (s, 0)) : readT s = (numb 1 L, 0, 0) := by
  unfold writeT at h
  split at h
  · rename_i hall
    obtain ⟨h1, h2, h3⟩ := writeGo_ok L [] s h
    rw [List.nil_append] at h1
    unfold readT
    rw [if_neg, h1, read_text L 1 [] (fun l hl => ⟨List.all_eq_true.1 hall l hl, h2 l hl⟩)]
    · rfl
    · by_cases hL : L = []
      · subst hL; rw [h1]; simp [textOf]
      · have := h3 hL; omega
  · simp at h

theorem numb_snd (L : List (List Bs)) : ∀ n, (numb n L).map (·.2) = L := by
  induction L with
  | nil => intro n; rfl
  | cons l L ih => intro n; simp [numb, ih]
theorem numb_len (L : List (List Bs)) (n : Nat) : (numb n L).length = L.length := by
  have := congrArg List.length (numb_snd L n); simpa using this
theorem numb_at {L : List (List Bs)} : ∀ {n i : Nat} (h : i < L.length), (numb n L)[i]? = some (n + i, L[i]) := by
  induction L with
  | nil => intro n i h; simp at h
  | cons l L ih =>
    intro n i h
    cases i with
    | zero => rfl
    | succ i => rw [numb, List.getElem?_cons_succ, ih (by simpa using h)]; simp; omega

/-! ### What is read is written -/
theorem join_split_len (s : Bs) : ∀ cur : Bs, (joinW (splitGo s cur)).length ≤ cur.length + s.length ∧ (joinGo (splitGo s cur) false).length ≤ cur.length + s.length + 1 := by
  induction s with
  | nil => intro cur; by_cases h : cur = [] <;> simp [splitGo, one, h, joinW, joinGo] <;> omega
  | cons c r ih =>
    intro cur
    rw [splitGo]
    split
    · have := ih []
      by_cases h : cur = []
      · subst h; simp [one, joinW] at this ⊢; omega
      · simp [one, h, joinW, joinGo] at this ⊢; omega
    · have := ih (cur ++ [c]); simp at this ⊢; omega

theorem line_len {s : Bs} {ws : List Bs} (h : lineWords s = some ws) : (joinW ws).length ≤ s.length ∧ ws.all goodB = true := by
  unfold lineWords at h
  split at h
  · rename_i ha
    simp only [Option.some.injEq] at h
    subst h
    refine ⟨?_, ha⟩
    have h1 := (join_split_len (ahead s) []).1
    have h2 : (ahead s).length ≤ s.length := (List.takeWhile_sublist _).length_le
    simp at h1; omega
  · cases h

theorem readGo_ok : ∀ (ls : List Bs) (no : Nat) (out R : List (Nat × List Bs)) (n : Nat), readGo ls no out = (R, n, 0) →
    ∃ R', R = out ++ R' ∧ n = 0 ∧ (∀ x ∈ R', lineOk x.2 = true ∧ (joinW x.2).length ≤ 65536) ∧ (R'.map (fun x => (joinW x.2).length + 1)).sum ≤ (ls.map (fun l => l.length + 1)).sum := by
  intro ls
  induction ls with
  | nil => intro no out R n h; simp only [readGo, Prod.mk.injEq] at h; obtain ⟨rfl, rfl, -⟩ := h; exact ⟨[], by simp, rfl, by simp, by simp⟩
  | cons l ls ih =>
    intro no out R n h
    rw [readGo] at h
    split at h
    · simp at h
    · rename_i hl
      cases hw : lineWords l with
      | none => rw [hw] at h; simp at h
      | some ws =>
        rw [hw] at h
        obtain ⟨h1, h2⟩ := line_len hw
        obtain ⟨R', e1, e2, e3, e4⟩ := ih _ _ _ _ h
        by_cases h0 : ws = []
        · rw [if_pos h0] at e1
          exact ⟨R', e1, e2, e3, by simp; omega⟩
        · rw [if_neg h0] at e1
          refine ⟨(no, ws) :: R', by rw [e1]; simp, e2, ?_, by simp; omega⟩
          intro x hx
          rcases List.mem_cons.1 hx with rfl | hx
          · refine ⟨?_, by simp; omega⟩
            unfold lineOk; rw [h2, Bool.and_true]
            cases ws with
            | nil => exact absurd rfl h0
            | cons => rfl
          · exact e3 x hx

theorem lines_sum (s : Bs) : ∀ cur : Bs, ((linesGo s cur).map (fun l => l.length + 1)).sum = cur.length + s.length + 1 := by
  induction s with
  | nil => intro cur; simp [linesGo]
  | cons c r ih =>
    intro cur
    rw [linesGo]
    split
    · rw [List.map_cons, List.sum_cons, ih]; simp; omega
    · rw [ih]; simp; omega

theorem writeGo_do : ∀ (L : List (List Bs)) (out : Bs), (∀ l ∈ L, (joinW l).length ≤ 65536) → out.length + (L.map (fun l => (joinW l).length + 1)).sum ≤ 16777216 → writeGo L out = (out ++ textOf L, 0) := by
  intro L
  induction L with
  | nil => intro out _ _; simp [writeGo, textOf]
  | cons l L ih =>
    intro out h1 h2
    have h3 := h1 l (by simp)
    simp at h2
    rw [writeGo, if_neg (by omega), ih _ (fun x hx => h1 x (by simp [hx])) (by simp; omega)]
    simp [textOf]

/-- What is read, written, and read again, has the same words. -/
theorem read_write {s : Bs} {R : List (Nat × List Bs)} {n : Nat} (hs : s.length < 100000) (h : readT s = (R, n, 0)) :
    ∃ t, writeT (R.map (·.2)) = (t, 0) ∧ readT t = (numb 1 (R.map (·.2)), 0, 0) := by
  unfold readT at h
  rw [if_neg (by omega)] at h
  obtain ⟨R', e1, e2, e3, e4⟩ := readGo_ok _ _ _ _ _ h
  rw [lines_sum] at e4
  rw [List.nil_append] at e1
  subst e1
  have hw : writeT (R.map (·.2)) = (textOf (R.map (·.2)), 0) := by
    unfold writeT
    rw [if_pos]
    · rw [writeGo_do _ [] (fun l hl => ?_) (by simp [Function.comp_def] at e4 ⊢; omega)]
      · simp
      · obtain ⟨x, hx, rfl⟩ := List.mem_map.1 hl
        exact (e3 x hx).2
    · rw [List.all_eq_true]
      intro l hl
      obtain ⟨x, hx, rfl⟩ := List.mem_map.1 hl
      exact (e3 x hx).1
  exact ⟨_, hw, write_read hw⟩

theorem join_count : ∀ (l : List Bs) (b : Bool), l.all goodB = true → l.length ≤ (joinGo l b).length := by
  intro l
  induction l with
  | nil => intro b _; simp
  | cons w l ih =>
    intro b h
    simp only [List.all_cons, Bool.and_eq_true] at h
    have h1 := ih false h.2
    have h2 : 0 < w.length := List.length_pos_iff.2 (good_parts h.1).2.1
    cases b <;> simp [joinGo] <;> omega

theorem sum_mem {l : List Nat} {x : Nat} (h : x ∈ l) : x ≤ l.sum := by
  induction l with
  | nil => cases h
  | cons a l ih =>
    rcases List.mem_cons.1 h with rfl | h
    · simp
    · have := ih h; simp; omega
theorem sum_len {α : Type} (l : List α) (f : α → Nat) : l.length ≤ (l.map (fun x => f x + 1)).sum := by
  induction l with
  | nil => simp
  | cons a l ih => simp at ih ⊢; omega

/-- How much is read. -/
theorem read_bnd {s : Bs} {R : List (Nat × List Bs)} {n : Nat} (h : readT s = (R, n, 0)) : R.length ≤ s.length + 1 ∧ ∀ x ∈ R, x.2.length ≤ s.length ∧ ∀ w ∈ x.2, w.length ≤ 400 := by
  unfold readT at h
  split at h
  · simp at h
  · obtain ⟨R', e1, e2, e3, e4⟩ := readGo_ok _ _ _ _ _ h
    rw [lines_sum] at e4
    rw [List.nil_append] at e1
    subst e1
    refine ⟨?_, fun x hx => ?_⟩
    · have := sum_len R (fun x => (joinW x.2).length); simp at e4; omega
    · have h1 : (joinW x.2).length + 1 ≤ (R.map (fun x => (joinW x.2).length + 1)).sum := sum_mem (List.mem_map.2 ⟨x, hx, rfl⟩)
      have hg : x.2.all goodB = true := by have := (e3 x hx).1; unfold lineOk at this; simp only [Bool.and_eq_true] at this; exact this.2
      have h2 := join_count x.2 true hg
      unfold joinW at h1
      simp only [List.length_nil] at e4
      exact ⟨by unfold joinW at e4; omega, fun w hw => (good_parts (List.all_eq_true.1 hg w hw)).2.2⟩

theorem read_none {s : Bs} {R : List (Nat × List Bs)} {n e : Nat} (h : readT s = (R, n, e)) (he : e ≠ 0) : R = [] := by
  have key : ∀ (ls : List Bs) (no : Nat) (out R : List (Nat × List Bs)) (n e : Nat), readGo ls no out = (R, n, e) → e ≠ 0 → R = [] := by
    intro ls
    induction ls with
    | nil => intro no out R n e h he; simp only [readGo, Prod.mk.injEq] at h; exact absurd h.2.2.symm he
    | cons l ls ih =>
      intro no out R n e h he
      rw [readGo] at h
      split at h
      · simp only [Prod.mk.injEq] at h; exact h.1.symm
      · cases hw : lineWords l with
        | none => rw [hw] at h; simp only [Prod.mk.injEq] at h; exact h.1.symm
        | some ws => rw [hw] at h; exact ih _ _ _ _ _ h he
  unfold readT at h
  split at h
  · simp only [Prod.mk.injEq] at h; exact h.1.symm
  · exact key _ _ _ _ _ _ h he

end TV
