/- Blanks, remarks, and lines without words: in plain Lean. -/
import Derived.Test.YtooimjokbkbleaaLnP
namespace TV

/-- Behind each blank 20 so much more. -/
def expand (bl : Bs) (l : Bs) : Bs := l.flatMap (fun c => if c = 32 then 32 :: bl else [c])

def allBlank (b : Bs) : Prop := b.all blankB = true

theorem split_blanks (b : Bs) (h : allBlank b) (r : Bs) : splitGo (b ++ r) [] = splitGo r [] := by
  induction b with
  | nil => rfl
  | cons c b ih =>
    unfold allBlank at h
    simp only [List.all_cons, Bool.and_eq_true] at h
    rw [List.cons_append, splitGo, if_pos h.1, ih h.2]; simp [one]

theorem split_expand (bl : Bs) (h : allBlank bl) (l r : Bs) : ∀ cur : Bs, splitGo (expand bl l ++ r) cur = splitGo (l ++ r) cur := by
  induction l with
  | nil => intro cur; rfl
  | cons c l ih =>
    intro cur
    by_cases hc : c = 32
    · subst hc
      have e : expand bl (32 :: l) = 32 :: (bl ++ expand bl l) := by simp [expand]
      rw [e, List.cons_append, splitGo, if_pos (show blankB 32 = true from rfl), List.append_assoc, split_blanks bl h, ih, List.cons_append, splitGo, if_pos (show blankB 32 = true from rfl)]
    · have e : expand bl (c :: l) = c :: expand bl l := by simp [expand, hc]
      rw [e, List.cons_append, List.cons_append, splitGo, splitGo, ih, ih]

theorem split_last (l : Bs) : ∀ cur : Bs, splitGo (l ++ [32]) cur = splitGo l cur := by
  induction l with
  | nil => intro cur; simp [splitGo, one, show blankB 32 = true from rfl]
  | cons c l ih => intro cur; rw [List.cons_append, splitGo, splitGo, ih, ih]

theorem blank_ahead {b : Bs} (h : allBlank b) : b.all (fun c => !(c == 35)) = true := by
  unfold allBlank at h
  rw [List.all_eq_true] at h ⊢
  intro c hc
  have := h c hc
  by_cases e : c = 35
  · subst e; cases this
  · simp [e]
theorem blank_nl {b : Bs} (h : allBlank b) : noNl b := by
  unfold allBlank at h
  rw [List.all_eq_true] at h
  intro c hc e
  have := h c hc
  subst e; cases this

theorem ahead_expand (bl : Bs) (h : allBlank bl) (l r : Bs) : ∃ t : Bs, (t = [] ∨ t = [32]) ∧ ahead (expand bl l ++ [32, 35] ++ r) = expand bl (ahead l) ++ t := by
  induction l with
  | nil => exact ⟨[32], Or.inr rfl, by simp [expand, ahead]⟩
  | cons c l ih =>
    obtain ⟨t, ht, e⟩ := ih
    by_cases h35 : c = 35
    · subst h35
      exact ⟨[], Or.inl rfl, by simp [expand, ahead]⟩
    · by_cases h32 : c = 32
      · subst h32
        refine ⟨t, ht, ?_⟩
        have e1 : expand bl (32 :: l) = (32 :: bl) ++ expand bl l := by simp [expand]
        rw [e1, List.append_assoc, List.append_assoc, ahead_app _ _ (by rw [List.all_cons, blank_ahead h]; rfl), ← List.append_assoc (expand bl l), e, ahead_cons _ _ h35]
        simp [expand]
      · refine ⟨t, ht, ?_⟩
        have e1 : expand bl (c :: l) = c :: expand bl l := by simp [expand, h32]
        rw [e1, List.cons_append, List.cons_append, ahead_cons _ _ h35, e, ahead_cons _ _ h35]
        simp [expand, h32]

/-- A line with more blanks and a remark has the same words. -/
theorem line_blanks (bl : Bs) (h : allBlank bl) (l r : Bs) : lineWords (bl ++ expand bl l ++ [32, 35] ++ r) = lineWords l := by
  have e : splitGo (ahead (bl ++ expand bl l ++ [32, 35] ++ r)) [] = splitGo (ahead l) [] := by
    obtain ⟨t, ht, e⟩ := ahead_expand bl h l r
    rw [List.append_assoc, List.append_assoc, ahead_app _ _ (blank_ahead h), ← List.append_assoc (expand bl l), e, split_blanks bl h, split_expand bl h]
    rcases ht with rfl | rfl
    · simp
    · rw [split_last]
  unfold lineWords
  rw [e]

theorem line_blank {bl : Bs} (h : allBlank bl) : lineWords bl = some [] := by
  have := split_blanks bl h []
  rw [List.append_nil] at this
  unfold lineWords
  rw [ahead_self (blank_ahead h), this]
  rfl

/-- The text with more blanks. -/
def moreOf (bl clean : Bs) (ls : List Bs) : Bs := ls.flatMap (fun l => bl ++ expand bl l ++ [32, 35] ++ clean ++ [10] ++ bl ++ [10])

def dbl (x : Nat × List Bs) : Nat × List Bs := (2 * x.1 - 1, x.2)

theorem expand_len (bl l : Bs) : (expand bl l).length ≤ l.length * (bl.length + 1) := by
  induction l with
  | nil => simp [expand]
  | cons c l ih =>
    have e : expand bl (c :: l) = (if c = 32 then 32 :: bl else [c]) ++ expand bl l := by simp [expand]
    rw [e, List.length_append, List.length_cons, Nat.add_mul]
    split <;> simp <;> omega
theorem expand_nl {bl l : Bs} (h : allBlank bl) (hl : noNl l) : noNl (expand bl l) := by
  intro c hc
  unfold expand at hc
  rw [List.mem_flatMap] at hc
  obtain ⟨d, hd, hc⟩ := hc
  split at hc
  · rcases List.mem_cons.1 hc with rfl | hc
    · decide
    · exact blank_nl h c hc
  · rw [List.mem_singleton] at hc; subst hc; exact hl c hd

theorem more_read (bl clean : Bs) (hb : allBlank bl) (hbl : bl.length ≤ 8) (hc : noNl clean) (hcl : clean.length ≤ 1000) : ∀ (ls : List Bs) (no : Nat) (out : List (Nat × List Bs)), 1 ≤ no → (∀ l ∈ ls, noNl l ∧ l.length ≤ 1000) →
    ∀ R n e, readGo ls no out = (R, n, e) → ∃ n', readGo (linesGo (moreOf bl clean ls) []) (2 * no - 1) (out.map dbl) = (if e = 0 then R.map dbl else [], n', e) := by
  intro ls
  induction ls with
  | nil =>
    intro no out _ _ R n e h
    simp only [readGo, Prod.mk.injEq] at h
    obtain ⟨rfl, rfl, rfl⟩ := h
    exact ⟨0, by simp [moreOf, linesGo, readGo, line_blank (bl := []) rfl]⟩
  | cons l ls ih =>
    intro no out hno hl R n e h
    obtain ⟨hl1, hl2⟩ := hl l (by simp)
    have e1 : moreOf bl clean (l :: ls) = (bl ++ expand bl l ++ [32, 35] ++ clean) ++ 10 :: (bl ++ 10 :: moreOf bl clean ls) := by simp [moreOf]
    have hn1 : noNl (bl ++ expand bl l ++ [32, 35] ++ clean) := by
      intro c hcc
      simp only [List.mem_append] at hcc
      rcases hcc with ((hcc | hcc) | hcc) | hcc
      · exact blank_nl hb c hcc
      · exact expand_nl hb hl1 c hcc
      · simp at hcc; rcases hcc with rfl | rfl <;> decide
      · exact hc c hcc
    have hlen : (bl ++ expand bl l ++ [32, 35] ++ clean).length ≤ 65536 := by
      have h1 := expand_len bl l
      have h2 : l.length * (bl.length + 1) ≤ 1000 * 9 := Nat.mul_le_mul hl2 (by omega)
      simp; omega
    rw [e1, linesGo_app _ _ _ hn1, linesGo_app _ _ _ (blank_nl hb), List.nil_append, List.nil_append]
    rw [readGo, if_neg (by omega)] at h
    rw [readGo, if_neg (by omega), line_blanks bl hb]
    cases hw : lineWords l with
    | none =>
      rw [hw] at h
      simp only [Prod.mk.injEq] at h
      obtain ⟨rfl, rfl, rfl⟩ := h
      exact ⟨_, rfl⟩
    | some ws =>
      rw [hw] at h
      simp only at h ⊢
      rw [readGo, if_neg (by omega), line_blank hb]
      simp only [if_true]
      obtain ⟨n', h2⟩ := ih (no + 1) _ (by omega) (fun x hx => hl x (by simp [hx])) R n e h
      refine ⟨n', ?_⟩
      rw [← h2]
      have e2 : 2 * no - 1 + 1 + 1 = 2 * (no + 1) - 1 := by omega
      rw [e2]
      congr 1
      split
      · rfl
      · simp [dbl]

theorem readGo_nums : ∀ (ls : List Bs) (no : Nat) (out R : List (Nat × List Bs)) (n e : Nat), readGo ls no out = (R, n, e) → ∀ x ∈ R, x ∈ out ∨ (no ≤ x.1 ∧ x.1 < no + ls.length) := by
  intro ls
  induction ls with
  | nil => intro no out R n e h x hx; simp only [readGo, Prod.mk.injEq] at h; rw [← h.1] at hx; exact Or.inl hx
  | cons l ls ih =>
    intro no out R n e h x hx
    rw [readGo] at h
    split at h
    · simp only [Prod.mk.injEq] at h; rw [← h.1] at hx; cases hx
    · cases hw : lineWords l with
      | none => rw [hw] at h; simp only [Prod.mk.injEq] at h; rw [← h.1] at hx; cases hx
      | some ws =>
        rw [hw] at h
        simp only [List.length_cons]
        rcases ih _ _ _ _ _ h x hx with h1 | h1
        · split at h1
          · exact Or.inl h1
          · rcases List.mem_append.1 h1 with h1 | h1
            · exact Or.inl h1
            · rw [List.mem_singleton] at h1; subst h1; right; simp
        · right; omega

theorem linesGo_parts (s : Bs) : ∀ cur : Bs, noNl cur → ∀ l ∈ linesGo s cur, noNl l ∧ l.length ≤ cur.length + s.length := by
  induction s with
  | nil => intro cur hcur l hl; simp only [linesGo, List.mem_singleton] at hl; subst hl; exact ⟨hcur, by simp⟩
  | cons c r ih =>
    intro cur hcur l hl
    rw [linesGo] at hl
    split at hl
    · rcases List.mem_cons.1 hl with rfl | hl
      · exact ⟨hcur, by simp⟩
      · have := ih [] (fun _ h => by cases h) l hl
        exact ⟨this.1, by have := this.2; simp at this ⊢; omega⟩
    · rename_i hc
      have := ih (cur ++ [c]) (fun x hx => by
        rcases List.mem_append.1 hx with hx | hx
        · exact hcur x hx
        · rw [List.mem_singleton] at hx; subst hx; exact hc) l hl
      exact ⟨this.1, by have := this.2; simp at this ⊢; omega⟩
theorem linesGo_count (s : Bs) : ∀ cur : Bs, (linesGo s cur).length ≤ s.length + 1 := by
  induction s with
  | nil => intro cur; simp [linesGo]
  | cons c r ih =>
    intro cur
    rw [linesGo]
    split
    · have := ih []; simp; omega
    · have := ih (cur ++ [c]); simp; omega
theorem more_len {bl clean : Bs} (hbl : bl.length ≤ 8) (hcl : clean.length ≤ 1000) : ∀ (ls : List Bs), (∀ l ∈ ls, l.length ≤ 1000) → (moreOf bl clean ls).length ≤ ls.length * 10020 := by
  intro ls
  induction ls with
  | nil => intro _; simp [moreOf]
  | cons l ls ih =>
    intro h
    have h1 := ih (fun x hx => h x (by simp [hx]))
    have h2 := expand_len bl l
    have h3 : l.length * (bl.length + 1) ≤ 1000 * 9 := Nat.mul_le_mul (h l (by simp)) (by omega)
    have e : moreOf bl clean (l :: ls) = (bl ++ expand bl l ++ [32, 35] ++ clean ++ [10] ++ bl ++ [10]) ++ moreOf bl clean ls := by simp [moreOf]
    rw [e, List.length_append, List.length_cons, Nat.add_mul]
    simp; omega

theorem read_nums {s : Bs} {R : List (Nat × List Bs)} {n e : Nat} (h : readT s = (R, n, e)) : ∀ x ∈ R, 1 ≤ x.1 ∧ x.1 ≤ s.length + 1 := by
  intro x hx
  unfold readT at h
  split at h
  · simp only [Prod.mk.injEq] at h; rw [← h.1] at hx; cases hx
  · rcases readGo_nums _ _ _ _ _ _ h x hx with h1 | h1
    · cases h1
    · have := linesGo_count s []; omega

/-- More blanks, remarks, and lines without words change no words. -/
theorem blanks_read {s bl clean : Bs} (hs : s.length ≤ 1000) (hb : allBlank bl) (hbl : bl.length ≤ 8) (hc : noNl clean) (hcl : clean.length ≤ 1000) {R : List (Nat × List Bs)} {n e : Nat} (h : readT s = (R, n, e)) :
    ∃ n', readT (moreOf bl clean (linesGo s [])) = (R.map dbl, n', e) := by
  have h0 := h
  unfold readT at h
  rw [if_neg (by omega)] at h
  have hp := linesGo_parts s [] (fun _ h => by cases h)
  obtain ⟨n', h2⟩ := more_read bl clean hb hbl hc hcl _ 1 [] (Nat.le_refl _) (fun l hl => ⟨(hp l hl).1, by have := (hp l hl).2; simp at this; omega⟩) R n e h
  have hl := more_len (bl := bl) (clean := clean) hbl hcl (linesGo s []) (fun l hl => by have := (hp l hl).2; simp at this; omega)
  have hcnt := linesGo_count s []
  unfold readT
  rw [if_neg (by
    have : (linesGo s []).length * 10020 ≤ 1001 * 10020 := Nat.mul_le_mul (by omega) (Nat.le_refl _)
    omega)]
  refine ⟨n', ?_⟩
  have e1 : 2 * 1 - 1 = 1 := rfl
  rw [e1, List.map_nil] at h2
  rw [h2]
  by_cases he : e = 0
  · rw [if_pos he]
  · rw [if_neg he, read_none h0 he]; rfl

end TV
