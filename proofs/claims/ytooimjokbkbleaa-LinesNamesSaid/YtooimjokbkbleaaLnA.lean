/- Lines and words of texts, in plain Lean: how words are parted, which words may be, what a text's lines tell, and how lines are written. -/
namespace TV

abbrev Bs := List UInt8

def blankB (c : UInt8) : Bool := c == 32 || c == 9 || c == 13
def plainB (c : UInt8) : Bool := decide (32 < c.toNat) && decide (c.toNat ≤ 126) && !(c == 35)
def goodB (w : Bs) : Bool := w.all plainB && !w.isEmpty && decide (w.length ≤ 400)

/-- A word, if it is one. -/
def one (w : Bs) : List Bs := if w = [] then [] else [w]

/-- The words of a line; cur is the one that is under way. -/
def splitGo : Bs → Bs → List Bs
  | [], cur => one cur
  | c :: r, cur => if blankB c then one cur ++ splitGo r [] else splitGo r (cur ++ [c])

/-- What stands ahead of the remark. -/
def ahead (s : Bs) : Bs := s.takeWhile (fun c => !(c == 35))

/-- A line's words, or none. -/
def lineWords (s : Bs) : Option (List Bs) := if (splitGo (ahead s) []).all goodB then some (splitGo (ahead s) []) else none

/-- The reference's way: byte by byte. -/
def refGo : Bs → Bs → List Bs → Option (List Bs)
  | [], w, out => if 400 < w.length then none else some (out ++ one w)
  | c :: r, w, out =>
    if c = 35 then (if 400 < w.length then none else some (out ++ one w))
    else if blankB c then (if 400 < w.length then none else refGo r [] (out ++ one w))
    else if c.toNat < 33 ∨ 126 < c.toNat then none
    else refGo r (w ++ [c]) out

theorem one_good {w : Bs} (h : w.all plainB = true) : (one w).all goodB = decide (w.length ≤ 400) := by
  unfold one
  split
  · subst_vars; rfl
  · rename_i h0
    have : w.isEmpty = false := by cases w <;> simp_all
    simp [goodB, h, this]

theorem split_bad (s : Bs) : ∀ (w : Bs), w.all plainB = false → (splitGo s w).all goodB = false := by
  induction s with
  | nil =>
    intro w h
    have h0 : w ≠ [] := by rintro rfl; simp at h
    simp [splitGo, one, h0, goodB, h]
  | cons c r ih =>
    intro w h
    have h0 : w ≠ [] := by rintro rfl; simp at h
    rw [splitGo]
    split
    · rw [List.all_append]; simp [one, h0, goodB, h]
    · exact ih _ (by rw [List.all_append, h]; rfl)

theorem ahead_cons (c : UInt8) (r : Bs) (h : c ≠ 35) : ahead (c :: r) = c :: ahead r := by simp [ahead, h]
theorem ahead_hash (r : Bs) : ahead (35 :: r) = [] := rfl

theorem ref_eq (s : Bs) : ∀ (w : Bs) (out : List Bs), w.all plainB = true →
    refGo s w out = if (splitGo (ahead s) w).all goodB then some (out ++ splitGo (ahead s) w) else none := by
  induction s with
  | nil =>
    intro w out h
    rw [refGo]
    show _ = if (one w).all goodB then some (out ++ one w) else none
    rw [one_good h]
    by_cases hl : 400 < w.length
    · rw [if_pos hl, if_neg (by simp; omega)]
    · rw [if_neg hl, if_pos (by simp; omega)]
  | cons c r ih =>
    intro w out h
    rw [refGo]
    by_cases hc : c = 35
    · rw [if_pos hc]; subst hc
      rw [ahead_hash]
      show _ = if (one w).all goodB then some (out ++ one w) else none
      rw [one_good h]
      by_cases hl : 400 < w.length
      · rw [if_pos hl, if_neg (by simp; omega)]
      · rw [if_neg hl, if_pos (by simp; omega)]
    · rw [if_neg hc, ahead_cons c r hc, splitGo]
      by_cases hb : blankB c = true
      · rw [if_pos hb, if_pos hb, List.all_append, one_good h]
        by_cases hl : 400 < w.length
        · rw [if_pos hl, if_neg (by simp; omega)]
        · rw [if_neg hl, ih [] _ rfl]
          have : decide (w.length ≤ 400) = true := by simp; omega
          rw [this, Bool.true_and, List.append_assoc]
      · rw [if_neg hb, if_neg hb]
        by_cases hx : c.toNat < 33 ∨ 126 < c.toNat
        · rw [if_pos hx, if_neg]
          have := split_bad (ahead r) (w ++ [c]) (by rw [List.all_append]; simp [plainB]; intros; omega)
          rw [this]; simp
        · rw [if_neg hx]
          exact ih (w ++ [c]) out (by
            rw [List.all_append, h]
            have h1 : decide (32 < c.toNat) = true := by simp; omega
            have h2 : decide (c.toNat ≤ 126) = true := by simp; omega
            simp [plainB, hc]; omega)

theorem ref_line (s : Bs) : refGo s [] [] = lineWords s := by
  rw [ref_eq s [] [] rfl]; rfl

theorem plain_not_blank {c : UInt8} (h : plainB c = true) : blankB c = false ∧ c ≠ 35 := by
  unfold plainB at h
  simp only [Bool.and_eq_true, decide_eq_true_eq, Bool.not_eq_true', beq_eq_false_iff_ne] at h
  obtain ⟨⟨h1, h2⟩, h3⟩ := h
  refine ⟨?_, h3⟩
  unfold blankB
  have : ∀ n : UInt8, n.toNat ≤ 32 → (c == n) = false := fun n hn => by
    rw [beq_eq_false_iff_ne]; rintro rfl; omega
  rw [this 32 (by decide), this 9 (by decide), this 13 (by decide)]; rfl

theorem ahead_plain {w : Bs} (h : w.all plainB = true) : ahead w = w := by
  induction w with
  | nil => rfl
  | cons c r ih =>
    simp only [List.all_cons, Bool.and_eq_true] at h
    rw [ahead_cons _ _ (plain_not_blank h.1).2, ih h.2]

theorem split_plain (s : Bs) : ∀ w : Bs, s.all plainB = true → splitGo s w = one (w ++ s) := by
  induction s with
  | nil => intro w _; simp [splitGo]
  | cons c r ih =>
    intro w h
    simp only [List.all_cons, Bool.and_eq_true] at h
    rw [splitGo, if_neg (by rw [(plain_not_blank h.1).1]; simp), ih _ h.2]
    simp

/-- A word may be just where the reference parts it into itself alone. -/
theorem word_good (w : Bs) : lineWords w = some [w] ↔ goodB w = true := by
  constructor
  · intro h
    unfold lineWords at h
    split at h
    · rename_i ha
      simp only [Option.some.injEq] at h
      rw [h] at ha
      simpa using ha
    · cases h
  · intro h
    have h' := h
    unfold goodB at h'
    simp only [Bool.and_eq_true, Bool.not_eq_true'] at h'
    have hne : w ≠ [] := by rintro rfl; simp at h'
    unfold lineWords
    rw [ahead_plain h'.1.1, split_plain w [] h'.1.1]
    simp [one, hne, h]

/-! ### Lines -/

/-- A text's lines; cur is the one that is under way. -/
def linesGo : Bs → Bs → List Bs
  | [], cur => [cur]
  | c :: r, cur => if c = 10 then cur :: linesGo r [] else linesGo r (cur ++ [c])

/-- What the lines tell: those that have words, each with its number; the line of an error, and the error. -/
def readGo : List Bs → Nat → List (Nat × List Bs) → List (Nat × List Bs) × Nat × Nat
  | [], _, out => (out, 0, 0)
  | l :: r, no, out =>
    if 65536 < l.length then ([], no, 3)
    else match lineWords l with
      | none => ([], no, 4)
      | some ws => readGo r (no + 1) (if ws = [] then out else out ++ [(no, ws)])

def readT (text : Bs) : List (Nat × List Bs) × Nat × Nat :=
  if 16777216 < text.length then ([], 0, 3) else readGo (linesGo text []) 1 []

/-! ### Writing -/

/-- Words with a blank between two. -/
def joinGo : List Bs → Bool → Bs
  | [], _ => []
  | w :: r, first => (if first then [] else [32]) ++ w ++ joinGo r false
def joinW (l : List Bs) : Bs := joinGo l true

def writeGo : List (List Bs) → Bs → Bs × Nat
  | [], out => (out, 0)
  | l :: r, out =>
    if 65536 < (joinW l).length ∨ 16777216 < out.length + (joinW l).length + 1 then ([], 3)
    else writeGo r (out ++ joinW l ++ [10])

def lineOk (l : List Bs) : Bool := !l.isEmpty && l.all goodB
def writeT (L : List (List Bs)) : Bs × Nat := if L.all lineOk then writeGo L [] else ([], 1)

end TV
