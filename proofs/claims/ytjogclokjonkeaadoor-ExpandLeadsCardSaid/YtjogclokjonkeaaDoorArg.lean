/- Arguments that are slices, opened: what a slice that came in holds, element by element, and how much it takes. -/
import Derived.Test.YtjogclokjonkeaaDoorMemA
import Derived.Deep.Slices
import Derived.Deep.Strs
import Derived.SizedLaws
import Derived.HandedShaped
import Derived.Carry
import Derived.OpenShut
import Derived.ShutString
namespace Go.Proofs.YtjogclokjonkeaaDoor
open Go.RowKit Go.Deep Go.WideShapes Go.ChangeShapes
set_option linter.unusedVariables false

/-- A slice of one-cell elements that holds just these values (of no elements: whatever its address). -/
def Sa (w : World) (v : Value) (xs : List Value) : Prop :=
  ∃ p cap, v = .slice p xs.length cap ∧ xs.length ≤ cap ∧ ∀ i (h : i < xs.length), ∃ b o, p = some ⟨b, o, none⟩ ∧ b < w.heap.size ∧ w.cell? ⟨b, o + i, none⟩ = some xs[i]

theorem Sa.keep {w w1 : World} {v : Value} {xs : List Value} (h : Sa w v xs) (hb : Below w.heap.size w w1) : Sa w1 v xs := by
  obtain ⟨p, cap, h1, h2, h3⟩ := h
  refine ⟨p, cap, h1, h2, fun i hi => ?_⟩
  obtain ⟨b, o, e1, e2, e3⟩ := h3 i hi
  exact ⟨b, o, e1, Nat.lt_of_lt_of_le e2 hb.size, by rw [hb.cell (p := ⟨b, o + i, none⟩) e2]; exact e3⟩
theorem Sl.toSa {w : World} {v : Value} {xs : List Value} (h : Sl w v xs) : Sa w v xs := by
  rcases h with ⟨rfl, rfl⟩ | ⟨b, o, cap, rfl, h2, h3, h4⟩
  · exact ⟨none, 0, rfl, Nat.le_refl _, fun i hi => absurd hi (Nat.not_lt_zero _)⟩
  · exact ⟨_, cap, rfl, h2, fun i hi => ⟨b, o, rfl, h3, h4 i hi⟩⟩
theorem Sa.form {w : World} {v : Value} {xs : List Value} (h : Sa w v xs) : ∃ p cap, v = .slice p xs.length cap := by
  obtain ⟨p, cap, h1, -⟩ := h; exact ⟨p, cap, h1⟩
theorem Sa.formMap {α : Type} {g : α → Value} {w : World} {v : Value} {xs : List α} (h : Sa w v (xs.map g)) : ∃ p cap, v = .slice p xs.length cap := by
  obtain ⟨p, cap, h⟩ := h.form; rw [List.length_map] at h; exact ⟨p, cap, h⟩
theorem Sa.at {α : Type} {g : α → Value} {w : World} {p : Option Addr} {n cap : Nat} {xs : List α} (h : Sa w (.slice p n cap) (xs.map g)) {i : Nat} (hi : i < xs.length) :
    ∃ b o, p = some ⟨b, o, none⟩ ∧ b < w.heap.size ∧ w.cell? ⟨b, o + i, none⟩ = some (g xs[i]) := by
  obtain ⟨p', cap', h1, h2, h3⟩ := h
  simp only [Value.slice.injEq] at h1
  obtain ⟨rfl, -, -⟩ := h1
  obtain ⟨b, o, e1, e2, e3⟩ := h3 i (by simpa using hi)
  rw [List.getElem_map] at e3
  exact ⟨b, o, e1, e2, e3⟩

section
variable {H : Type} {enc : TypeId × Value → H} {P : Program} {W : World} {held : Bool}

theorem weightsAll_mem {P : Program} {e : TypeId} {l : List (DataW H)} {d : DataW H} (hd : d ∈ l) : ∀ n ∈ d.weights P e, n ∈ DataW.weightsAll P e l := by
  induction l with
  | nil => cases hd
  | cons a l ih =>
    intro n hn
    simp only [DataW.weightsAll, List.mem_append]
    rcases List.mem_cons.1 hd with rfl | h
    · exact Or.inl hn
    · exact Or.inr (ih h n hn)

/-- What a slice that came in holds. -/
theorem open_sa {α : Type} [Inhabited α] {g : α → Value} {Q : α → Prop} {t e : TypeId} (ht : P.underlying t = some (.slice e)) (hc : P.cellsOf e = 1) {v : Value} {d : DataW H} {ps : List MemPlace}
    (h : ∃ n, DataW.trod enc P W 0 (fun _ => true) held n t [v] = some (d, ps)) (hw : ∀ n ∈ d.weights P t, n ≤ reachBytes)
    (he : ∀ V D Pl n, DataW.trod enc P W 0 (fun _ => true) held n e [V] = some (D, Pl) → (∀ n ∈ D.weights P e, n ≤ reachBytes) → ∃ x, V = g x ∧ Q x) :
    ∃ xs : List α, Sa W v (xs.map g) ∧ xs.length * P.bytesOf e ≤ reachBytes ∧ ∀ x ∈ xs, Q x := by
  obtain ⟨n0, h⟩ := h
  rcases open_slice1 ht hc h with ⟨h0, -⟩ | ⟨a, len, cap, m, n, V, D, Pl, h1, hb, hl, hm, hmm, h2, hx⟩
  · simp only [List.cons.injEq, and_true] at h0
    subst h0
    exact ⟨[], ⟨none, 0, rfl, Nat.le_refl _, fun i hi => absurd hi (Nat.not_lt_zero _)⟩, by simp, fun x hx => by cases hx⟩
  · simp only [List.cons.injEq, and_true] at h1
    subst h1
    simp only [if_true] at hmm
    subst hmm
    simp only [Prod.mk.injEq] at h2
    obtain ⟨rfl, -⟩ := h2
    have hwe : ∀ i, i < len → ∀ n ∈ (D i).weights P e, n ≤ reachBytes := fun i hi n hn => by
      refine hw n ?_
      simp only [DataW.weights, ht, List.mem_cons, List.mem_append]
      exact Or.inr (Or.inl (weightsAll_mem (d := D i) (List.mem_map.2 ⟨i, List.mem_range.2 hi, rfl⟩) n hn))
    have hww : len * P.bytesOf e ≤ reachBytes := by
      have := hw ((len + (m - len)) * P.bytesOf e) (by simp [DataW.weights, ht])
      exact Nat.le_trans (Nat.mul_le_mul_right _ (by omega)) this
    obtain ⟨X, hX⟩ := choose_lt (p := fun i x => V i = g x ∧ Q x) (fun i (hi : i < len) => he _ _ _ _ (hx i (by omega)).2 (hwe i hi))
    refine ⟨(List.range len).map X, ⟨some a, m, by simp, by simpa using hl, fun i hi => ?_⟩, by simpa using hww, fun x hx => ?_⟩
    · simp only [List.length_map, List.length_range] at hi
      obtain ⟨b, off, spot⟩ := a
      have h0 := (hx 0 (by omega)).1
      have hspot : spot = none := by simpa [Addr.add] using World.cell?_spot h0
      subst hspot
      have hci := (hx i (by omega)).1
      rw [add_plain] at hci
      refine ⟨b, off, rfl, World.block_lt_of_cell? W _ hci, ?_⟩
      rw [hci, (hX i hi).1]; simp
    · obtain ⟨i, hi, rfl⟩ := List.mem_map.1 hx
      exact (hX i (List.mem_range.1 hi)).2

/-- .. of strings. -/
theorem open_sa_strings {t e : TypeId} (ht : P.underlying t = some (.slice e)) (hs : P.underlying e = some .string) (hc : P.cellsOf e = 1) {v : Value} {d : DataW H} {ps : List MemPlace}
    (h : ∃ n, DataW.trod enc P W 0 (fun _ => true) held n t [v] = some (d, ps)) (hw : ∀ n ∈ d.weights P t, n ≤ reachBytes) :
    ∃ ss : List ByteArray, Sa W v (ss.map Value.string) ∧ ss.length * P.bytesOf e ≤ reachBytes ∧ ∀ s ∈ ss, s.size ≤ reachBytes := by
  refine open_sa ht hc h hw fun V D Pl n hV hwV => ?_
  obtain ⟨s, h1, h2, h3⟩ := DataW.trod_string hs hV
  simp only [Prod.mk.injEq] at h2
  simp only [List.cons.injEq, and_true] at h1
  refine ⟨s, h1, ?_⟩
  have := hwV s.data.toList.length (by rw [h2.1]; simp [DataW.weights])
  simpa using this
end
end Go.Proofs.YtjogclokjonkeaaDoor
