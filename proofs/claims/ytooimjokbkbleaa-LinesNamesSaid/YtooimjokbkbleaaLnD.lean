/- Slices of slices of strings in memory. -/
import Derived.Test.YtooimjokbkbleaaLnC
import Derived.Test.YtooimjokbkbleaaArg
namespace Go.Proofs.Ytooimjokbkbleaa
open Go.RowKit TV
set_option linter.unusedVariables false

/-- A slice of slices of strings. -/
def Sss (w : World) (v : Value) (L : List (List ByteArray)) : Prop :=
  ∃ vs : List Value, Sa w v vs ∧ vs.length = L.length ∧ ∀ i (h : i < L.length), Sa w (vs.getD i (.slice none 0 0)) (L[i].map Value.string)

theorem Sss.keep {w w1 : World} {v : Value} {L : List (List ByteArray)} (h : Sss w v L) (hb : Below w.heap.size w w1) : Sss w1 v L := by
  obtain ⟨vs, h1, h2, h3⟩ := h
  exact ⟨vs, h1.keep hb, h2, fun i hi => (h3 i hi).keep hb⟩

theorem Sss.form {w : World} {v : Value} {L : List (List ByteArray)} (h : Sss w v L) : ∃ p cap, v = .slice p L.length cap := by
  obtain ⟨vs, h1, h2, h3⟩ := h
  obtain ⟨p, cap, h⟩ := h1.form; rw [h2] at h; exact ⟨p, cap, h⟩

theorem Sss.row {w : World} {p : Option Addr} {n cap : Nat} {L : List (List ByteArray)} (h : Sss w (.slice p n cap) L) {i : Nat} (hi : i < L.length) :
    ∃ b o q c, p = some ⟨b, o, none⟩ ∧ b < w.heap.size ∧ w.cell? ⟨b, o + i, none⟩ = some (.slice q L[i].length c) ∧ Sa w (.slice q L[i].length c) (L[i].map Value.string) := by
  obtain ⟨vs, ⟨p', cap', h1, h2, h4⟩, h5, h3⟩ := h
  have h3 := h3 i hi
  simp only [Value.slice.injEq] at h1
  obtain ⟨rfl, -, -⟩ := h1
  have hi' : i < vs.length := by omega
  obtain ⟨b, o, e1, e2, e3⟩ := h4 i hi'
  have e : vs.getD i (.slice none 0 0) = vs[i] := by rw [List.getD_eq_getElem?_getD, List.getElem?_eq_getElem hi']; rfl
  rw [e] at h3
  obtain ⟨q, c, hq⟩ := h3.formMap
  rw [hq] at h3 e3
  exact ⟨b, o, q, c, e1, e2, e3, h3⟩

/-- A slice of slices of strings that came in. -/
theorem open_sss {H : Type} {enc : TypeId × Value → H} {P : Program} {W : World} {held : Bool} {t e f : TypeId} (ht : P.underlying t = some (.slice e)) (he : P.underlying e = some (.slice f)) (hf : P.underlying f = some .string) (hc : P.cellsOf e = 1) (hd : P.cellsOf f = 1) {v : Value} {d : DataW H} {ps : List MemPlace}
    (h : ∃ n, DataW.trod enc P W 0 (fun _ => true) held n t [v] = some (d, ps)) (hw : ∀ n ∈ d.weights P t, n ≤ reachBytes) :
    ∃ L : List (List ByteArray), Sss W v L ∧ L.length * P.bytesOf e ≤ reachBytes ∧ ∀ l ∈ L, l.length * P.bytesOf f ≤ reachBytes ∧ ∀ s ∈ l, s.size ≤ reachBytes := by
  obtain ⟨xs, h1, h2, h3⟩ := open_sa (α := Value × List ByteArray) (g := Prod.fst) (Q := fun x => Sa W x.1 (x.2.map Value.string) ∧ x.2.length * P.bytesOf f ≤ reachBytes ∧ ∀ s ∈ x.2, s.size ≤ reachBytes) ht hc h hw (fun V D Pl n hV hwV => by
    obtain ⟨ss, a1, a2, a3⟩ := open_sa_strings he hf hd ⟨n, hV⟩ hwV
    exact ⟨(V, ss), rfl, a1, a2, a3⟩)
  refine ⟨xs.map Prod.snd, ⟨xs.map Prod.fst, h1, by simp, fun i hi => ?_⟩, by simpa using h2, fun l hl => ?_⟩
  · have hi' : i < xs.length := by simpa using hi
    have := (h3 xs[i] (List.getElem_mem hi')).1
    simpa [List.getD_eq_getElem?_getD, hi'] using this
  · obtain ⟨x, hx, rfl⟩ := List.mem_map.1 hl
    exact (h3 x hx).2

/-- How much a list of lists of strings holds. -/
def wsum (l : List ByteArray) : Nat := (l.map (fun s => s.size + 1)).sum
def tot (L : List (List ByteArray)) : Nat := (L.map (fun l => wsum l + 1)).sum

theorem tot_le {L : List (List ByteArray)} {i : Nat} (hi : i < L.length) : wsum L[i] + 1 ≤ tot L := by
  induction L generalizing i with
  | nil => simp at hi
  | cons a L ih =>
    cases i with
    | zero => simp [tot]
    | succ i => have := ih (i := i) (by simpa using hi); simp [tot] at this ⊢; omega
theorem tot_len (L : List (List ByteArray)) : L.length ≤ tot L := by
  induction L with
  | nil => simp [tot]
  | cons a L ih => simp [tot] at ih ⊢; omega
theorem wsum_le {l : List ByteArray} {i : Nat} (hi : i < l.length) : l[i].size + 1 ≤ wsum l := by
  induction l generalizing i with
  | nil => simp at hi
  | cons a l ih =>
    cases i with
    | zero => simp [wsum]
    | succ i => have := ih (i := i) (by simpa using hi); simp [wsum] at this ⊢; omega
theorem wsum_len (l : List ByteArray) : l.length ≤ wsum l := by
  induction l with
  | nil => simp [wsum]
  | cons a L ih => simp [wsum] at ih ⊢; omega

end Go.Proofs.Ytooimjokbkbleaa
